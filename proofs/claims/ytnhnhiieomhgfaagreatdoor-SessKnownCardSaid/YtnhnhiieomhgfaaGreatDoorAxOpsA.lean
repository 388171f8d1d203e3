/-
  AX: one operation of the evaluator's is one of the machine's: all of them.
-/
import Derived.Test.YtnhnhiieomhgfaaGreatDoorAxOps9
namespace Go.AX
open Go.RowKit

section
variable {P : Program} {N : NN} {φ : Phi} {h h' : H} {w : World} {nt : Nat} {tm : T AV} {tmps : Array Value}

theorem max_rel {k k' : IntKind} {x y : Int} {ts : Array TypeId} {ty : TypeId} {args : Array Value} (ha : args.toList = [.int k x, .int k' y]) :
    (Builtin.max_ ts ty args).run P w = .ok (.int k (if y > x then y else x)) w ∧ (Builtin.min_ ts ty args).run P w = .ok (.int k (if y < x then y else x)) w := by
  constructor
  · simp only [Builtin.max_, ha, List.foldlM_cons, List.foldlM_nil, Builtin.max2, Sem.run_bind, Sem.run_pure, Result.andThen_ok]
  · simp only [Builtin.min_, ha, List.foldlM_cons, List.foldlM_nil, Builtin.min2, Sem.run_bind, Sem.run_pure, Result.andThen_ok]

theorem builtinA_rel (hr : HR N φ h w) (hN : N ≤ w.heap.size) {b : Builtin} {ts : Array TypeId} {ty : TypeId} {consts : Array Bool} {args : List AV} {cargs : Array Value} (ha : All2 (VR φ) args cargs.toList) :
    RR P N φ w ((builtin b ts ty consts cargs).run P w) (builtinA P b ts.toList args h) := by
  unfold builtinA
  split
  · rename_i t tr x xr hts
    have t0 : ts[0]? = some t := by rw [← Array.getElem?_toList, hts]; rfl
    obtain ⟨cx, cr, hc, hx, _⟩ := All2.cons_left.1 ha
    have a0 : cargs[0]? = some cx := by rw [← Array.getElem?_toList, hc]; rfl
    split
    · rename_i n hl
      have := lenA_rel (P := P) (ty := ty) hr t0 a0 hx hl
      exact (Pu.vok hr ⟨_, this, VR_int.2 rfl⟩).rr
    · trivial
  · rename_i t tr x xr hts
    have t0 : ts[0]? = some t := by rw [← Array.getElem?_toList, hts]; rfl
    obtain ⟨cx, cr, hc, hx, _⟩ := All2.cons_left.1 ha
    have a0 : cargs[0]? = some cx := by rw [← Array.getElem?_toList, hc]; rfl
    split
    · rename_i n hl
      have := capA_rel (P := P) (w := w) (ty := ty) t0 a0 hx hl
      exact (Pu.vok hr ⟨_, this, VR_int.2 rfl⟩).rr
    · trivial
  · rename_i t u tr s x xr hts
    have t0 : ts[0]? = some t := by rw [← Array.getElem?_toList, hts]; rfl
    have t1 : ts[1]? = some u := by rw [← Array.getElem?_toList, hts]; rfl
    obtain ⟨cs, cr, hc, hs, har⟩ := All2.cons_left.1 ha
    obtain ⟨cx, cr', hc', hx, _⟩ := All2.cons_left.1 har
    subst hc'
    have a0 : cargs[0]? = some cs := by rw [← Array.getElem?_toList, hc]; rfl
    have a1 : cargs[1]? = some cx := by rw [← Array.getElem?_toList, hc]; rfl
    split
    · rename_i e k ht hd
      exact vals_rr shape_appendZ fun v h' hv => appendZ_rel hr hN t0 t1 a0 a1 ht hd hs hx hv
    · rename_i e d hne ht hd
      exact vals_rr shape_append fun v h' hv => appendA_rel hr hN t0 t1 a0 a1 ht hd (fun k e => hne k e) hs hx hv
    · trivial
  · rename_i t tr s x xr hts
    have t0 : ts[0]? = some t := by rw [← Array.getElem?_toList, hts]; rfl
    obtain ⟨cs, cr, hc, hs, har⟩ := All2.cons_left.1 ha
    obtain ⟨cx, cr', hc', hx, _⟩ := All2.cons_left.1 har
    subst hc'
    have a0 : cargs[0]? = some cs := by rw [← Array.getElem?_toList, hc]; rfl
    have a1 : cargs[1]? = some cx := by rw [← Array.getElem?_toList, hc]; rfl
    split
    · rename_i e ht
      exact vals_rr shape_copy fun v h' hv => copyA_rel hr t0 a0 a1 ht hs hx hv
    · trivial
  · rename_i t tr m k kr hts
    have t0 : ts[0]? = some t := by rw [← Array.getElem?_toList, hts]; rfl
    obtain ⟨cs, cr, hc, hs, har⟩ := All2.cons_left.1 ha
    obtain ⟨cx, cr', hc', hx, _⟩ := All2.cons_left.1 har
    subst hc'
    have a0 : cargs[0]? = some cs := by rw [← Array.getElem?_toList, hc]; rfl
    have a1 : cargs[1]? = some cx := by rw [← Array.getElem?_toList, hc]; rfl
    split
    · rename_i h1 hd
      exact (deleteA_rel hr t0 a0 a1 hs hx hd).rr
    · trivial
  · rename_i k x k' y
    obtain ⟨cs, cr, hc, hs, har⟩ := All2.cons_left.1 ha
    obtain ⟨cx, cr', hc', hx, hnil⟩ := All2.cons_left.1 har
    rw [All2.nil_left] at hnil; subst hnil; subst hc'
    simp only [VR_int] at hs hx; subst hs; subst hx
    have := (max_rel (P := P) (w := w) (ts := ts) (ty := ty) hc).1
    refine (Pu.vok hr ⟨_, this, ?_⟩).rr
    rw [VR_int]
    cases Int.decLt x y with
    | isTrue q => simp [q]
    | isFalse q => simp [q]
  · rename_i k x k' y
    obtain ⟨cs, cr, hc, hs, har⟩ := All2.cons_left.1 ha
    obtain ⟨cx, cr', hc', hx, hnil⟩ := All2.cons_left.1 har
    rw [All2.nil_left] at hnil; subst hnil; subst hc'
    simp only [VR_int] at hs hx; subst hs; subst hx
    have := (max_rel (P := P) (w := w) (ts := ts) (ty := ty) hc).2
    refine (Pu.vok hr ⟨_, this, ?_⟩).rr
    rw [VR_int]
    cases Int.decLt y x with
    | isTrue q => simp [q]
    | isFalse q => simp [q]
  · rename_i k x k' y k'' z
    obtain ⟨cs, cr, hc, hs, har⟩ := All2.cons_left.1 ha
    obtain ⟨cx, cr', hc', hx, har'⟩ := All2.cons_left.1 har
    obtain ⟨cz, cr'', hc'', hz, hnil⟩ := All2.cons_left.1 har'
    rw [All2.nil_left] at hnil; subst hnil; subst hc''; subst hc'
    simp only [VR_int] at hs hx hz; subst hs; subst hx; subst hz
    refine (Pu.vok hr (m := Builtin.min_ ts ty cargs) ⟨.int k (minI (minI x y) z), ?_, VR_int.2 rfl⟩).rr
    have e : ∀ a b : Int, minI a b = if b < a then b else a := fun a b => by
      unfold minI
      cases Int.decLt b a with
      | isTrue q => simp [q]
      | isFalse q => simp [q]
    simp only [Builtin.min_, hc, List.foldlM_cons, List.foldlM_nil, Builtin.min2, Sem.run_bind, Sem.run_pure, Result.andThen_ok, e]
  · exact ⟨rfl, hr⟩
  · rename_i t v
    obtain ⟨cs, cr, hc, hs, hnil⟩ := All2.cons_left.1 ha
    rw [All2.nil_left] at hnil; subst hnil
    have hs' := hs
    simp only [VR_iface] at hs; obtain ⟨y, rfl, hy⟩ := hs
    refine ⟨.iface t y, ?_, hs', hr⟩
    have a0 : cargs.getD 0 .nilIface = .iface t y := by
      rw [Array.getD_eq_getD_getElem?, ← Array.getElem?_toList, hc]; rfl
    simp only [builtin, Sem.run_bind, a0, Instr.panic, run_goPanic, Result.andThen_halt]
  · rename_i x
    obtain ⟨cx, cr, hc, hx, hn⟩ := All2.cons_left.1 ha
    have := All2.nil_left.1 hn; subst this
    have hca : cargs = #[cx] := by cases cargs; simp_all
    subst hca
    cases hs : sliceDataA x with
    | none => trivial
    | some v => exact (Pu.vok hr (sliceDataA_rel hx hs)).rr
  · rename_i pt tr p n hts
    have t0 : ts[0]? = some pt := by rw [← Array.getElem?_toList, hts]; rfl
    obtain ⟨cp, cr, hc, hp, har⟩ := All2.cons_left.1 ha
    obtain ⟨ck, cr', hc', hk, hn⟩ := All2.cons_left.1 har
    have := All2.nil_left.1 hn; subst this
    subst hc'
    simp only [VR_int] at hk; subst hk
    have hca : cargs = #[cp, .int .i64 (Int.ofNat n)] := by cases cargs; simp_all
    subst hca
    exact vals_rr shape_unsafeStr fun v h' hv => unsafeStrA_rel hr t0 hp hv
  · trivial

theorem sureAddr_run {a : Addr} : (Instr.sureAddr (.pointer (some a))).run P w = .ok a w := rfl

theorem nilCheck_rel {v : AV} {c : Value} (n1 : v ≠ .nilptr) (n2 : v ≠ .nilIface) (n3 : v ≠ .nilFunc) (hc : VR φ v c) {x : Operand} (hx : ev tmps x = c) {dst : Option Tmp} {ty : TypeId} {pos : String} {after : Array Edge} {guard : Option (Nat × Bool)} :
    (execOp (ev tmps) { dst, op := .nilCheck x, type := ty, pos, after, guard }).run P w = .ok (.value c) w := by
  simp only [execOp, hx]
  cases v with
  | nilptr => exact absurd rfl n1
  | nilIface => exact absurd rfl n2
  | nilFunc => exact absurd rfl n3
  | slice b o len cp => obtain ⟨a, cc, rfl⟩ := VR_slice_some hc; rfl
  | bool b => simp at hc; subst hc; rfl
  | int k n => simp at hc; subst hc; rfl
  | str s => simp at hc; obtain ⟨b, rfl, _⟩ := hc; rfl
  | ptr b o => simp at hc; obtain ⟨L, _, rfl⟩ := hc; rfl
  | nilslice => simp at hc; subst hc; rfl
  | slice0 => simp at hc; obtain ⟨a, c, rfl⟩ := hc; rfl
  | nilmap => simp at hc; subst hc; rfl
  | map b => simp at hc; obtain ⟨L, _, rfl⟩ := hc; rfl
  | func f a b => simp at hc; obtain ⟨x, y, rfl, _⟩ := hc; rfl
  | yield l => simp at hc; obtain ⟨L, _, rfl⟩ := hc; rfl
  | iface t x => simp at hc; obtain ⟨y, rfl, _⟩ := hc; rfl
  | agg c => simp at hc; obtain ⟨y, rfl, _⟩ := hc; rfl
  | tuple c => simp at hc; obtain ⟨y, rfl, _⟩ := hc; rfl

theorem makeMap_rel (hr : HR N φ h w) (hN : N ≤ w.heap.size) {t k e : TypeId} (ht : P.underlying t = some (.map k e)) {r : Option Value} (hx : r = none ∨ ∃ k n, r = some (.int k n)) :
    VOk P N φ w (Instr.makeMap t r) (.map h.nx) (h.alloc (.map [] 0)) := by
  have hp := obj_push hr (o := .map [] 0) (O := .map #[] 0) (fun ψ _ => ⟨hN, #[], by simp, trivial⟩)
  refine ⟨_, .map (some w.heap.size), _, ?_, ?_, hp.2, hp.1, below_push _ hN⟩
  · rcases hx with rfl | ⟨k', n, rfl⟩
    · simp only [Instr.makeMap, Sem.run_bind, Sem.run_pure, Result.andThen_ok, run_newObj]
    · simp only [Instr.makeMap, Sem.run_bind, Sem.run_pure, Result.andThen_ok, run_newObj, run_underlying ht, asInt, asIntOf]
  · rw [VR_map]; exact ⟨_, Phi.ins_same _ _ _, rfl⟩

theorem execA_rel (hr : HR N φ h w) (hN : N ≤ w.heap.size) (tr : TR φ nt tm tmps) (o : Oper) : RR P N φ w ((execOp (ev tmps) o).run P w) (execA P tm h o.op) := by
  obtain ⟨dst, op, ty, pos, after, guard⟩ := o
  cases op with
  | move x => exact optV_rr hr (m := pure (ev tmps _)) fun v hv => ⟨_, rfl, evalA_rel tr hv⟩
  | assign x => exact optV_rr hr (m := pure (ev tmps _)) fun v hv => ⟨_, rfl, evalA_rel tr hv⟩
  | pick c a b =>
    simp only [execA]
    split
    · rename_i hc
      have := evalA_rel tr hc; simp only [VR_bool] at this
      simp only [execOp, this, asBool, Sem.run_bind, Sem.run_pure, Result.andThen_ok, if_true]
      exact optV_rr hr (m := pure (ev tmps _)) fun v hv => ⟨_, rfl, evalA_rel tr hv⟩
    · rename_i hc
      have := evalA_rel tr hc; simp only [VR_bool] at this
      simp only [execOp, this, asBool, Sem.run_bind, Sem.run_pure, Result.andThen_ok, Bool.false_eq_true, if_false]
      exact optV_rr hr (m := pure (ev tmps _)) fun v hv => ⟨_, rfl, evalA_rel tr hv⟩
    · trivial
  | alloc t =>
    simp only [execA]
    split
    · rename_i z hz; exact (allocOp_rel hr hN hz).rr
    · trivial
  | box t x =>
    simp only [execA]
    split
    · rename_i v hv
      split
      · rename_i ho; exact (boxOp_rel hr hN (evalA_rel tr hv) ho).rr
      · trivial
    · trivial
  | build t parts =>
    simp only [execA]
    split
    · rename_i l hl
      have := evalP_rel tr hl
      refine optV_rr hr fun v hv => buildA_rel hv ?_
      rw [Array.toList_map]; exact this
    · trivial
  | buildSlice t len parts =>
    simp only [execA]
    split
    · rename_i l hl
      have := evalP_rel tr hl
      refine vals_rr shape_buildSlice fun v h' hv => buildSliceA_rel hr hN hv ?_
      rw [Array.toList_map]; exact this
    · trivial
  | load t x =>
    simp only [execA]
    split
    · rename_i b o ht hx
      have := evalG_rel tr hr hx
      simp only [VR_ptr] at this; obtain ⟨L, hL, he⟩ := this
      refine optV_rr hr fun v hv => ?_
      obtain ⟨L', hL', hp⟩ := loadV_rel (P := P) hr hL ht hv
      rw [hL] at hL'; cases hL'
      obtain ⟨cv, h1, h2⟩ := hp
      exact ⟨cv, by simp only [Instr.loadAt, he, Sem.run_bind, sureAddr_run, Result.andThen_ok, h1], h2⟩
    · trivial
  | store t x y =>
    simp only [execA]
    split
    · rename_i b o v ht hx hy
      have := evalA_rel tr hx
      simp only [VR_ptr] at this; obtain ⟨L, hL, he⟩ := this
      refine optH_rr fun h' hv => ?_
      obtain ⟨L', hL', hp, _⟩ := storeV_rel (P := P) hr hL ht (evalA_rel tr hy) hv
      rw [hL] at hL'; cases hL'
      obtain ⟨φ', w', h1, h2⟩ := hp
      exact ⟨φ', w', by simp only [Instr.storeAt, he, Sem.run_bind, sureAddr_run, Result.andThen_ok, h1], h2⟩
    · trivial
  | nilCheck x =>
    simp only [execA]
    split
    · trivial
    · trivial
    · trivial
    · rename_i v n1 n2 n3 hv
      have hx := evalA_rel tr hv
      exact ⟨φ, _, w, nilCheck_rel (fun e => n1 e) (fun e => n2 e) (fun e => n3 e) hx rfl, hx, φ.le_refl, hr, Below.refl _ _⟩
    · trivial
  | binOp op t x y ty =>
    simp only [execA]
    split
    · rename_i a b ha hb
      exact optV_rr hr fun v hv => binA_rel hv (evalA_rel tr ha) (evalA_rel tr hb)
    · trivial
  | unOp op t x =>
    simp only [execA]
    split
    · rename_i v hv; exact optV_rr hr fun u hu => unA_rel hu (evalA_rel tr hv)
    · trivial
  | convert s d x =>
    simp only [execA]
    split
    · rename_i v hv
      split
      · rename_i t0 hs hd; exact vals_rr shape_toUnsafe fun u h' hu => toUnsafeA_rel hr hs hd (evalA_rel tr hv) hu
      · rename_i u0 hs hd; exact vals_rr shape_fromUnsafe fun u h' hu => fromUnsafeA_rel hr hs hd (evalA_rel tr hv) hu
      · exact vals_rr shape_convert fun u h' hu => convertA_rel hr hN (evalA_rel tr hv) hu
    · trivial
  | makeInterface t x =>
    simp only [execA]
    split
    · trivial
    · rename_i d v hne hd hv
      have hx := evalA_rel tr hv
      refine (Pu.vok hr ⟨.iface t (ev tmps x), ?_, VR_iface.2 ⟨_, rfl, hx⟩⟩).rr
      simp only [Instr.makeInterface, Sem.run_bind, run_underlying hd, Result.andThen_ok]
      cases d <;> first | rfl | exact absurd rfl (hne _)
    · trivial
  | makeFunc fn first cap =>
    cases fn with
    | func f =>
      simp only [execA]
      split
      · rename_i a b ha hb
        refine (Pu.vok hr ⟨_, rfl, ?_⟩).rr
        rw [VR_func]
        exact ⟨_, _, rfl, by rw [Array.toList_map]; exact evalsA_rel tr ha, by rw [Array.toList_map]; exact evalsA_rel tr hb⟩
      · trivial
    | _ => trivial
  | makeMap t r =>
    simp only [execA]
    split
    · rename_i ht hr'
      have := evalO_rel tr hr'
      exact (makeMap_rel hr hN ht (.inl this)).rr
    · rename_i ht hr'
      obtain ⟨c, hc, hv⟩ := evalO_rel tr hr'
      simp only [VR_int] at hv; subst hv
      exact (makeMap_rel hr hN ht (.inr ⟨_, _, hc⟩)).rr
    · trivial
  | makeSlice t l c =>
    simp only [execA]
    split
    · rename_i l c hl hc
      exact vals_rr shape_makeSlice fun v h' hv => makeSliceA_rel hr hN hv (evalA_rel tr hl) (evalA_rel tr hc)
    · trivial
  | slice t x lo hi mx =>
    simp only [execA]
    split
    · rename_i x lo hi mx h1 h2 h3 h4
      exact optV_rr hr fun v hv => sliceA_rel (evalA_rel tr h1) hv (evalO_rel tr h2) (evalO_rel tr h3) (evalO_rel tr h4)
    · trivial
  | fieldAddr t x i =>
    simp only [execA]
    split
    · rename_i v hv; exact optV_rr hr fun u hu => fieldAddrA_rel (evalG_rel tr hr hv) hu
    · trivial
  | field t x i =>
    simp only [execA]
    split
    · rename_i v hv; exact optV_rr hr fun u hu => fieldA_rel (evalA_rel tr hv) hu
    · trivial
  | indexAddr t x i =>
    simp only [execA]
    split
    · rename_i a b ha hb; exact optV_rr hr fun u hu => indexAddrA_rel (evalG_rel tr hr ha) (evalA_rel tr hb) hu
    · trivial
  | index t x i =>
    simp only [execA]
    split
    · rename_i a b ha hb; exact optV_rr hr fun u hu => indexA_rel (evalA_rel tr ha) (evalA_rel tr hb) hu
    · trivial
  | lookup t x i ok =>
    simp only [execA]
    split
    · rename_i a b ha hb; exact optV_rr hr fun u hu => lookupA_rel hr (evalA_rel tr ha) (evalA_rel tr hb) hu
    · trivial
  | mapUpdate t m k x =>
    simp only [execA]
    split
    · rename_i a b c ha hb hc; exact optH_rr fun h' hv => updateA_rel hr (evalA_rel tr ha) (evalA_rel tr hb) (evalA_rel tr hc) hv
    · trivial
  | insert t m k x =>
    simp only [execA]
    split
    · rename_i a b c ha hb hc; exact optH_rr fun h' hv => updateA_rel hr (evalA_rel tr ha) (evalA_rel tr hb) (evalA_rel tr hc) hv
    · trivial
  | mapEntry t m k =>
    simp only [execA]
    split
    · rename_i a b ha hb; exact vals_rr shape_mapEntry fun v h' hv => mapEntryA_rel hr (evalA_rel tr ha) (evalA_rel tr hb) hv
    · trivial
  | entryStore t m s x =>
    simp only [execA]
    split
    · rename_i a b c ha hb hc; exact optH_rr fun h' hv => entryStoreA_rel hr (evalA_rel tr ha) (evalA_rel tr hb) (evalA_rel tr hc) hv
    · trivial
  | range t x =>
    simp only [execA]
    split
    · rename_i v hv; exact vals_rr shape_range fun u h' hu => rangeA_rel hr hN (evalA_rel tr hv) hu
    · trivial
  | next x s =>
    simp only [execA]
    split
    · rename_i v hv; exact vals_rr shape_next fun u h' hu => nextA_rel hr (evalA_rel tr hv) hu
    · trivial
  | entry x =>
    simp only [execA]
    split
    · rename_i v hv; exact optV_rr hr fun u hu => entryA_rel hr (evalA_rel tr hv) hu
    · trivial
  | extract x i =>
    simp only [execA]
    split
    · rename_i vs hv
      have := evalA_rel tr hv
      simp only [VR_tuple] at this; obtain ⟨a, he, ha⟩ := this
      refine optV_rr hr fun v hvi => ?_
      obtain ⟨c, hc, hR⟩ := ha.get hvi
      rw [Array.getElem?_toList] at hc
      exact ⟨c, by simp only [Instr.extract, he, hc, Sem.run_pure], hR⟩
    · trivial
  | call c =>
    obtain ⟨callee, args, argTypes⟩ := c
    simp only [execA]
    split
    · trivial
    · rename_i vs hvs
      have hargs : All2 (VR φ) vs (args.map (ev tmps)).toList := by rw [Array.toList_map]; exact evalsA_rel tr hvs
      cases callee with
      | value f =>
        simp only
        split
        · rename_i f' hf
          have := callV_rel (P := P) hr (evalA_rel tr hf) hargs
          simpa only [execOp, resolve, Sem.run_bind] using this
        · trivial
      | builtin b =>
        simp only [execOp, resolve, Sem.run_bind, Sem.run_pure, Result.andThen_ok, invoke]
        exact builtinA_rel (P := P) hr hN hargs
      | invoke r m => trivial
  | defer c =>
    obtain ⟨callee, args, argTypes⟩ := c
    cases callee with
    | value f =>
      simp only [execA]
      split
      · rename_i g first cap vs hf hvs
        split
        · rename_i he
          have hargs : All2 (VR φ) vs (args.map (ev tmps)).toList := by rw [Array.toList_map]; exact evalsA_rel tr hvs
          have := evalA_rel tr hf
          simp only [VR_func] at this; obtain ⟨a, b, hfe, h1, h2⟩ := this
          refine ⟨{ target := .fn (.func g) b, args := a ++ args.map (ev tmps) }, ?_, ⟨_, _, rfl, by rw [Array.toList_append]; exact h1.append hargs, h2⟩, hr⟩
          simp only [execOp, resolve, hfe, Deferred.ofValue, Sem.run_bind, Sem.run_pure, Result.andThen_ok]
        · trivial
      · trivial
    | builtin b => trivial
    | invoke r m => trivial
  | panic x =>
    simp only [execA]
    split
    · rename_i t v hv
      have hx := evalA_rel tr hv
      have hx' := hx
      simp only [VR_iface] at hx; obtain ⟨y, he, hy⟩ := hx
      refine ⟨ev tmps x, ?_, hx', hr⟩
      simp only [execOp, he, Instr.panic, Sem.run_bind, run_goPanic, Result.andThen_halt]
    · trivial
  | _ => trivial

end
end Go.AX
