/-
  AX: operations: copy, conversions, lengths, maps, walks over them.
-/
import Derived.Test.YtnhnhiieomhgfaaGreatDoorAxOps5
namespace Go.AX
open Go.RowKit

section
variable {P : Program} {N : NN} {φ : Phi} {h h' : H} {w : World}

theorem copyA_rel (hr : HR N φ h w) {ts : Array TypeId} {args : Array Value} {ty t e : TypeId} {s x v : AV} {cs cx : Value}
    (t0 : ts[0]? = some t) (a0 : args[0]? = some cs) (a1 : args[1]? = some cx)
    (ht : P.underlying t = some (.slice e)) (hs : VR φ s cs) (hx : VR φ x cx) (ha : copyA P e s x h = .val v h') :
    VOk P N φ w (Builtin.copy_ ts ty args) v h' := by
  unfold copyA at ha
  split at ha
  · rename_i dl n hdl hn
    simp only at ha
    split at ha
    · cases ha
    · rename_i l hl
      have hle : Nat.min n dl ≤ n := Nat.min_le_left _ _
      have hln := lenOfA_rel (P := P) (w := w) hx hn
      split at ha
      · rename_i hok
        simp only [VR_nilslice] at hs; subst hs
        simp only [lenOfA, Option.some.injEq] at hdl; subst hdl
        obtain ⟨arr, r1, r2, r3⟩ := srcA_rel (P := P) hr hx hn hle hl
        simp only [R.val.injEq] at ha; obtain ⟨rfl, rfl⟩ := ha
        refine ⟨φ, _, w, ?_, VR_int.2 rfl, φ.le_refl, hr, Below.refl _ _⟩
        simp only [Builtin.copy_, t0, a0, a1, Sem.run_bind, run_underlying ht, Result.andThen_ok, hln, sizeOf_run e hok, r1, Sem.run_pure]
        rfl
      · rename_i hok
        simp only [VR_slice0] at hs; obtain ⟨a, c, rfl⟩ := hs
        simp only [lenOfA, Option.some.injEq] at hdl; subst hdl
        obtain ⟨arr, r1, r2, r3⟩ := srcA_rel (P := P) hr hx hn hle hl
        have h0 : Nat.min n 0 = 0 := Nat.min_eq_right (Nat.zero_le _)
        have he : arr.toList = [] := by
          have hl' : l = [] := by
            rw [h0] at hl
            cases x with
            | nilslice => simp only [srcA, Option.some.injEq] at hl; exact hl.symm
            | slice0 => simp only [srcA, Option.some.injEq] at hl; exact hl.symm
            | slice b o len c =>
              simp only [srcA, Nat.zero_mul, H.row] at hl
              split at hl
              · simp only [H.loadCells, Option.some.injEq] at hl; exact hl.symm
              · cases hl
            | str s => simp only [srcA, List.take_zero, List.map_nil, Option.some.injEq] at hl; exact hl.symm
            | _ => simp [srcA] at hl
          subst hl'; exact All2.nil_left.1 r2
        simp only [R.val.injEq] at ha; obtain ⟨rfl, rfl⟩ := ha
        refine ⟨φ, _, w, ?_, VR_int.2 rfl, φ.le_refl, hr, Below.refl _ _⟩
        simp only [Builtin.copy_, t0, a0, a1, Sem.run_bind, run_underlying ht, Result.andThen_ok, hln, sizeOf_run e hok, r1, he, storeCells, Sem.run_pure]
        rfl
      · rename_i b o len c hok
        obtain ⟨L, cap, hL, rfl⟩ := slice_addr hs
        simp only [lenOfA, Option.some.injEq] at hdl; subst hdl
        obtain ⟨arr, r1, r2, r3⟩ := srcA_rel (P := P) hr hx hn hle hl
        split at ha
        · rename_i h1 hput
          cases ha
          obtain ⟨L', w', hL', p1, p2, p3, _, _⟩ := put_rel (P := P) hr hL hput r2
          rw [hL] at hL'; cases hL'
          refine ⟨φ, _, w', ?_, VR_int.2 rfl, φ.le_refl, p2, p3⟩
          simp only [Builtin.copy_, t0, a0, a1, Sem.run_bind, run_underlying ht, Result.andThen_ok, hln, sizeOf_run e hok, r1, p1, Sem.run_pure]
          rfl
        · cases ha
      · cases ha
  · cases ha

/-! ## conversions -/

theorem bytesA_rel : ∀ {l : List AV} {s : List Nat} {cl : List Value}, bytesA l = some s → All2 (VR φ) l cl →
    ∃ ns : List Int, cl = ns.map (Value.int .u8) ∧ s = ns.map (fun n => (UInt8.ofNat n.toNat).toNat)
  | [], s, cl, hb, hl => by
    rw [All2.nil_left] at hl; subst hl
    simp only [bytesA, Option.some.injEq] at hb; subst hb
    exact ⟨[], rfl, rfl⟩
  | a :: l, s, cl, hb, hl => by
    obtain ⟨c, cr, rfl, h1, h2⟩ := All2.cons_left.1 hl
    unfold bytesA at hb
    split at hb
    · rename_i e; cases e
    · rename_i n l' e
      cases e
      split at hb
      · rename_i s' hs'
        cases hb
        obtain ⟨ns, rfl, rfl⟩ := bytesA_rel hs' h2
        simp only [VR_int] at h1; subst h1
        exact ⟨(n : Int) :: ns, rfl, by simp⟩
      · cases hb
    · cases hb

theorem foldl_push_bytes : ∀ (ns : List Int) (s : ByteArray), bytesOf (ns.foldl (fun r n => r.push (UInt8.ofNat n.toNat)) s) = bytesOf s ++ ns.map (fun n => (UInt8.ofNat n.toNat).toNat)
  | [], s => by simp
  | n :: ns, s => by
    simp only [List.foldl_cons, foldl_push_bytes ns, List.map_cons]
    simp [bytesOf, ByteArray.push]

theorem stringToBytes_rel (hr : HR N φ h w) (hN : N ≤ w.heap.size) {e : TypeId} {s : ByteArray} :
    VOk P N φ w (Conv.stringToBytes e s) (.slice h.nx 0 (bytesOf s).length (.opn 0)) (h.grown none ⟨1, e + 1⟩ ((bytesOf s).map fun b => .int .u8 (Int.ofNat b))) := by
  have ls : (bytesOf s).length = s.size := by simp [bytesOf]
  have hq : (Question.appendCap s.size 0 e).forced = false := rfl
  obtain ⟨cap, hcap⟩ : ∃ cap, cap = (Question.appendCap s.size 0 e).cut (w.tape w.drawn (.appendCap s.size 0 e)) := ⟨_, rfl⟩
  have hle : s.size ≤ cap := by rw [hcap]; simp [Question.cut]
  obtain ⟨c, hc⟩ : ∃ c : Array Value, c = (s.data.map fun b => Value.int .u8 b.toNat) ++ Array.replicate (cap - s.size) (.int .u8 0) := ⟨_, rfl⟩
  have hcs : c.size = cap := by rw [hc]; simp; exact Nat.add_sub_cancel' (by simpa using hle)
  obtain ⟨w', hw'⟩ : ∃ w' : World, w' = { w with heap := w.heap.push (.cells c e (cap, cap + 1)), drawn := w.drawn + 1 } := ⟨_, rfl⟩
  have hrun : (Conv.stringToBytes e s).run P w = .ok (.slice (some ⟨w.heap.size, 0, none⟩) s.size cap) w' := by
    simp only [Conv.stringToBytes, Sem.run_bind, run_choose, hq, Bool.false_eq_true, if_false, Result.andThen_ok, ← hcap, ← hc, newRow, run_newObj, Sem.run_pure, markStringish, run_shape]
    have hshape : ({ w with heap := w.heap.push (.cells c e), drawn := w.drawn + 1 } : World).shape? w.heap.size = some (e, cap) := by
      simp [World.shape?, hcs]
    simp only [hshape, run_freeze, Result.andThen_ok]
    congr 1
    rw [hw']
    unfold World.freeze
    simp only [Nat.add_one_ne_zero, if_false]
    congr 1
    apply Array.ext_getElem?
    intro k
    rw [Array.getElem?_modify]
    by_cases q : w.heap.size = k
    · subst q; simp
    · rw [if_neg q, Array.getElem?_push, Array.getElem?_push, if_neg (fun x => q x.symm), if_neg (fun x => q x.symm)]
  have hl : All2 (VR φ) ((bytesOf s).map fun b => AV.int .u8 (Int.ofNat b)) (s.data.map fun b => Value.int .u8 b.toNat).toList := by
    rw [Array.toList_map, All2.map_left, All2.map_right, bytesOf, All2.map_left]
    exact All2.same (fun a => by simp) _
  have hg := grown_new hr hN (t := e) (esz := ⟨1, e + 1⟩) (K := cap) (rest := Array.replicate (cap - s.size) (.int .u8 0)) hl
    (by intro a ha; simp only [List.mem_map] at ha; obtain ⟨_, _, rfl⟩ := ha; rfl) (by simp; omega) (fun _ => rfl) (cap, cap + 1) (.inr (by rw [Nat.mul_one])) w' (by rw [hw', hc]) none
  refine ⟨_, _, w', hrun, ?_, hg.2, hg.1, ?_⟩
  · rw [VR_sliceOp]
    exact ⟨_, Phi.ins_same _ _ _, by rw [ls]; simp, by rw [ls]; simpa using hle⟩
  · rw [hw']; exact below_eq hN rfl rfl rfl rfl

theorem convertA_rel (hr : HR N φ h w) (hN : N ≤ w.heap.size) {src dst : TypeId} {x v : AV} {cx : Value} (hx : VR φ x cx) (hc : convertA P src dst x h = .val v h') :
    VOk P N φ w (convert src dst cx) v h' := by
  unfold convertA at hc
  split at hc
  · rename_i d k k' n hs hd
    simp only [VR_int] at hx; subst hx
    simp only [forceInt_eq, wrapF_eq] at hc; cases hc
    refine Pu.vok hr ⟨_, ?_, VR_int.2 rfl⟩
    simp only [convert, Sem.run_bind, run_underlying hs, run_underlying hd, Result.andThen_ok]
    cases d <;> rfl
  · rename_i d s hs hd
    cases hc
    simp only [VR_str] at hx; obtain ⟨b, rfl, rfl⟩ := hx
    refine Pu.vok hr ⟨.string b, ?_, VR_str.2 ⟨_, rfl, rfl⟩⟩
    simp only [convert, Sem.run_bind, run_underlying hs, run_underlying hd, Result.andThen_ok]
    cases d <;> rfl
  · rename_i d e s hs hd
    simp only [VR_str] at hx; obtain ⟨b, rfl, rfl⟩ := hx
    split at hc
    · rename_i he hsm
      cases hc
      have := stringToBytes_rel (P := P) hr hN (e := e) (s := b)
      obtain ⟨φ', cv, w', h1, h2⟩ := this
      refine ⟨φ', cv, w', ?_, h2⟩
      simp only [convert, Sem.run_bind, run_underlying hs, run_underlying hd, Result.andThen_ok]
      cases d <;> simp only [run_underlying he, Result.andThen_ok, h1]
    · cases hc
  · rename_i e hs hd
    split at hc
    · rename_i he
      cases hc
      simp only [VR_nilslice] at hx; subst hx
      refine Pu.vok hr ⟨.string .empty, ?_, VR_str.2 ⟨_, rfl, rfl⟩⟩
      simp only [convert, Sem.run_bind, run_underlying hs, run_underlying hd, Result.andThen_ok, run_underlying he, Conv.bytesToString, Sem.run_pure]
    · cases hc
  · rename_i e hs hd
    split at hc
    · rename_i he
      cases hc
      simp only [VR_slice0] at hx; obtain ⟨a, c, rfl⟩ := hx
      refine Pu.vok hr ⟨.string .empty, ?_, VR_str.2 ⟨_, rfl, rfl⟩⟩
      rw [run_convert_bytes_string w src dst e _ _ _ hs he hd]
      exact run_bytesToString w a 0 c [] rfl
    · cases hc
  · rename_i e b o len c hs hd
    split at hc
    · rename_i he
      split at hc
      · rename_i l hrow
        split at hc
        · rename_i s hby
          cases hc
          obtain ⟨L, cap, hL, rfl⟩ := slice_addr hx
          obtain ⟨L', cl, hL', r1, r2, r3, r4⟩ := row_rel (P := P) hr hL hrow
          rw [hL] at hL'; cases hL'
          obtain ⟨ns, rfl, rfl⟩ := bytesA_rel hby r2
          refine Pu.vok hr ⟨.string (ns.foldl (fun r n => r.push (UInt8.ofNat n.toNat)) ByteArray.empty), ?_, VR_str.2 ⟨_, rfl, ?_⟩⟩
          · rw [run_convert_bytes_string w src dst e _ _ _ hs he hd]
            exact run_bytesToString w _ len cap ns r1
          · rw [foldl_push_bytes]; rfl
        · cases hc
      · cases hc
    · cases hc
  · cases hc

/-! ## lengths -/

theorem lenA_rel (hr : HR N φ h w) {ts : Array TypeId} {args : Array Value} {ty t : TypeId} {x : AV} {cx : Value} {n : Nat} (t0 : ts[0]? = some t) (a0 : args[0]? = some cx)
    (hx : VR φ x cx) (hl : lenA P t x h = some n) : (Builtin.len_ ts ty args).run P w = .ok (.int .i64 (Int.ofNat n)) w := by
  unfold lenA at hl
  split at hl
  · rename_i s hu
    simp only [VR_str] at hx; obtain ⟨b, rfl, rfl⟩ := hx
    simp only [Option.some.injEq] at hl; subst hl
    have ls : (bytesOf b).length = b.size := by simp [bytesOf]
    simp only [Builtin.len_, t0, a0, Sem.run_bind, run_underlying hu, Result.andThen_ok, Sem.run_pure, ls]; rfl
  · rename_i k e _ hu
    simp only [Option.some.injEq] at hl; subst hl
    simp only [Builtin.len_, t0, a0, Sem.run_bind, run_underlying hu, Result.andThen_ok, Sem.run_pure]; rfl
  · rename_i a _ hu
    split at hl
    · rename_i k e ha
      simp only [Option.some.injEq] at hl; subst hl
      simp only [Builtin.len_, t0, a0, Sem.run_bind, run_underlying hu, Result.andThen_ok, Sem.run_pure, run_underlying ha]; rfl
    · cases hl
  · rename_i e hu
    simp only [VR_nilslice] at hx; subst hx
    simp only [Option.some.injEq] at hl; subst hl
    simp only [Builtin.len_, t0, a0, Sem.run_bind, run_underlying hu, Result.andThen_ok, Sem.run_pure]; rfl
  · rename_i e hu
    simp only [VR_slice0] at hx; obtain ⟨a, c, rfl⟩ := hx
    simp only [Option.some.injEq] at hl; subst hl
    simp only [Builtin.len_, t0, a0, Sem.run_bind, run_underlying hu, Result.andThen_ok, Sem.run_pure]; rfl
  · rename_i e b o len c hu
    obtain ⟨a, cap, rfl⟩ := VR_slice_some hx
    simp only [Option.some.injEq] at hl; subst hl
    simp only [Builtin.len_, t0, a0, Sem.run_bind, run_underlying hu, Result.andThen_ok, Sem.run_pure]; rfl
  · rename_i k e hu
    simp only [VR_nilmap] at hx; subst hx
    simp only [Option.some.injEq] at hl; subst hl
    simp only [Builtin.len_, t0, a0, Sem.run_bind, run_underlying hu, Result.andThen_ok, Sem.run_pure]; rfl
  · rename_i k e r hu
    split at hl
    · rename_i es clock hb
      simp only [Option.some.injEq] at hl; subst hl
      simp only [VR_map] at hx; obtain ⟨L, hL, rfl⟩ := hx
      obtain ⟨hN, ces, g1, g2⟩ := hr.get hb hL
      have : es.length = ces.size := by rw [g2.length]; simp
      simp only [Builtin.len_, t0, a0, Sem.run_bind, run_underlying hu, Result.andThen_ok, getObj, Sem.run, g1, Sem.run_pure, this]; rfl
    · cases hl
  · cases hl

theorem capA_rel {ts : Array TypeId} {args : Array Value} {ty t : TypeId} {x : AV} {cx : Value} {n : Nat} (t0 : ts[0]? = some t) (a0 : args[0]? = some cx)
    (hx : VR φ x cx) (hl : capA P t x = some n) : (Builtin.cap_ ts ty args).run P w = .ok (.int .i64 (Int.ofNat n)) w := by
  unfold capA at hl
  split at hl
  · rename_i k e _ hu
    simp only [Option.some.injEq] at hl; subst hl
    simp only [Builtin.cap_, t0, a0, Sem.run_bind, run_underlying hu, Result.andThen_ok, Sem.run_pure]; rfl
  · rename_i e hu
    simp only [VR_nilslice] at hx; subst hx
    simp only [Option.some.injEq] at hl; subst hl
    simp only [Builtin.cap_, t0, a0, Sem.run_bind, run_underlying hu, Result.andThen_ok, Sem.run_pure]; rfl
  · rename_i e b o len c hu
    simp only [VR_sliceEx] at hx; obtain ⟨L, hL, rfl⟩ := hx
    simp only [Option.some.injEq] at hl; subst hl
    simp only [Builtin.cap_, t0, a0, Sem.run_bind, run_underlying hu, Result.andThen_ok, Sem.run_pure]; rfl
  · cases hl

/-! ## maps -/

theorem getObj_run {r : Nat} {o : Obj} (hg : w.heap[r]? = some o) (hc : ∀ c t f, o ≠ .cells c t f) : (getObj r).run P w = .ok o w := by
  cases o <;> first | exact absurd rfl (hc _ _ _) | simp only [getObj, Sem.run, hg]

theorem setObj_run {r : Nat} {o o' : Obj} (hg : w.heap[r]? = some o) (hc : ∀ c t f, o ≠ .cells c t f) : (setObj r o').run P w = .ok () (setB w r o') := by
  cases o <;> first | exact absurd rfl (hc _ _ _) | (simp only [setObj, Sem.run, hg]; rfl)

/-! ## unsafe.SliceData, unsafe.String -/

theorem liesAt_row {e : TypeId} (hc : P.cellsOf e = 1) (count off n : Nat) (hn : off + n ≤ count) : liesAt P P.depth e count off e n = true := by
  have hd : P.depth = (2 * (P.types.size + Made.depth) + 1) + 1 := rfl
  rw [hd]
  simp only [liesAt, Bool.or_eq_true]
  left
  rw [hd]
  simp [rowAt, hc, hn, sameLayout]
  exact .inl (Nat.mod_one off)

theorem run_loadBytesN : ∀ (l : List Int) (a : Addr) (acc : ByteArray), (∀ j x, l[j]? = some x → w.cell? (a.add j) = some (.int .u8 x)) →
    (loadBytes a acc l.length).run P w = .ok ⟨acc.data ++ (l.map fun n => UInt8.ofNat n.toNat).toArray⟩ w
  | [], a, acc, _ => by simp [loadBytes]
  | x :: l, a, acc, h => by
    have h0 : w.cell? a = some (.int .u8 x) := by
      have := h 0 x rfl
      simpa [Addr.add] using this
    have ih := run_loadBytesN l (a.add 1) (acc.push x.toNat.toUInt8) (fun j y hy => by
      have := h (j + 1) y (by simpa using hy)
      have e : (a.add 1).add j = a.add (j + 1) := by
        unfold Addr.add
        by_cases hj : j = 0
        · subst hj; simp
        · simp [hj]; omega
      rw [e]; exact this)
    simp only [List.length_cons, loadBytes, Sem.run_bind, run_load, h0, Result.andThen]
    rw [ih]
    congr 1
    apply ByteArray.ext
    simp [ByteArray.push]

theorem sliceDataA_rel {x v : AV} {cx : Value} {ts : Array TypeId} {ty : TypeId} (hx : VR φ x cx) (hu : sliceDataA x = some v) : Pu P φ w (Builtin.unsafeSliceData_ ts ty #[cx]) v := by
  unfold sliceDataA at hu
  split at hu
  · simp only [VR_nilslice] at hx; subst hx
    cases hu
    exact ⟨.pointer none, rfl, VR_nilptr.2 rfl⟩
  · rename_i b o len c
    split at hu
    · rename_i c'
      split at hu
      · cases hu
      · rename_i h0
        cases hu
        have h0 := Nat.ne_of_beq_eq_false h0
        simp only [VR_sliceEx] at hx; obtain ⟨L, hL, rfl⟩ := hx
        obtain ⟨k, rfl⟩ : ∃ k, c' = k + 1 := ⟨c' - 1, by omega⟩
        exact ⟨_, rfl, VR_ptr.2 ⟨L, hL, rfl⟩⟩
    · rename_i i
      split at hu
      · cases hu
      · rename_i h0
        cases hu
        have h0 := Nat.ne_of_beq_eq_false h0
        simp only [VR_sliceOp] at hx; obtain ⟨L, hL, rfl, hK⟩ := hx
        obtain ⟨k, hk⟩ : ∃ k, L.K - i = k + 1 := ⟨L.K - i - 1, by omega⟩
        rw [hk]
        exact ⟨_, rfl, VR_ptr.2 ⟨L, hL, rfl⟩⟩
  · cases hu

theorem freeze_get {a : Addr} {n : Nat} {c : Array Value} {t : TypeId} {frz : Nat × Nat} (hb : w.heap[a.block]? = some (.cells c t frz)) : ∃ frz', (w.freeze a n).heap[a.block]? = some (.cells c t frz') := by
  unfold World.freeze
  split
  · exact ⟨_, hb⟩
  · simp only [Array.getElem?_modify, if_true, hb, Option.map_some]
    exact ⟨_, rfl⟩

theorem freeze_other {a : Addr} {n k : Nat} (hk : k ≠ a.block) : (w.freeze a n).heap[k]? = w.heap[k]? := by
  unfold World.freeze
  split
  · rfl
  · simp only [Array.getElem?_modify]; rw [if_neg (fun e => hk e.symm)]

theorem freeze_below {a : Addr} {n : Nat} {B : Nat} (h : B ≤ a.block) : Below B w (w.freeze a n) := by
  unfold World.freeze
  split
  · exact Below.refl B w
  · exact ⟨rfl, rfl, rfl, by simp, fun k hk => by
      simp only [Array.getElem?_modify]
      rw [if_neg (by omega)]⟩

theorem unsafeStrA_rel (hr : HR N φ h w) {p v : AV} {cp : Value} {n : Nat} {ts : Array TypeId} {pt ty : TypeId} (t0 : ts[0]? = some pt) (hp : VR φ p cp) (hu : unsafeStrA P pt p n h = .val v h') :
    VOk P N φ w (Builtin.unsafeString_ ts ty #[cp, .int .i64 (Int.ofNat n)]) v h' := by
  unfold unsafeStrA at hu
  split at hu
  · split at hu
    · cases hu
      simp only [VR_nilptr] at hp; subst hp
      refine Pu.vok hr ⟨.string .empty, ?_, by rw [VR_str]; exact ⟨_, rfl, rfl⟩⟩
      have hdef : Builtin.unsafeString_ ts ty #[.pointer none, .int .i64 (Int.ofNat 0)] =
          (do
            let n ← asInt (.int .i64 0)
            let some pt := ts[0]? | stuck "unsafe.String: no argument types"
            if n < 0 then runtimePanic (.error "unsafe.String: len out of range")
            if n > IntKind.i64.max then unsupported (.unsafePointer "String: a length above the largest int")
            if n = 0 then pure (.string .empty)
            else runtimePanic (.error "unsafe.String: ptr is nil and len is not zero")) := rfl
      rw [hdef]
      have hmax : IntKind.i64.max = 9223372036854775807 := rfl
      simp [asInt, asIntOf, hmax, t0]
    · cases hu
      simp only [VR_ptr] at hp; obtain ⟨L, hL, rfl⟩ := hp
      refine Pu.vok hr ⟨.string .empty, ?_, by rw [VR_str]; exact ⟨_, rfl, rfl⟩⟩
      rename_i b o
      have hdef : Builtin.unsafeString_ ts ty #[.pointer (some ⟨L.B, L.base + o, none⟩), .int .i64 (Int.ofNat 0)] =
          (do
            let n ← asInt (.int .i64 0)
            let some pt := ts[0]? | stuck "unsafe.String: no argument types"
            if n < 0 then runtimePanic (.error "unsafe.String: len out of range")
            if n > IntKind.i64.max then unsupported (.unsafePointer "String: a length above the largest int")
            if n = 0 then pure (.string .empty)
            else if ← variablesAt ⟨L.B, L.base + o, none⟩ (← elemOf pt) n.toNat then do
              let s ← loadBytes ⟨L.B, L.base + o, none⟩ .empty n.toNat
              freeze ⟨L.B, L.base + o, none⟩ n.toNat
              pure (.string s)
            else unsupported (.unsafePointer "String: not so many bytes at ptr")) := rfl
      rw [hdef]
      have hmax : IntKind.i64.max = 9223372036854775807 := rfl
      simp [asInt, asIntOf, hmax, t0]
    · cases hu
  · rename_i m
    split at hu
    · rename_i b o e hpt
      simp only [VR_ptr] at hp; obtain ⟨L, hL, rfl⟩ := hp
      split at hu
      · rename_i mm cs esz hb
        split at hu
        · rename_i l hchk hl
          split at hu
          · rename_i s hs
            cases hu
            simp only [Bool.and_eq_true] at hchk
            obtain ⟨⟨⟨k1, k2⟩, k3⟩, k4⟩ := hchk
            have k1 := Nat.eq_of_beq_eq_true k1
            have k2 := Nat.eq_of_beq_eq_true k2
            have k4 := small_le k4
            have hor := hr.get hb hL
            have hor' := hor
            obtain ⟨cl, q1, q2, q3, q4⟩ := loadCells_rel hor _ _ _ hl
            obtain ⟨ns, rfl, rfl⟩ := bytesA_rel hs q1
            obtain ⟨c, t, frz, g1, g2, g3, g4, g5⟩ := hor
            obtain ⟨hN, _⟩ := g4 rfl
            have ht : t = e := by
              have := g5.2.2 (by rw [k1]; exact Nat.succ_ne_zero _)
              rw [k1] at this
              exact Nat.succ.inj this
            subst ht
            have hlen : ns.length = m + 1 := by simpa using q2
            have hbd : L.base + o + (m + 1) ≤ c.size := by
              have := q3 m
              have hm : m < ns.length := by omega
              have := this (.int .u8 ns[m]) (by rw [List.getElem?_map, List.getElem?_eq_getElem hm]; rfl)
              rw [cell_eq g1] at this
              have := (Array.getElem?_eq_some_iff.1 this).1
              omega
            have hlies := liesAt_row (P := P) k2 (c.size / P.cellsOf t) (L.base + o) (m + 1) (by rw [k2]; simpa using hbd)
            have hsh : w.shape? L.B = some (t, c.size) := by simp [World.shape?, g1]
            have hlb := run_loadBytesN (P := P) (w := w) ns ⟨L.B, L.base + o, none⟩ .empty (fun j x hj => by
              have := q3 j (.int .u8 x) (by rw [List.getElem?_map, hj]; rfl)
              by_cases h0 : j = 0
              · subst h0; simpa [Addr.add] using this
              · simpa [Addr.add, h0] using this)
            rw [hlen] at hlb
            have hdef : Builtin.unsafeString_ ts ty #[.pointer (some ⟨L.B, L.base + o, none⟩), .int .i64 (Int.ofNat (m + 1))] =
                (do
                  let n ← asInt (.int .i64 (Int.ofNat (m + 1)))
                  let some pt := ts[0]? | stuck "unsafe.String: no argument types"
                  if n < 0 then runtimePanic (.error "unsafe.String: len out of range")
                  if n > IntKind.i64.max then unsupported (.unsafePointer "String: a length above the largest int")
                  if n = 0 then pure (.string .empty)
                  else if ← variablesAt ⟨L.B, L.base + o, none⟩ (← elemOf pt) n.toNat then do
                    let s ← loadBytes ⟨L.B, L.base + o, none⟩ .empty n.toNat
                    freeze ⟨L.B, L.base + o, none⟩ n.toNat
                    pure (.string s)
                  else unsupported (.unsafePointer "String: not so many bytes at ptr")) := rfl
            obtain ⟨frz', hfz⟩ := freeze_get (w := w) (a := ⟨L.B, L.base + o, none⟩) (n := m + 1) g1
            refine ⟨φ, .string ⟨(ns.map fun n => UInt8.ofNat n.toNat).toArray⟩, w.freeze ⟨L.B, L.base + o, none⟩ (m + 1), ?_, ?_, φ.le_refl, ?_, freeze_below hN⟩
            · rw [hdef]
              have hmax : IntKind.i64.max = 9223372036854775807 := rfl
              have h1 : ¬ (Int.ofNat (m + 1)) < 0 := by show ¬ ((m + 1 : Nat) : Int) < 0; omega
              have h2 : ¬ (9223372036854775807 : Int) < Int.ofNat (m + 1) := by show ¬ (9223372036854775807 : Int) < ((m + 1 : Nat) : Int); omega
              have h3 : ¬ (Int.ofNat (m + 1)) = 0 := by show ¬ ((m + 1 : Nat) : Int) = 0; omega
              have h4 : (Int.ofNat (m + 1)).toNat = m + 1 := rfl
              simp only [asInt, asIntOf, Sem.run_bind, Sem.run_pure, Result.andThen_ok, t0, h1, h2, h3, hmax, if_false, gt_iff_lt, variablesAt, elemOf, run_underlying hpt, run_shape, hsh, h4]
              simp only [run_program, Result.andThen_ok, hsh, Sem.run_pure, hlies]
              simp only [Sem.run_bind, hlb, Result.andThen_ok, run_freeze, Sem.run_pure, if_true]
              simp
            · rw [VR_str]; exact ⟨_, rfl, by simp [bytesOf]⟩
            · exact hr.set hb hL _ (fun k hk => freeze_other hk) ⟨c, t, frz', hfz, g2, g3, fun e => (by cases e), g5⟩
          · cases hu
        · cases hu
      · cases hu
    · cases hu

/-! ## pointers, and unsafe ones -/

theorem seenAt_row {a : Addr} {c : Array Value} {t : TypeId} {frz : Nat × Nat} (hb : w.heap[a.block]? = some (.cells c t frz)) : (Conv.seenAt a).run P w = .ok a w := by
  have hsh : w.shape? a.block = some (t, c.size) := by simp [World.shape?, hb]
  simp only [Conv.seenAt, viewAt, Sem.run_bind, run_shape, hsh, Result.andThen_ok, Option.isSome_some, if_true, Sem.run_pure]

theorem toUnsafeA_rel (hr : HR N φ h w) {src dst t : TypeId} {x v : AV} {cx : Value} (hs : P.underlying src = some (.pointer t)) (hd : P.underlying dst = some .unsafePointer) (hx : VR φ x cx) (hu : toUnsafeA P t x h = .val v h') :
    VOk P N φ w (convert src dst cx) v h' := by
  unfold toUnsafeA at hu
  split at hu
  · cases hu
    simp only [VR_nilptr] at hx; subst hx
    refine Pu.vok hr ⟨.pointer none, ?_, VR_nilptr.2 rfl⟩
    simp only [convert, Sem.run_bind, run_underlying hs, run_underlying hd, Result.andThen_ok, Conv.unsafePointer, Sem.run_pure]
  · rename_i b o
    simp only [VR_ptr] at hx; obtain ⟨L, hL, rfl⟩ := hx
    split at hu
    · rename_i n cs esz ro hb
      split at hu
      · rename_i hc
        cases hu
        simp only [Bool.and_eq_true] at hc
        obtain ⟨⟨c1, c2⟩, c3⟩ := hc
        have c1 : o < n := Nat.le_of_ble_eq_true c1
        have c3 := Nat.le_of_ble_eq_true c3
        have c3' : P.cellsOf t ≠ 0 := by omega
        obtain ⟨c, ty, frz, g1, g2, g3, g4, g5⟩ := hr.get hb hL
        refine Pu.vok hr ⟨.pointer (some ⟨L.B, L.base + o, none⟩), ?_, VR_ptr.2 ⟨L, hL, rfl⟩⟩
        have hsh : w.shape? L.B = some (ty, c.size) := by simp [World.shape?, g1]
        have hseen := seenAt_row (P := P) (w := w) (a := ⟨L.B, L.base + o, none⟩) g1
        have hlt : ¬ (c.size ≤ L.base + o) := by omega
        simp only [convert, Sem.run_bind, run_underlying hs, run_underlying hd, Result.andThen_ok, Conv.unsafePointer, hseen, cellsIn, run_shape, hsh, Sem.run_pure, sizeOf_run t c2]
        simp [hlt, c3']
      · cases hu
    · cases hu
  · cases hu

theorem fromUnsafeA_rel (hr : HR N φ h w) {src dst u : TypeId} {x v : AV} {cx : Value} (hs : P.underlying src = some .unsafePointer) (hd : P.underlying dst = some (.pointer u)) (hx : VR φ x cx) (hu : fromUnsafeA P u x h = .val v h') :
    VOk P N φ w (convert src dst cx) v h' := by
  unfold fromUnsafeA at hu
  split at hu
  · cases hu
    simp only [VR_nilptr] at hx; subst hx
    refine Pu.vok hr ⟨.pointer none, ?_, VR_nilptr.2 rfl⟩
    simp only [convert, Sem.run_bind, run_underlying hs, run_underlying hd, Result.andThen_ok, Conv.unsafePointer, Sem.run_pure]
  · rename_i b
    simp only [VR_ptr] at hx; obtain ⟨L, hL, rfl⟩ := hx
    split at hu
    · rename_i n cs ty ro hb
      split at hu
      · rename_i hc
        cases hu
        simp only [Bool.and_eq_true] at hc
        obtain ⟨⟨⟨c1, c2⟩, c3⟩, c4⟩ := hc
        have c1 := Nat.eq_of_beq_eq_true c1
        have c3 := Nat.le_of_ble_eq_true c3
        have c4 := Nat.le_of_ble_eq_true c4
        obtain ⟨c, t, frz, g1, g2, g3, g4, g5⟩ := hr.get hb hL
        have hbase := g5.2.1 rfl
        have ht : t = u := by
          have := g5.2.2 (by rw [c1]; exact Nat.succ_ne_zero _)
          rw [c1] at this
          exact Nat.succ.inj this
        subst ht
        refine Pu.vok hr ⟨.pointer (some ⟨L.B, L.base + 0, none⟩), ?_, VR_ptr.2 ⟨L, hL, rfl⟩⟩
        have hsh : w.shape? L.B = some (t, c.size) := by simp [World.shape?, g1]
        have hseen := seenAt_row (P := P) (w := w) (a := ⟨L.B, L.base + 0, none⟩) g1
        have hcnt : 1 ≤ c.size / P.cellsOf t := by
          rw [Nat.le_div_iff_mul_le (by omega)]; omega
        have hlies : liesAt P P.depth t (c.size / P.cellsOf t) (L.base + 0) t 1 = true := by
          have hdp : P.depth = (2 * (P.types.size + Made.depth) + 1) + 1 := rfl
          rw [hdp]
          simp only [liesAt, Bool.or_eq_true]
          left
          rw [hdp, hbase]
          have c3' : P.cellsOf t ≠ 0 := by omega
          simp [rowAt, c3', sameLayout, hcnt]
        have c3' : P.cellsOf t ≠ 0 := by omega
        simp only [convert, Sem.run_bind, run_underlying hs, run_underlying hd, Result.andThen_ok, Conv.unsafePointer, hseen, sizeOf_run t c2, variablesAt, run_program, run_shape, hsh, Sem.run_pure, hlies]
        simp [c3']
      · cases hu
    · cases hu
  · cases hu

end
end Go.AX
