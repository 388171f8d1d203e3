/-
  AX: a hook: the keys of a map, sorted.
-/
import Derived.Test.YtnhnhiieomhgfaaGreatDoorAxCall
import Derived.Test.YtnhnhiieomhgfaaGreatDoorAxSort
namespace Go.AX
noncomputable section
open Go.RowKit Go.Maps Go.WideElems Go.MapKept Go.WideShapes
open Go.Proofs (encStr)

/-- The contract: 'slices.Sorted' (fS) at what 'maps.Keys' hands back (its iterator: fK). -/
def SortedOk (P : Program) (fS fK : FuncId) (Kt : TypeId) : Prop :=
  ∀ (Bm b nn : Nat) (D0 : DataW Unit) (R : Value → Option (DataW Unit × List MemPlace)) (w : World), Bm < w.heap.size → w.cell? ⟨Bm, 0, none⟩ = some (.map (some b)) → w.ownsMap P Kt R b nn D0 →
    Maps.size D0 ≤ maxLen → Maps.size D0 * 16 ≤ 140737488355328 →
    Calls P fS #[.func (.func fK) #[] #[.pointer (some ⟨Bm, 0, none⟩)]] w fun e w' => ∃ (v : Value) (ss : List (List UInt8)), e = .returned v ∧ ss.Perm (strKeys D0) ∧
      w'.ownsRow w.heap.size Kt 1 v ss.length ((ss.mergeSort leB).map encStr) ∧ (v = .slice none 0 0 ↔ ss = []) ∧ Below w.heap.size w w'

def notInS (s : List Nat) : List (List Nat) → Bool
  | [] => true
  | t :: l => match listEqB s t with
    | true => false
    | false => notInS s l

/-- The keys, all texts, each once; the stamps, each once. -/
def keysOf (clock : Nat) : List (AV × AV × Nat) → Option (List (List Nat) × List Nat)
  | [] => some ([], [])
  | (k, _, b) :: l => match k with
    | .str s => match keysOf clock l with
      | some (ks, bs) => match notInS s ks && notIn bs b && Nat.blt b clock && small s.length with
        | true => some (s :: ks, b :: bs)
        | false => none
      | none => none
    | _ => none

def sortedAt (h : H) (es : List (AV × AV × Nat)) (clock : Nat) : Option (AV × H) :=
  match small es.length, keysOf clock es with
  | true, some (ks, _) => match ks with
    | [] => some (.nilslice, h)
    | _ :: _ => some (.slice h.nx 0 ks.length (.opn 0), h.grown none ⟨1, 0⟩ ((sortS ks).map .str))
  | _, _ => none

def sortedIn (h : H) (b : Nat) : Option (AV × H) :=
  match h.t.get b with
  | some (.cells _ cs ⟨0, _⟩ _) => match cs.get 0 with
    | some (.map m) => match h.t.get m with
      | some (.map es clock) => sortedAt h es clock
      | _ => none
    | _ => none
  | _ => none

def sortedCall (fS fK : FuncId) (f : FuncId) (args : List AV) (h : H) : Option (AV × H) :=
  match Nat.beq f fS with
  | true => match args with
    | [.func g [] [.ptr b 0]] => match Nat.beq g fK with
      | true => sortedIn h b
      | false => none
    | _ => none
  | false => none

def sortedHook (fS fK : FuncId) : Hook := ⟨sortedCall fS fK, fun _ _ _ => none⟩

theorem listEqB_iff : ∀ (a b : List Nat), listEqB a b = true ↔ a = b
  | [], [] => by simp [listEqB]
  | [], _ :: _ => by simp [listEqB]
  | _ :: _, [] => by simp [listEqB]
  | x :: a, y :: b => by
    simp only [listEqB, List.cons.injEq]
    cases h : Nat.beq x y with
    | true => rw [Nat.eq_of_beq_eq_true h]; simp [listEqB_iff a b]
    | false => simp [Nat.ne_of_beq_eq_false h]

theorem notInS_iff {s : List Nat} : ∀ {l : List (List Nat)}, notInS s l = true ↔ s ∉ l
  | [] => by simp [notInS]
  | t :: l => by
    simp only [notInS, List.mem_cons, not_or]
    cases h : listEqB s t with
    | true => simp [(listEqB_iff s t).1 h]
    | false =>
      have : s ≠ t := fun e => by rw [(listEqB_iff s t).2 e] at h; cases h
      simp [this, notInS_iff (l := l)]

theorem notIn_iff {x : Nat} : ∀ {l : List Nat}, notIn l x = true ↔ x ∉ l
  | [] => by simp [notIn]
  | y :: l => by
    simp only [notIn, List.mem_cons, not_or]
    cases h : Nat.beq x y with
    | true => simp [Nat.eq_of_beq_eq_true h]
    | false => simp [Nat.ne_of_beq_eq_false h, notIn_iff (l := l)]

section
variable {P : Program} {N : NN} {φ : Phi} {w w' : World} {h : H}

/-- What the keys are on the other side. -/
theorem keysOf_rel {clock : Nat} : ∀ {es : List (AV × AV × Nat)} {ces : List MapEntry} {ks : List (List Nat)} {bs : List Nat}, keysOf clock es = some (ks, bs) → All2 (EntR φ) es ces →
    ∃ l : List (List UInt8), ks = l.map nats ∧ ces.map (·.key) = l.map encStr ∧ l.Nodup ∧ bs = ces.map (·.born) ∧ bs.Nodup ∧ (∀ b, b ∈ bs → b < clock) ∧ (∀ x, x ∈ l → x.length ≤ 4194304)
  | [], ces, ks, bs, hk, ha => by
    simp only [keysOf, Option.some.injEq, Prod.mk.injEq] at hk
    obtain ⟨rfl, rfl⟩ := hk
    have := All2.nil_left.1 ha; subst this
    exact ⟨[], rfl, rfl, .nil, rfl, .nil, by simp, by simp⟩
  | (k, v, b) :: es, ces, ks, bs, hk, ha => by
    obtain ⟨m, ces', rfl, hm, ha'⟩ := All2.cons_left.1 ha
    simp only [keysOf] at hk
    split at hk
    · rename_i s
      split at hk
      · rename_i ks' bs' hk'
        split at hk
        · rename_i hc
          simp only [Option.some.injEq, Prod.mk.injEq] at hk
          obtain ⟨rfl, rfl⟩ := hk
          simp only [Bool.and_eq_true] at hc
          obtain ⟨⟨⟨c1, c2⟩, c3⟩, c4⟩ := hc
          obtain ⟨l, rfl, e2, e3, rfl, e5, e6, e7⟩ := keysOf_rel hk' ha'
          obtain ⟨m1, m2, m3⟩ := hm
          simp only [VR_str] at m1
          obtain ⟨ba, mk, hb⟩ := m1
          have hs : nats ba.data.toList = s := hb
          simp only at m3
          refine ⟨ba.data.toList :: l, by rw [← hs]; rfl, ?_, ?_, by rw [← m3]; rfl, ?_, ?_, ?_⟩
          · simp only [List.map_cons, e2, mk, encStr]
          · refine List.nodup_cons.2 ⟨fun hx => notInS_iff.1 c1 ?_, e3⟩
            rw [← hs]; exact List.mem_map.2 ⟨_, hx, rfl⟩
          · exact List.nodup_cons.2 ⟨notIn_iff.1 c2, e5⟩
          · intro b' hb'
            rcases List.mem_cons.1 hb' with rfl | hb'
            · exact Nat.le_of_ble_eq_true c3
            · exact e6 b' hb'
          · intro x hx
            rcases List.mem_cons.1 hx with rfl | hx
            · have := Nat.le_of_ble_eq_true c4
              rw [← hs] at this; simpa [nats] using this
            · exact e7 x hx
        · cases hk
      · cases hk
    · cases hk

theorem encStr_key {x : List UInt8} : (encStr x) = Value.string ⟨x.toArray⟩ := rfl

theorem HR.below (hr : HR N φ h w) (hb : Below w.heap.size w w') : HR N φ h w' :=
  ⟨fun b o hb' hn => let ⟨L, h1, h2⟩ := hr.obj b o hb' hn; ⟨L, h1, h2.congr (hb.block _ h2.lt)⟩, hr.inj, hr.lt, hr.res, hr.glob⟩

theorem sortedHook_ok {fS fK : FuncId} {Kt : TypeId} (hu : P.underlying Kt = some .string) (hc : SortedOk P fS fK Kt) : HookOk P (sortedHook fS fK) := by
  refine ⟨?_, fun _ _ _ _ _ h => (by cases h)⟩
  intro f args h v h' hk N φ w cargs hr hN ha
  unfold sortedHook sortedCall at hk
  simp only at hk
  split at hk
  · rename_i hf
    have hf := Nat.eq_of_beq_eq_true hf; subst hf
    split at hk
    · rename_i g b
      split at hk
      · rename_i hg
        have hg := Nat.eq_of_beq_eq_true hg; subst hg
        unfold sortedIn at hk
        split at hk
        · rename_i n cs ety ro hb
          split at hk
          · rename_i m hm
            split at hk
            · rename_i es clock hme
              unfold sortedAt at hk
              split at hk
              · rename_i ks bs hsm hkeys
                -- the arguments
                obtain ⟨ca, cl, hcl, hfa, hnil⟩ := All2.cons_left.1 ha
                have := All2.nil_left.1 hnil; subst this
                simp only [VR_func] at hfa
                obtain ⟨a1, a2, rfl, h1, h2⟩ := hfa
                have := All2.nil_left.1 h1
                have ha1 : a1 = #[] := by cases a1; simp_all
                obtain ⟨cp, cl2, hcl2, hp, hnil2⟩ := All2.cons_left.1 h2
                have := All2.nil_left.1 hnil2; subst this
                have ha2 : a2 = #[cp] := by cases a2; simp_all
                simp only [VR_ptr] at hp
                obtain ⟨L, hL, rfl⟩ := hp
                have hca : cargs = #[.func (.func g) #[] #[.pointer (some ⟨L.B, L.base + 0, none⟩)]] := by cases cargs; simp_all
                -- the blocks
                obtain ⟨c, t, frz, g1, g2, g3, g4, g5⟩ := hr.get hb hL
                have hbase := g5.2.1 rfl
                obtain ⟨g6, g7, cv, g8, g9⟩ := g3 0 _ hm
                simp only [VR_map] at g9
                obtain ⟨M, hM, rfl⟩ := g9
                obtain ⟨q1, ces, q2, q3⟩ := hr.get hme hM
                rw [hca, hbase]
                simp only [Nat.add_zero]
                have hcell : w.cell? ⟨L.B, 0, none⟩ = some (.map (some M.B)) := by
                  rw [hbase] at g8; rw [cell_eq g1]; exact g8
                have hBm : L.B < w.heap.size := (hr.get hb hL).lt
                obtain ⟨l, k1, k2, k3, k4, k5, k6, k7⟩ := keysOf_rel hkeys q3
                have hlen : ces.toList.length = es.length := q3.length.symm
                have hsmall : es.length ≤ 4194304 := Nat.le_of_ble_eq_true hsm
                let R : Value → Option (DataW Unit × List MemPlace) := fun _ => some (.nil, [])
                have hmax : (4194304 : Nat) ≤ maxLen := by decide
                have hkeyOf : ∀ x, x ∈ ces.toList → ∃ y, y ∈ l ∧ x.key = encStr y ∧ keyOf P Kt x.key = some (.string y) := by
                  intro x hx
                  have : x.key ∈ ces.toList.map (·.key) := List.mem_map.2 ⟨x, hx, rfl⟩
                  rw [k2] at this
                  obtain ⟨y, hy, e⟩ := List.mem_map.1 this
                  refine ⟨y, hy, e.symm, ?_⟩
                  rw [← e]
                  have : y.length ≤ maxLen := Nat.le_trans (k7 y hy) hmax
                  simp only [keyOf, hu, mapKey, encStr]
                  rw [if_pos (show (ByteArray.mk y.toArray).size ≤ maxLen by show y.toArray.size ≤ maxLen; simpa using this)]
                have hrd : ∀ x, x ∈ ces.toList → ∃ y, y ∈ l ∧ x.key = encStr y ∧ rd P Kt R x = some (.string y, .nil) := by
                  intro x hx
                  obtain ⟨y, hy, e1, e2⟩ := hkeyOf x hx
                  exact ⟨y, hy, e1, by simp [rd, e2, R]⟩
                have hfit : Fit P Kt R ces clock := by
                  refine ⟨by rw [← Array.length_toList, hlen]; omega, ⟨?_, ?_, ?_⟩, fun x hx => ?_⟩
                  · intro x hx
                    exact k6 _ (by rw [k4]; exact List.mem_map.2 ⟨x, hx, rfl⟩)
                  · rw [← k4]; exact k5
                  · rw [k2]
                    exact List.pairwise_map.2 (k3.imp fun {a b} hne e => hne (encStr_inj e))
                  · obtain ⟨y, _, _, e⟩ := hrd x hx; exact ⟨_, e⟩
                have hown : w.ownsMap P Kt R M.B es.length (.map ((ces.toList.map (rg P Kt R)).foldr DataW.insert [])) :=
                  ⟨ces, clock, q2, hfit, by rw [← Array.length_toList, hlen]; exact Nat.le_refl _, rfl⟩
                have hsize : Maps.size (DataW.map ((ces.toList.map (rg P Kt R)).foldr DataW.insert [])) = es.length := by
                  simp [Maps.size, length_sorted, hlen]
                have hperm : (strKeys (DataW.map ((ces.toList.map (rg P Kt R)).foldr DataW.insert []))).Perm l := by
                  have e : (ces.toList.map (rg P Kt R)).map (fun p => strOf p.1) = l := by
                    have hmap : ∀ (xs : List MapEntry) (ys : List (List UInt8)), xs.map (·.key) = ys.map encStr → (∀ x, x ∈ xs → ∃ y, x.key = encStr y ∧ rd P Kt R x = some (.string y, .nil)) → (xs.map (rg P Kt R)).map (fun p => strOf p.1) = ys := by
                      intro xs
                      induction xs with
                      | nil => intro ys h1 _; cases ys with
                        | nil => rfl
                        | cons y ys => cases h1
                      | cons x xs ih =>
                        intro ys h1 h2
                        cases ys with
                        | nil => cases h1
                        | cons y ys =>
                          simp only [List.map_cons, List.cons.injEq] at h1
                          obtain ⟨y', e1, e2⟩ := h2 x (by simp)
                          have : y' = y := encStr_inj (e1.symm.trans h1.1)
                          subst this
                          simp only [List.map_cons]
                          rw [ih ys h1.2 (fun z hz => h2 z (by simp [hz]))]
                          simp [rg, e2, strOf]
                    exact hmap _ _ k2 fun x hx => let ⟨y, _, a, b⟩ := hrd x hx; ⟨y, a, b⟩
                  show (((ces.toList.map (rg P Kt R)).foldr DataW.insert []).map fun p => strOf p.1).Perm l
                  rw [← e]
                  exact (sorted_perm _).map _
                refine (hc L.B M.B es.length _ R w hBm hcell hown (by rw [hsize]; omega) (by rw [hsize]; omega)).mono ?_
                rintro e w' ⟨rv, ss, rfl, hss, hrow, hnil', hbel⟩
                have hssl : ss.Perm l := hss.trans hperm
                have hb' : Below N.n w w' := hbel.mono hN
                have hsame : ∀ k, k < w.heap.size → w'.heap[k]? = w.heap[k]? := fun k hk => hbel.block k hk
                split at hk
                · -- no keys
                  simp only [Option.some.injEq, Prod.mk.injEq] at hk
                  obtain ⟨rfl, rfl⟩ := hk
                  have hl0 : l = [] := by cases l with
                    | nil => rfl
                    | cons a l => cases k1
                  subst hl0
                  have hs0 : ss = [] := List.Perm.eq_nil hssl
                  exact ⟨φ, rv, rfl, φ.le_refl, by rw [VR_nilslice]; exact hnil'.2 hs0, hr.below hbel, hb'⟩
                · rename_i k0 ks0
                  simp only [Option.some.injEq, Prod.mk.injEq] at hk
                  obtain ⟨rfl, rfl⟩ := hk
                  have hsort := sortS_mergeSort hssl
                  rw [← k1] at hsort
                  have hlss : ss.length = (k0 :: ks0).length := by rw [hssl.length_eq, k1, List.length_map]
                  obtain ⟨hr1, hr2⟩ := hrow
                  rcases hr2 with ⟨_, hz⟩ | ⟨gb, cap, cur, rfl, hge, hheap, hncap, hcapm, hcs, htake⟩
                  · rw [hlss] at hz; simp at hz
                  · have hNg : N.n ≤ gb := Nat.le_trans hN hge
                    have hadd := hr.add (w' := w') ⟨gb, 0, cap⟩ (.cells ((sortS (k0 :: ks0)).map AV.str).length (T.fill .e 0 ((sortS (k0 :: ks0)).map AV.str)) ⟨1, 0⟩ false)
                      (fun x ox L0 hx hL0 e => by have := (hr.get hx hL0).lt; simp only at e; omega)
                      (fun x ox L0 hx hL0 => hsame _ (hr.get hx hL0).lt) ?_
                    · refine ⟨_, _, rfl, hadd.2, ?_, hadd.1, hb'⟩
                      rw [VR_sliceOp]
                      exact ⟨_, Phi.ins_same _ _ _, by rw [hlss]; simp, by rw [← hlss]; simpa using hncap⟩
                    · have hll : ((sortS (k0 :: ks0)).map AV.str).length = ss.length := by
                        rw [List.length_map, hsort, List.length_map, List.length_mergeSort]
                      refine ⟨cur, Kt, (0, 0), hheap, by rw [hll]; simp only [Nat.zero_add]; omega, fun i x hx => ?_, fun _ => ⟨hNg, fun i _ hh => by omega⟩, ⟨fun _ => by simp only [hcs]; simp, fun e => (by cases e), fun e => absurd rfl e⟩⟩
                      rw [T.get_fill0] at hx
                      have hi := (List.getElem?_eq_some_iff.1 hx).1
                      rw [hsort, List.map_map, List.getElem?_map] at hx
                      cases hq : (ss.mergeSort leB)[i]? with
                      | none => rw [hq] at hx; cases hx
                      | some y =>
                        rw [hq] at hx
                        simp only [Option.map_some, Option.some.injEq, Function.comp] at hx
                        subst hx
                        refine ⟨hi, rfl, encStr y, ?_, ?_⟩
                        · have e2 : (cur.toList.take (ss.length * 1))[i]? = some (encStr y) := by rw [htake, List.getElem?_map, hq]; rfl
                          rw [List.getElem?_take] at e2
                          split at e2
                          · simp only [Nat.zero_add]; rw [← Array.getElem?_toList]; exact e2
                          · cases e2
                        · rw [VR_str]; exact ⟨_, rfl, by simp [bytesOf, nats]⟩
              · cases hk
            · cases hk
          · cases hk
        · cases hk
      · cases hk
    · cases hk
  · cases hk

end
end
end Go.AX
