/-
  AX: when a value, a heap, a frame of the evaluator stands for one of the machine's. Growing a map of places keeps all of it.
-/
import Derived.Test.YtnhnhiieomhgfaaGreatDoorAxTree
import Derived.Calls
import Derived.Below
namespace Go.AX
open Go.RowKit

/-- Blocks from n on are the call's own; res: blocks that the evaluator has, and the machine not yet (of which frame, and of which operation). -/
structure NN where
  n : Nat
  res : Nat → Option (Nat × Nat)

instance : Coe NN Nat := ⟨NN.n⟩

/-- Where a block of the evaluator's lies: its block, the first cell, and how many elements its array bears. -/
structure Loc where
  B : Nat
  base : Nat
  K : Nat

abbrev Phi := Nat → Option Loc

def Phi.le (φ ψ : Phi) : Prop := ∀ b L, φ b = some L → ψ b = some L
def Phi.ins (φ : Phi) (b : Nat) (L : Loc) : Phi := fun x => if x = b then some L else φ x

theorem Phi.le_refl (φ : Phi) : φ.le φ := fun _ _ h => h
theorem Phi.le_trans {a b c : Phi} (h : a.le b) (k : b.le c) : a.le c := fun x L hx => k x L (h x L hx)
theorem Phi.le_ins {φ : Phi} {b : Nat} (L : Loc) (h : φ b = none) : φ.le (φ.ins b L) := fun x M hx => by
  unfold Phi.ins; split
  · rename_i e; subst e; rw [h] at hx; cases hx
  · exact hx
theorem Phi.ins_same (φ : Phi) (b : Nat) (L : Loc) : φ.ins b L b = some L := by simp [Phi.ins]
theorem Phi.ins_other (φ : Phi) {b x : Nat} (L : Loc) (h : x ≠ b) : φ.ins b L x = φ x := by simp [Phi.ins, h]

mutual
def VR (φ : Phi) : AV → Value → Prop
  | .bool b, v => v = .bool b
  | .int k n, v => v = .int k n
  | .str s, v => ∃ b, v = .string b ∧ bytesOf b = s
  | .nilptr, v => v = .pointer none
  | .ptr b o, v => ∃ L, φ b = some L ∧ v = .pointer (some ⟨L.B, L.base + o, none⟩)
  | .nilslice, v => v = .slice none 0 0
  | .slice0, v => ∃ a c, v = .slice (some a) 0 c
  | .slice b o len (.exact c), v => ∃ L, φ b = some L ∧ v = .slice (some ⟨L.B, L.base + o, none⟩) len c
  | .slice b o len (.opn i), v => ∃ L, φ b = some L ∧ v = .slice (some ⟨L.B, L.base + o, none⟩) len (L.K - i) ∧ i + len ≤ L.K
  | .nilmap, v => v = .map none
  | .map b, v => ∃ L, φ b = some L ∧ v = .map (some L.B)
  | .func f first cap, v => ∃ a b, v = .func (.func f) a b ∧ VRs φ first a.toList ∧ VRs φ cap b.toList
  | .yield l, v => ∃ L, φ l = some L ∧ v = .func (.yield L.B) #[] #[]
  | .nilFunc, v => v = .nilFunc
  | .iface t x, v => ∃ y, v = .iface t y ∧ VR φ x y
  | .nilIface, v => v = .nilIface
  | .agg cs, v => ∃ a, v = .agg a ∧ VRs φ cs a.toList
  | .tuple vs, v => ∃ a, v = .tuple a ∧ VRs φ vs a.toList
def VRs (φ : Phi) : List AV → List Value → Prop
  | [], [] => True
  | x :: xs, y :: ys => VR φ x y ∧ VRs φ xs ys
  | [], _ :: _ => False
  | _ :: _, [] => False
end

theorem VRs_iff (φ : Phi) : ∀ (l : List AV) (l' : List Value), VRs φ l l' ↔ All2 (VR φ) l l'
  | [], [] => by simp [VRs]
  | x :: xs, y :: ys => by simp [VRs, VRs_iff φ xs ys]
  | [], _ :: _ => by simp [VRs, All2]
  | _ :: _, [] => by simp [VRs, All2]

mutual
theorem VR.mono {φ ψ : Phi} (h : φ.le ψ) : ∀ (a : AV) (v : Value), VR φ a v → VR ψ a v
  | .bool _, _, hv => by simpa [VR] using hv
  | .int _ _, _, hv => by simpa [VR] using hv
  | .str _, _, hv => by simpa [VR] using hv
  | .nilptr, _, hv => by simpa [VR] using hv
  | .ptr b o, _, hv => by
    simp only [VR] at hv ⊢; obtain ⟨L, h1, h2⟩ := hv; exact ⟨L, h _ _ h1, h2⟩
  | .nilslice, _, hv => by simpa [VR] using hv
  | .slice0, _, hv => by simpa [VR] using hv
  | .slice b o len (.exact c), _, hv => by
    simp only [VR] at hv ⊢; obtain ⟨L, h1, h2⟩ := hv; exact ⟨L, h _ _ h1, h2⟩
  | .slice b o len (.opn i), _, hv => by
    simp only [VR] at hv ⊢; obtain ⟨L, h1, h2⟩ := hv; exact ⟨L, h _ _ h1, h2⟩
  | .nilmap, _, hv => by simpa [VR] using hv
  | .map b, _, hv => by
    simp only [VR] at hv ⊢; obtain ⟨L, h1, h2⟩ := hv; exact ⟨L, h _ _ h1, h2⟩
  | .func f first cap, _, hv => by
    simp only [VR] at hv ⊢; obtain ⟨a, b, h1, h2, h3⟩ := hv; exact ⟨a, b, h1, VRs.mono h first _ h2, VRs.mono h cap _ h3⟩
  | .yield l, _, hv => by
    simp only [VR] at hv ⊢; obtain ⟨L, h1, h2⟩ := hv; exact ⟨L, h _ _ h1, h2⟩
  | .nilFunc, _, hv => by simpa [VR] using hv
  | .iface t x, _, hv => by
    simp only [VR] at hv ⊢; obtain ⟨y, h1, h2⟩ := hv; exact ⟨y, h1, VR.mono h x _ h2⟩
  | .nilIface, _, hv => by simpa [VR] using hv
  | .agg cs, _, hv => by
    simp only [VR] at hv ⊢; obtain ⟨a, h1, h2⟩ := hv; exact ⟨a, h1, VRs.mono h cs _ h2⟩
  | .tuple cs, _, hv => by
    simp only [VR] at hv ⊢; obtain ⟨a, h1, h2⟩ := hv; exact ⟨a, h1, VRs.mono h cs _ h2⟩
theorem VRs.mono {φ ψ : Phi} (h : φ.le ψ) : ∀ (l : List AV) (l' : List Value), VRs φ l l' → VRs ψ l l'
  | [], [], _ => by simp [VRs]
  | x :: xs, y :: ys, hv => by
    simp only [VRs] at hv ⊢; exact ⟨VR.mono h x y hv.1, VRs.mono h xs ys hv.2⟩
  | [], _ :: _, hv => by simp [VRs] at hv
  | _ :: _, [], hv => by simp [VRs] at hv
end

section
variable {φ : Phi}
theorem VR.le {ψ : Phi} {a : AV} {v : Value} (hv : VR φ a v) (h : φ.le ψ) : VR ψ a v := VR.mono h a v hv
theorem VRs.le {ψ : Phi} {l : List AV} {l' : List Value} (hv : All2 (VR φ) l l') (h : φ.le ψ) : All2 (VR ψ) l l' := hv.mono fun a v => VR.mono h a v

@[simp] theorem VR_bool {b : Bool} {v : Value} : VR φ (.bool b) v ↔ v = .bool b := by simp [VR]
@[simp] theorem VR_int {k : IntKind} {n : Int} {v : Value} : VR φ (.int k n) v ↔ v = .int k n := by simp [VR]
@[simp] theorem VR_str {s : List Nat} {v : Value} : VR φ (.str s) v ↔ ∃ b, v = .string b ∧ bytesOf b = s := by simp [VR]
@[simp] theorem VR_nilptr {v : Value} : VR φ .nilptr v ↔ v = .pointer none := by simp [VR]
@[simp] theorem VR_ptr {b o : Nat} {v : Value} : VR φ (.ptr b o) v ↔ ∃ L, φ b = some L ∧ v = .pointer (some ⟨L.B, L.base + o, none⟩) := by simp [VR]
@[simp] theorem VR_nilslice {v : Value} : VR φ .nilslice v ↔ v = .slice none 0 0 := by simp [VR]
@[simp] theorem VR_slice0 {v : Value} : VR φ .slice0 v ↔ ∃ a c, v = .slice (some a) 0 c := by simp [VR]
@[simp] theorem VR_sliceEx {b o len c : Nat} {v : Value} : VR φ (.slice b o len (.exact c)) v ↔ ∃ L, φ b = some L ∧ v = .slice (some ⟨L.B, L.base + o, none⟩) len c := by simp [VR]
@[simp] theorem VR_sliceOp {b o len i : Nat} {v : Value} : VR φ (.slice b o len (.opn i)) v ↔ ∃ L, φ b = some L ∧ v = .slice (some ⟨L.B, L.base + o, none⟩) len (L.K - i) ∧ i + len ≤ L.K := by simp [VR]
@[simp] theorem VR_nilmap {v : Value} : VR φ .nilmap v ↔ v = .map none := by simp [VR]
@[simp] theorem VR_map {b : Nat} {v : Value} : VR φ (.map b) v ↔ ∃ L, φ b = some L ∧ v = .map (some L.B) := by simp [VR]
@[simp] theorem VR_func {f : FuncId} {first cap : List AV} {v : Value} : VR φ (.func f first cap) v ↔ ∃ a b, v = .func (.func f) a b ∧ All2 (VR φ) first a.toList ∧ All2 (VR φ) cap b.toList := by simp [VR, VRs_iff]
@[simp] theorem VR_yield {l : Nat} {v : Value} : VR φ (.yield l) v ↔ ∃ L, φ l = some L ∧ v = .func (.yield L.B) #[] #[] := by simp [VR]
@[simp] theorem VR_nilFunc {v : Value} : VR φ .nilFunc v ↔ v = .nilFunc := by simp [VR]
@[simp] theorem VR_iface {t : TypeId} {x : AV} {v : Value} : VR φ (.iface t x) v ↔ ∃ y, v = .iface t y ∧ VR φ x y := by simp [VR]
@[simp] theorem VR_nilIface {v : Value} : VR φ .nilIface v ↔ v = .nilIface := by simp [VR]
@[simp] theorem VR_agg {cs : List AV} {v : Value} : VR φ (.agg cs) v ↔ ∃ a, v = .agg a ∧ All2 (VR φ) cs a.toList := by simp [VR, VRs_iff]
@[simp] theorem VR_tuple {cs : List AV} {v : Value} : VR φ (.tuple cs) v ↔ ∃ a, v = .tuple a ∧ All2 (VR φ) cs a.toList := by simp [VR, VRs_iff]

theorem VR_und : VR φ und undef := by simp [und, undef]

/-- What is of one cell on one side is so on the other. -/
theorem VR.one {a : AV} {v : Value} (h : VR φ a v) (ho : a.one = true) : v.oneCell' = true := by
  cases a with
  | agg cs => simp [AV.one] at ho
  | tuple cs => simp [AV.one] at ho
  | slice b o len c => cases c <;> simp at h <;> obtain ⟨L, h1, h2⟩ := h <;> first | (subst h2; rfl) | (rw [h2.1]; rfl)
  | bool b => simp at h; subst h; rfl
  | int k n => simp at h; subst h; rfl
  | str s => simp at h; obtain ⟨b, rfl, _⟩ := h; rfl
  | nilptr => simp at h; subst h; rfl
  | ptr b o => simp at h; obtain ⟨L, _, rfl⟩ := h; rfl
  | nilslice => simp at h; subst h; rfl
  | slice0 => simp at h; obtain ⟨a, c, rfl⟩ := h; rfl
  | nilmap => simp at h; subst h; rfl
  | map b => simp at h; obtain ⟨L, _, rfl⟩ := h; rfl
  | func f a b => simp at h; obtain ⟨x, y, rfl, _⟩ := h; rfl
  | yield l => simp at h; obtain ⟨L, _, rfl⟩ := h; rfl
  | nilFunc => simp at h; subst h; rfl
  | iface t x => simp at h; obtain ⟨y, rfl, _⟩ := h; rfl
  | nilIface => simp at h; subst h; rfl

theorem VR.cells_one {a : AV} {v : Value} (h : VR φ a v) (ho : a.one = true) : a.cells = [a] ∧ v.cells = #[v] := by
  have hv := h.one ho
  constructor
  · cases a <;> simp_all [AV.one, AV.cells]
  · cases v <;> simp_all [Value.oneCell', Value.cells]

theorem VR.cells {a : AV} {v : Value} (h : VR φ a v) : All2 (VR φ) a.cells v.cells.toList := by
  cases a with
  | agg cs => simp at h; obtain ⟨x, rfl, hx⟩ := h; exact hx
  | tuple cs => have h' := h; simp at h; obtain ⟨x, rfl, hx⟩ := h; exact ⟨h', trivial⟩
  | _ =>
    obtain ⟨h1, h2⟩ := h.cells_one rfl
    rw [h1, h2]; exact ⟨h, trivial⟩

end

/-! ## the heap -/

/-- An operation's deferred call. -/
def DR (φ : Phi) : ADef → Deferred → Prop
  | .call f args cap, d => ∃ a b, d = { target := .fn (.func f) b, args := a } ∧ All2 (VR φ) args a.toList ∧ All2 (VR φ) cap b.toList
  | .collected r, d => ∃ L, φ r = some L ∧ d = { target := .collected L.B, args := #[] }

theorem DR.le {φ ψ : Phi} (h : φ.le ψ) : ∀ {a : ADef} {d : Deferred}, DR φ a d → DR ψ a d
  | .call _ _ _, _, ⟨a, b, e, x, y⟩ => ⟨a, b, e, VRs.le x h, VRs.le y h⟩
  | .collected _, _, ⟨L, e, x⟩ => ⟨L, h _ _ e, x⟩

/-- The slots of a frame. -/
def TR (φ : Phi) (nt : Nat) (tm : T AV) (tmps : Array Value) : Prop :=
  tmps.size = nt ∧ ∀ i, VR φ ((tm.get i).getD und) (tmps.getD i undef)

theorem TR.le {φ ψ : Phi} {nt : Nat} {tm : T AV} {tmps : Array Value} (h : TR φ nt tm tmps) (hl : φ.le ψ) : TR ψ nt tm tmps :=
  ⟨h.1, fun i => (h.2 i).le hl⟩

def EntR (φ : Phi) (e : AV × AV × Nat) (m : MapEntry) : Prop := VR φ e.1 m.key ∧ VR φ e.2.1 m.val ∧ m.born = e.2.2

/-- What a block holds. N: blocks from N on are the call's own; L: where it lies. -/
def OR (φ : Phi) (N : NN) (L : Loc) (w : World) : AObj → Prop
  | .cells n cs esz ro => ∃ c t frz, w.heap[L.B]? = some (.cells c t frz) ∧ L.base + n ≤ c.size ∧
      (∀ i v, cs.get i = some v → i < n ∧ v.one = true ∧ ∃ cv, c[L.base + i]? = some cv ∧ VR φ v cv) ∧
      (ro = false → N ≤ L.B ∧ ∀ i, i < c.size → ¬ (frz.1 ≤ i ∧ i < frz.2)) ∧
      (esz.sz ≠ 0 → c.size = L.base + L.K * esz.sz) ∧ (esz.sz = 0 → L.base = 0) ∧ (esz.ty ≠ 0 → t + 1 = esz.ty)
  | .map es clock => N ≤ L.B ∧ ∃ ces, w.heap[L.B]? = some (.map ces clock) ∧ All2 (EntR φ) es ces.toList
  | .strIter s pos => (N ≤ L.B ∧ L.base = 0) ∧ ∃ b, w.heap[L.B]? = some (.stringIter b pos) ∧ bytesOf b = s
  | .mapIter m since seen stepped => (N ≤ L.B ∧ L.base = 0) ∧ ∃ m', w.heap[L.B]? = some (.mapIter m' since seen.toArray stepped) ∧
      (match m with | none => m' = none | some x => ∃ M, φ x = some M ∧ m' = some M.B)
  | .loop l => N ≤ L.B ∧ ∃ tmps D, w.heap[L.B]? = some (.loop { state := l.state, pending := l.pending, fn := l.fn, tmps, params := l.params.toArray, assign := l.assign, body := l.body, defers := D }) ∧
      TR φ l.nt l.tm tmps ∧ ∃ M, φ l.defers = some M ∧ D = M.B
  | .deferred calls => N ≤ L.B ∧ ∃ c, w.heap[L.B]? = some (.deferred c) ∧ (match calls with | none => c = none | some l => ∃ l', c = some l' ∧ All2 (DR φ) l l')

theorem OR.le {φ ψ : Phi} (h : φ.le ψ) {N : NN} {L : Loc} {w : World} : ∀ {o : AObj}, OR φ N L w o → OR ψ N L w o
  | .cells .., ⟨c, t, frz, h1, h2, h3, h4, h5⟩ => ⟨c, t, frz, h1, h2, fun i v hv => let ⟨a, b, cv, d, e⟩ := h3 i v hv; ⟨a, b, cv, d, e.le h⟩, h4, h5⟩
  | .map .., ⟨hN, ces, h1, h2⟩ => ⟨hN, ces, h1, h2.mono fun _ _ e => ⟨e.1.le h, e.2.1.le h, e.2.2⟩⟩
  | .strIter .., x => x
  | .mapIter m .., ⟨hN, m', h1, h2⟩ => ⟨hN, m', h1, by
      cases m with
      | none => exact h2
      | some x => obtain ⟨M, a, b⟩ := h2; exact ⟨M, h _ _ a, b⟩⟩
  | .loop l, ⟨hN, tmps, D, h1, h2, M, h3, h4⟩ => ⟨hN, tmps, D, h1, h2.le h, M, h _ _ h3, h4⟩
  | .deferred c, ⟨hN, x, h1, h2⟩ => ⟨hN, x, h1, by
      cases c with
      | none => exact h2
      | some l => obtain ⟨l', a, b⟩ := h2; exact ⟨l', a, b.mono fun _ _ => DR.le h⟩⟩

theorem OR.congr {φ : Phi} {N : NN} {L : Loc} {w w' : World} (hw : w'.heap[L.B]? = w.heap[L.B]?) : ∀ {o : AObj}, OR φ N L w o → OR φ N L w' o
  | .cells .., ⟨c, t, frz, h1, h⟩ => ⟨c, t, frz, hw.trans h1, h⟩
  | .map .., ⟨hN, ces, h1, h2⟩ => ⟨hN, ces, hw.trans h1, h2⟩
  | .strIter .., ⟨hN, b, h1, h2⟩ => ⟨hN, b, hw.trans h1, h2⟩
  | .mapIter .., ⟨hN, m', h1, h2⟩ => ⟨hN, m', hw.trans h1, h2⟩
  | .loop _, ⟨hN, tmps, D, h1, h2⟩ => ⟨hN, tmps, D, hw.trans h1, h2⟩
  | .deferred _, ⟨hN, x, h1, h2⟩ => ⟨hN, x, hw.trans h1, h2⟩

theorem OR.lt {φ : Phi} {N : NN} {L : Loc} {w : World} {o : AObj} (h : OR φ N L w o) : L.B < w.heap.size := by
  have : ∃ x, w.heap[L.B]? = some x := by
    cases o with
    | cells n cs esz ro => obtain ⟨c, t, frz, h1, _⟩ := h; exact ⟨_, h1⟩
    | map es c => obtain ⟨_, ces, h1, _⟩ := h; exact ⟨_, h1⟩
    | strIter s p => obtain ⟨_, b, h1, _⟩ := h; exact ⟨_, h1⟩
    | mapIter m s se st => obtain ⟨_, m', h1, _⟩ := h; exact ⟨_, h1⟩
    | loop l => obtain ⟨_, tmps, D, h1, _⟩ := h; exact ⟨_, h1⟩
    | deferred c => obtain ⟨_, x, h1, _⟩ := h; exact ⟨_, h1⟩
  obtain ⟨x, hx⟩ := this
  exact (Array.getElem?_eq_some_iff.1 hx).1

structure HR (N : NN) (φ : Phi) (h : H) (w : World) : Prop where
  obj : ∀ b o, h.t.get b = some o → N.res b = none → ∃ L, φ b = some L ∧ OR φ N L w o
  inj : ∀ b o b' o' L L', h.t.get b = some o → h.t.get b' = some o' → φ b = some L → φ b' = some L' → L.B = L'.B → b = b'
  lt : ∀ b, h.nx ≤ b → φ b = none
  res : ∀ b, N.res b ≠ none → φ b = none ∧ b < h.nx
  glob : ∀ g, g < h.g → φ g = some ⟨g, 0, 0⟩

section
variable {N : NN} {φ : Phi} {h : H} {w w' : World}

theorem HR.get (hr : HR N φ h w) {b : Nat} {o : AObj} {L : Loc} (hb : h.t.get b = some o) (hL : φ b = some L) : OR φ N L w o := by
  have hn : N.res b = none := by
    cases hq : N.res b with
    | none => rfl
    | some q => rw [(hr.res b (by rw [hq]; simp)).1] at hL; cases hL
  obtain ⟨L', h1, h2⟩ := hr.obj b o hb hn
  rw [hL] at h1; cases h1; exact h2

/-- What has a place is not laid by. -/
theorem HR.unres (hr : HR N φ h w) {b : Nat} {L : Loc} (hL : φ b = some L) : N.res b = none := by
  cases hq : N.res b with
  | none => rfl
  | some q => rw [(hr.res b (by rw [hq]; simp)).1] at hL; cases hL

/-- A draw. -/
theorem HR.heap_eq (hr : HR N φ h w) (e : w'.heap = w.heap) : HR N φ h w' :=
  ⟨fun b o hb hn => let ⟨L, h1, h2⟩ := hr.obj b o hb hn; ⟨L, h1, h2.congr (by rw [e])⟩, hr.inj, hr.lt, hr.res, hr.glob⟩

theorem HR.add (hr : HR N φ h w) (L : Loc) (o : AObj) (hfree : ∀ b o L0, h.t.get b = some o → φ b = some L0 → L0.B ≠ L.B)
    (hsame : ∀ b o L0, h.t.get b = some o → φ b = some L0 → w'.heap[L0.B]? = w.heap[L0.B]?) (ho : OR (φ.ins h.nx L) N L w' o) :
    HR N (φ.ins h.nx L) (h.alloc o) w' ∧ φ.le (φ.ins h.nx L) := by
  have hle : φ.le (φ.ins h.nx L) := Phi.le_ins L (hr.lt _ (Nat.le_refl _))
  refine ⟨⟨?_, ?_, ?_, ?_, fun g hg => hle _ _ (hr.glob g hg)⟩, hle⟩
  · intro b o' hb hn
    simp only [H.alloc, T.get_set] at hb
    split at hb
    · rename_i e; subst e; cases hb; exact ⟨L, Phi.ins_same _ _ _, ho⟩
    · obtain ⟨M, h1, h2⟩ := hr.obj b o' hb hn
      exact ⟨M, hle _ _ h1, (h2.le hle).congr (hsame b o' M hb h1)⟩
  · intro b o1 b' o2 L1 L2 hb hb' h1 h2 e
    simp only [H.alloc, T.get_set] at hb hb'
    split at hb <;> split at hb'
    · rename_i x y; rw [x, y]
    · rename_i x y; subst x; rw [Phi.ins_same] at h1; cases h1
      rw [Phi.ins_other _ _ y] at h2; exact absurd e.symm (hfree _ _ _ hb' h2)
    · rename_i x y; subst y; rw [Phi.ins_same] at h2; cases h2
      rw [Phi.ins_other _ _ x] at h1; exact absurd e (hfree _ _ _ hb h1)
    · rename_i x y; rw [Phi.ins_other _ _ x] at h1; rw [Phi.ins_other _ _ y] at h2
      exact hr.inj b o1 b' o2 L1 L2 hb hb' h1 h2 e
  · intro b hb
    have hb' : h.nx + 1 ≤ b := hb
    rw [Phi.ins_other _ _ (by omega)]; exact hr.lt b (by omega)
  · intro b hb
    obtain ⟨h1, h2⟩ := hr.res b hb
    exact ⟨by rw [Phi.ins_other _ _ (by omega)]; exact h1, Nat.lt_succ_of_lt h2⟩

/-- A new block behind the others. -/
theorem HR.push (hr : HR N φ h w) (O : Obj) (base K : Nat) (o : AObj) (hw : w'.heap = w.heap.push O) (ho : OR (φ.ins h.nx ⟨w.heap.size, base, K⟩) N ⟨w.heap.size, base, K⟩ w' o) :
    HR N (φ.ins h.nx ⟨w.heap.size, base, K⟩) (h.alloc o) w' ∧ φ.le (φ.ins h.nx ⟨w.heap.size, base, K⟩) := by
  refine hr.add _ o (fun b o L0 hb hL => ?_) (fun b o L0 hb hL => ?_) ho
  · have := (hr.get hb hL).lt; show L0.B ≠ w.heap.size; omega
  · have := (hr.get hb hL).lt
    rw [hw, Array.getElem?_push, if_neg (by omega)]

/-- A block is written. -/
theorem HR.set (hr : HR N φ h w) {b : Nat} {o : AObj} {L : Loc} (hb : h.t.get b = some o) (hL : φ b = some L) (o' : AObj)
    (hsame : ∀ k, k ≠ L.B → w'.heap[k]? = w.heap[k]?) (ho : OR φ N L w' o') : HR N φ { h with t := h.t.set b (some o') } w' := by
  refine ⟨?_, ?_, hr.lt, hr.res, hr.glob⟩
  · intro x ox hx hn
    simp only [T.get_set] at hx
    split at hx
    · rename_i e; subst e; cases hx; exact ⟨L, hL, ho⟩
    · rename_i e
      obtain ⟨M, h1, h2⟩ := hr.obj x ox hx hn
      exact ⟨M, h1, h2.congr (hsame _ (fun e' => e (hr.inj x ox b o M L hx hb h1 hL e')))⟩
  · intro x ox y oy L1 L2 hx hy h1 h2 e
    simp only [T.get_set] at hx hy
    have gx : ∃ o1, h.t.get x = some o1 := by
      by_cases q : x = b
      · subst q; exact ⟨_, hb⟩
      · rw [if_neg q] at hx; exact ⟨_, hx⟩
    have gy : ∃ o1, h.t.get y = some o1 := by
      by_cases q : y = b
      · subst q; exact ⟨_, hb⟩
      · rw [if_neg q] at hy; exact ⟨_, hy⟩
    obtain ⟨o1, gx⟩ := gx
    obtain ⟨o2, gy⟩ := gy
    exact hr.inj x o1 y o2 L1 L2 gx gy h1 h2 e

/-- A block is forgotten. -/
theorem HR.drop (hr : HR N φ h w) (b : Nat) : HR N φ { h with t := h.t.set b none } w := by
  refine ⟨?_, ?_, hr.lt, hr.res, hr.glob⟩
  · intro x ox hx hn
    simp only [T.get_set] at hx
    split at hx
    · cases hx
    · exact hr.obj x ox hx hn
  · intro x ox y oy L1 L2 hx hy h1 h2 e
    simp only [T.get_set] at hx hy
    split at hx
    · cases hx
    · split at hy
      · cases hy
      · exact hr.inj x ox y oy L1 L2 hx hy h1 h2 e

end

/-! ## frames -/

def PR (φ : Phi) (p : APanic) (e : PanicEntry) : Prop := e.recovered = p.recovered ∧ e.goexit = false ∧ VR φ p.v e.v

def MR (φ : Phi) : AMode → FrameMode → Prop
  | .run, m => m = .run
  | .returning, m => m = .returning
  | .panicking l, m => ∃ l', m = .panicking l' ∧ All2 (PR φ) l l'

def IR (φ : Phi) : AItem → Item → Prop
  | .code c, i => i = .code c
  | .inBlock id, i => i = .inBlock id
  | .inLoop c, i => i = .inLoop c
  | .inScope c, i => i = .inScope c
  | .ops ops l, i => ∃ idx, i = .inRegion ops idx ∧ idx.map (fun j => ops[j]?) = l.map some
  | .inRangeFunc l, i => ∃ L, φ l = some L ∧ i = .inRangeFunc L.B
  | .endRangeFunc l, i => ∃ L, φ l = some L ∧ i = .endRangeFunc L.B
  | .beginRound, i => i = .beginRound

def RoR (φ : Phi) : Option Nat → Option Nat → Prop
  | none, r => r = none
  | some l, r => ∃ L, φ l = some L ∧ r = some L.B

structure FR (φ : Phi) (a : AFrame) (fr : Frame) : Prop where
  fn : fr.fn = a.fn
  tm : TR φ a.nt a.tm fr.tmps
  todo : All2 (IR φ) a.todo fr.todo
  defers : All2 (DR φ) a.defers fr.defers
  mode : MR φ a.mode fr.mode
  kind : fr.kind = a.kind
  round : RoR φ a.roundOf fr.roundOf

theorem PR.le {φ ψ : Phi} (h : φ.le ψ) {p : APanic} {e : PanicEntry} (x : PR φ p e) : PR ψ p e := ⟨x.1, x.2.1, x.2.2.le h⟩
theorem MR.le {φ ψ : Phi} (h : φ.le ψ) : ∀ {a : AMode} {m : FrameMode}, MR φ a m → MR ψ a m
  | .run, _, x => x
  | .returning, _, x => x
  | .panicking _, _, ⟨l', e, x⟩ => ⟨l', e, x.mono fun _ _ => PR.le h⟩
theorem IR.le {φ ψ : Phi} (h : φ.le ψ) : ∀ {a : AItem} {i : Item}, IR φ a i → IR ψ a i
  | .code _, _, x => x
  | .inBlock _, _, x => x
  | .inLoop _, _, x => x
  | .inScope _, _, x => x
  | .ops .., _, x => x
  | .inRangeFunc _, _, ⟨L, e, x⟩ => ⟨L, h _ _ e, x⟩
  | .endRangeFunc _, _, ⟨L, e, x⟩ => ⟨L, h _ _ e, x⟩
  | .beginRound, _, x => x
theorem RoR.le {φ ψ : Phi} (h : φ.le ψ) : ∀ {a : Option Nat} {r : Option Nat}, RoR φ a r → RoR ψ a r
  | none, _, x => x
  | some _, _, ⟨L, e, x⟩ => ⟨L, h _ _ e, x⟩
theorem FR.le {φ ψ : Phi} (h : φ.le ψ) {a : AFrame} {fr : Frame} (x : FR φ a fr) : FR ψ a fr :=
  ⟨x.fn, x.tm.le h, x.todo.mono fun _ _ => IR.le h, x.defers.mono fun _ _ => DR.le h, x.mode.le h, x.kind, x.round.le h⟩

/-! ## frames in a region whose order is drawn -/

/-- What is left has no work ahead of which its own comes. -/
def Closed (ops : Array Oper) (idx : List Nat) : Prop :=
  ∀ i o, ops[i]? = some o → ∀ e, e ∈ edgesOf o.after.toList → e ∈ idx → i ∈ idx

structure DW (d : Draw) (idx : List Nat) : Prop where
  stat : statB d.ops (idxd 0 d.ops.toList) (idxd 0 d.ops.toList) = true
  nodup : idx.Nodup
  closed : ∀ pre suf, idx = pre ++ suf → Closed d.ops suf
  rem : ∀ p, p ∈ d.rem → p.1 ∈ idx ∧ d.ops[p.1]? = some p.2
  early : ∀ p, p ∈ d.early → d.ops[p.1]? = some p.2.1
  all : ∀ i, i ∈ idx → (∃ o, (i, o) ∈ d.rem) ∨ ∃ o b, (i, o, b) ∈ d.early
  wait : d.wait = true → ∃ i o rem post, d.rem = (i, o) :: rem ∧ idx = i :: post ∧ ∀ p, p ∈ rem → p.1 ≠ i

/-- The slots that are no operation's to come. -/
def TX (φ : Phi) (ops : Array Oper) (idx : List Nat) (nt : Nat) (tm : T AV) (tmps : Array Value) : Prop :=
  tmps.size = nt ∧ ∀ t, (∀ j, j ∈ idx → dstOf ops j ≠ some t) → VR φ ((tm.get t).getD und) (tmps.getD t undef)

def LagR (N : NN) (k : Nat) (d : Draw) (idx : List Nat) : Prop :=
  ∀ p, p ∈ d.early → p.1 ∈ idx → isAlloc p.2.1 = true → N.res p.2.2 = some (k, p.1)

structure DFR (N : NN) (k : Nat) (φ : Phi) (d : Draw) (a : AFrame) (fr : Frame) (idx : List Nat) (ck : List Item) : Prop where
  fn : fr.fn = a.fn
  here : fr.todo = .inRegion d.ops idx :: ck
  tm : TX φ d.ops idx a.nt a.tm fr.tmps
  todo : All2 (IR φ) a.todo ck
  dw : DW d idx
  lag : LagR N k d idx
  defers : All2 (DR φ) a.defers fr.defers
  mode : MR φ a.mode fr.mode
  kind : fr.kind = a.kind
  round : RoR φ a.roundOf fr.roundOf

theorem TX.le {φ ψ : Phi} {ops : Array Oper} {idx : List Nat} {nt : Nat} {tm : T AV} {tmps : Array Value} (h : TX φ ops idx nt tm tmps) (hl : φ.le ψ) : TX ψ ops idx nt tm tmps :=
  ⟨h.1, fun i hi => (h.2 i hi).le hl⟩

theorem DFR.le {N : NN} {k : Nat} {φ ψ : Phi} (h : φ.le ψ) {d : Draw} {a : AFrame} {fr : Frame} {idx : List Nat} {ck : List Item} (x : DFR N k φ d a fr idx ck) : DFR N k ψ d a fr idx ck :=
  ⟨x.fn, x.here, x.tm.le h, x.todo.mono fun _ _ => IR.le h, x.dw, x.lag, x.defers.mono fun _ _ => DR.le h, x.mode.le h, x.kind, x.round.le h⟩

/-- A frame, in a region or not. -/
def F2 (N : NN) (k : Nat) (φ : Phi) (a : AFrame) (fr : Frame) : Prop :=
  match a.dr with
  | none => FR φ a fr
  | some d => ∃ idx ck, DFR N k φ d a fr idx ck

theorem F2.un {N : NN} {k : Nat} {φ : Phi} {a : AFrame} {fr : Frame} (hd : a.dr = none) (h : F2 N k φ a fr) : FR φ a fr := by
  unfold F2 at h; rw [hd] at h; exact h
theorem F2.mk {N : NN} {k : Nat} {φ : Phi} {a : AFrame} {fr : Frame} (hd : a.dr = none) (h : FR φ a fr) : F2 N k φ a fr := by
  unfold F2; rw [hd]; exact h
theorem F2.und {N : NN} {k : Nat} {φ : Phi} {a : AFrame} {fr : Frame} {d : Draw} (hd : a.dr = some d) (h : F2 N k φ a fr) : ∃ idx ck, DFR N k φ d a fr idx ck := by
  unfold F2 at h; rw [hd] at h; exact h
theorem F2.mkd {N : NN} {k : Nat} {φ : Phi} {a : AFrame} {fr : Frame} {d : Draw} (hd : a.dr = some d) {idx : List Nat} {ck : List Item} (h : DFR N k φ d a fr idx ck) : F2 N k φ a fr := by
  unfold F2; rw [hd]; exact ⟨idx, ck, h⟩

theorem F2.le {N : NN} {k : Nat} {φ ψ : Phi} (h : φ.le ψ) {a : AFrame} {fr : Frame} (x : F2 N k φ a fr) : F2 N k ψ a fr := by
  cases hd : a.dr with
  | none => exact .mk hd ((x.un hd).le h)
  | some d => obtain ⟨idx, ck, y⟩ := x.und hd; exact .mkd hd (y.le h)

theorem F2.res {N N' : NN} {k : Nat} {φ : Phi} (h : ∀ b i, N.res b = some (k, i) → N'.res b = some (k, i)) {a : AFrame} {fr : Frame} (x : F2 N k φ a fr) : F2 N' k φ a fr := by
  cases hd : a.dr with
  | none => exact .mk hd (x.un hd)
  | some d =>
    obtain ⟨idx, ck, y⟩ := x.und hd
    exact .mkd hd ⟨y.fn, y.here, y.tm, y.todo, y.dw, fun p h1 h2 h3 => h _ _ (y.lag p h1 h2 h3), y.defers, y.mode, y.kind, y.round⟩

/-- The frames below, each with how many are below it. -/
def CS (N : NN) (φ : Phi) : List AFrame → List Frame → Prop
  | [], cs => cs = []
  | a :: as, cs => ∃ c cs', cs = c :: cs' ∧ F2 N as.length φ a c ∧ CS N φ as cs'

theorem CS.le {N : NN} {φ ψ : Phi} (h : φ.le ψ) : ∀ {as : List AFrame} {cs : List Frame}, CS N φ as cs → CS N ψ as cs
  | [], _, x => x
  | _ :: _, _, ⟨c, cs', e, x, y⟩ => ⟨c, cs', e, x.le h, y.le h⟩

theorem CS.res {N N' : NN} {φ : Phi} {k : Nat} (h : ∀ b j i, j < k → N.res b = some (j, i) → N'.res b = some (j, i)) : ∀ {as : List AFrame} {cs : List Frame}, as.length ≤ k → CS N φ as cs → CS N' φ as cs
  | [], _, _, x => x
  | a :: as, _, hk, ⟨c, cs', e, x, y⟩ => ⟨c, cs', e, x.res fun b i => h b _ i (by simp only [List.length_cons] at hk; omega), y.res h (by simp only [List.length_cons] at hk; omega)⟩

/-- What is known of calls is so. -/
structure HookOk (P : Program) (K : Hook) : Prop where
  call : ∀ f args h v h', K.call f args h = some (v, h') → ∀ (N : NN) (φ : Phi) (w : World) (cargs : Array Value), HR N φ h w → N.n ≤ w.heap.size → All2 (VR φ) args cargs.toList →
    Calls P f cargs w fun e w' => ∃ φ' cv, e = .returned cv ∧ φ.le φ' ∧ VR φ' v cv ∧ HR N φ' h' w' ∧ Below N.n w w'
  ext : ∀ f args h v h', K.ext f args h = some (v, h') → ∀ (N : NN) (φ : Phi) (w : World) (cargs : Array Value), HR N φ h w → N.n ≤ w.heap.size → All2 (VR φ) args cargs.toList →
    ∃ φ' cv w', (callFunc f cargs).run P w = .ok (.value cv) w' ∧ φ.le φ' ∧ VR φ' v cv ∧ HR N φ' h' w' ∧ Below N.n w w'

theorem noHook_ok (P : Program) : HookOk P noHook := ⟨fun _ _ _ _ _ h => (by cases h), fun _ _ _ _ _ h => (by cases h)⟩

theorem calls_steps {P : Program} {f : FuncId} {cargs : Array Value} {w : World} {Q : Ending → World → Prop} (h : Calls P f cargs w Q) (hq : ∀ e w', Q e w' → ∃ cv, e = .returned cv) (c : Frame) (cs : List Frame) :
    ∃ cv w', Q (.returned cv) w' ∧ Steps P (lone (Frame.enter P f cargs .normal) (c :: cs) w) (lone (c.finish cv) cs w') := by
  obtain ⟨e, w', fr, hQ, hc, _, hl⟩ := h (c :: cs)
  obtain ⟨cv, rfl⟩ := hq _ _ hQ
  exact ⟨cv, w', hQ, Steps.trans hc (Steps.one (step_leave_returned hl))⟩

/-- The evaluator's state stands for the machine's. -/
structure SR (N : NN) (w0 : World) (φ : Phi) (s : S) (fr : Frame) (cs : List Frame) (w : World) : Prop where
  fr : F2 N s.cs.length φ s.fr fr
  cs : CS N φ s.cs cs
  h : HR N φ s.h w
  below : Below N w0 w
  size : N ≤ w.heap.size

end Go.AX
