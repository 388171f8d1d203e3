/-
  AX: an evaluator for the machine over a heap of plain values: no capacities, no draws. Definitions alone.
-/
import GoSem.Step
import Derived.Calls
import Derived.Below
import Derived.Laws.Cells
set_option linter.unusedSimpArgs false
set_option linter.unusedVariables false
namespace Go.AX
noncomputable section
inductive T (α : Type) where
  | e
  | n (l : T α) (v : Option α) (r : T α)
  | row (xs : List α)
noncomputable def nthL {α : Type} (xs : List α) : Nat → Option α :=
  List.rec (motive := fun _ => Nat → Option α) (fun _ => none) (fun x _ ih k => Nat.casesOn (motive := fun _ => Option α) k (some x) ih) xs
noncomputable def altL {α : Type} (xs : List α) : Bool → List α :=
  List.rec (motive := fun _ => Bool → List α) (fun _ => []) (fun x _ ih b => Bool.casesOn (motive := fun _ => List α) b (ih true) (x :: ih false)) xs
noncomputable def lenGe {α : Type} (n : Nat) : List α → Bool :=
  Nat.rec (motive := fun _ => List α → Bool) (fun _ => true) (fun _ ih l => List.casesOn (motive := fun _ => Bool) l false fun _ t => ih t) n
def forceN {α : Type} (n : Nat) (k : Nat → α) : α :=
  match n with
  | 0 => k 0
  | m + 1 => k (m + 1)
noncomputable def lenL {α : Type} (l : List α) : Nat :=
  List.rec (motive := fun _ => Nat → Nat) (fun n => n) (fun _ _ ih n => forceN (n + 1) ih) l 0
noncomputable def T.get {α : Type} (t : T α) : Nat → Option α :=
  T.rec (motive := fun _ => Nat → Option α) (fun _ => none)
    (fun _ v _ ihl ihr k => Nat.casesOn (motive := fun _ => Option α) k v fun k => Bool.casesOn (motive := fun _ => Option α) (Nat.beq (Nat.mod k 2) 0) (ihr (Nat.div k 2)) (ihl (Nat.div k 2)))
    (fun xs k => nthL xs k) t
noncomputable def T.opened {α : Type} (t : T α) : T α :=
  T.casesOn (motive := fun _ => T α) t .e (fun l v r => .n l v r) fun xs => List.casesOn (motive := fun _ => T α) xs .e fun x r => .n (.row (altL r true)) (some x) (.row (altL r false))
noncomputable def T.setF {α : Type} (f : Nat) : T α → Nat → Option α → T α :=
  Nat.rec (motive := fun _ => T α → Nat → Option α → T α) (fun t _ _ => t)
    (fun _ ih t k x => Nat.casesOn (motive := fun _ => T α) k (T.casesOn (motive := fun _ => T α) (T.opened t) (.n .e x .e) (fun l _ r => .n l x r) fun _ => .e) fun k =>
      Bool.casesOn (motive := fun _ => T α) (Nat.beq (Nat.mod k 2) 0)
        (T.casesOn (motive := fun _ => T α) (T.opened t) (.n .e none (ih .e (Nat.div k 2) x)) (fun l v r => .n l v (ih r (Nat.div k 2) x)) fun _ => .e)
        (T.casesOn (motive := fun _ => T α) (T.opened t) (.n (ih .e (Nat.div k 2) x) none .e) (fun l v r => .n (ih l (Nat.div k 2) x) v r) fun _ => .e)) f
def T.set {α : Type} (t : T α) (k : Nat) (x : Option α) : T α := T.setF (k + 1) t k x
def T.fill {α : Type} (t : T α) (k : Nat) : List α → T α
  | [] => t
  | x :: l => (t.set k (some x)).fill (k + 1) l
def T.ofRow {α : Type} (l : List α) : T α :=
  match lenGe 300 l with
  | true => .row l
  | false => T.fill .e 0 l
inductive Cap where
  | exact (c : Nat)
  | opn (i : Nat)
inductive AV where
  | bool (b : Bool)
  | int (k : IntKind) (n : Int)
  | str (s : List Nat)
  | nilptr
  | ptr (b o : Nat)
  | nilslice
  | slice0
  | slice (b o len : Nat) (cap : Cap)
  | nilmap
  | map (b : Nat)
  | func (f : FuncId) (first captured : List AV)
  | yield (l : Nat)
  | nilFunc
  | iface (t : TypeId) (v : AV)
  | nilIface
  | agg (cs : List AV)
  | tuple (vs : List AV)
def und : AV := .tuple []
def AV.cells : AV → List AV
  | .agg cs => cs
  | v => [v]
def AV.one : AV → Bool
  | .agg _ => false
  | .tuple _ => false
  | _ => true
def allOne : List AV → Bool
  | [] => true
  | v :: l => match v.one with
    | true => allOne l
    | false => false
inductive ADef where
  | call (f : FuncId) (args captured : List AV)
  | collected (r : Nat)
structure ALoop where
  state : LoopState
  pending : Option Code
  fn : FuncId
  nt : Nat
  tm : T AV
  params : List Tmp
  assign : Code
  body : Code
  defers : Nat
structure EK where
  sz : Nat
  ty : Nat
inductive AObj where
  | cells (n : Nat) (cs : T AV) (esz : EK) (ro : Bool)
  | map (es : List (AV × AV × Nat)) (clock : Nat)
  | romap (es : List (AV × AV × Nat)) (clock : Nat)
  | strIter (s : List Nat) (pos : Nat)
  | mapIter (m : Option Nat) (since : Nat) (seen : List Nat) (stepped : Nat)
  | loop (l : ALoop)
  | deferred (calls : Option (List ADef))
structure H where
  t : T AObj
  nx : Nat
  g : Nat
structure APanic where
  v : AV
  recovered : Bool
inductive AMode where
  | run
  | returning
  | panicking (chain : List APanic)
inductive AItem where
  | code (c : Code)
  | inBlock (id : Nat)
  | inLoop (body : Code)
  | inScope (body : Code)
  | ops (ops : Array Oper) (l : List Oper)
  | inRangeFunc (l : Nat)
  | endRangeFunc (l : Nat)
  | beginRound
structure Draw where
  ops : Array Oper
  rem : List (Nat × Oper)
  early : List (Nat × Oper × Nat)
  wait : Bool
structure AFrame where
  fn : FuncId
  nt : Nat
  tm : T AV
  todo : List AItem
  defers : List ADef
  mode : AMode
  kind : CallKind
  roundOf : Option Nat
  dr : Option Draw := none
structure S where
  fr : AFrame
  cs : List AFrame
  h : H
structure Hook where
  call : FuncId → List AV → H → Option (AV × H)
  ext : FuncId → List AV → H → Option (AV × H)
def noHook : Hook := ⟨fun _ _ _ => none, fun _ _ _ => none⟩
inductive R where
  | val (v : AV) (h : H)
  | skip (h : H)
  | enter (f : FuncId) (args : List AV) (h : H)
  | ext (f : FuncId) (args : List AV) (h : H)
  | round (l : Nat) (args : List AV) (h : H)
  | defer (d : ADef) (h : H)
  | recover (h : H)
  | panic (v : AV) (h : H)
  | fail
def wrapF (k : IntKind) (n : Int) : Int :=
  match k with
  | .u8 => Int.emod n 256
  | .u16 => Int.emod n 65536
  | .u32 => Int.emod n 4294967296
  | .u64 => Int.emod n 18446744073709551616
  | .i8 => let m := Int.emod n 256; if m < 128 then m else m - 256
  | .i16 => let m := Int.emod n 65536; if m < 32768 then m else m - 65536
  | .i32 => let m := Int.emod n 4294967296; if m < 2147483648 then m else m - 4294967296
  | .i64 => let m := Int.emod n 18446744073709551616; if m < 9223372036854775808 then m else m - 18446744073709551616
def forceInt {α : Type} (n : Int) (k : Int → α) : α :=
  match n with
  | .ofNat m => match m with
    | 0 => k 0
    | m + 1 => k (.ofNat (m + 1))
  | .negSucc m => match m with
    | 0 => k (.negSucc 0)
    | m + 1 => k (.negSucc (m + 1))
def IntKind.eqB : IntKind → IntKind → Bool
  | .i8, .i8 => true | .i16, .i16 => true | .i32, .i32 => true | .i64, .i64 => true
  | .u8, .u8 => true | .u16, .u16 => true | .u32, .u32 => true | .u64, .u64 => true
  | _, _ => false
def listEqB : List Nat → List Nat → Bool
  | [], [] => true
  | a :: x, b :: y => match Nat.beq a b with
    | true => listEqB x y
    | false => false
  | _, _ => false
def listLtB : List Nat → List Nat → Bool
  | _, [] => false
  | [], _ :: _ => true
  | a :: x, b :: y => match Nat.blt a b with
    | true => true
    | false => match Nat.beq a b with
      | true => listLtB x y
      | false => false
def modF : IntKind → Nat
  | .i8 => 256
  | .u8 => 256
  | .i16 => 65536
  | .u16 => 65536
  | .i32 => 4294967296
  | .u32 => 4294967296
  | .i64 => 18446744073709551616
  | .u64 => 18446744073709551616
def low (k : IntKind) (n : Int) : Nat := (Int.emod n (Int.ofNat (modF k))).toNat
def intB (op : BinOp) (k : IntKind) (a b : Int) : Option AV :=
  match op with
  | .add => some (forceInt (wrapF k (a + b)) (.int k))
  | .sub => some (forceInt (wrapF k (a - b)) (.int k))
  | .mul => some (forceInt (wrapF k (a * b)) (.int k))
  | .quo => bif b == 0 then none else some (forceInt (wrapF k (a.tdiv b)) (.int k))
  | .rem => bif b == 0 then none else some (forceInt (a.tmod b) (.int k))
  | .and => some (forceInt (wrapF k (.ofNat (Nat.land (low k a) (low k b)))) (.int k))
  | .or => some (forceInt (wrapF k (.ofNat (Nat.lor (low k a) (low k b)))) (.int k))
  | .xor => some (forceInt (wrapF k (.ofNat (Nat.xor (low k a) (low k b)))) (.int k))
  | .andNot => some (forceInt (wrapF k (.ofNat (Nat.land (low k a) (modF k - 1 - low k b)))) (.int k))
  | .eql => some (.bool (a == b))
  | .neq => some (.bool (a != b))
  | .lss => some (.bool (decide (a < b)))
  | .leq => some (.bool (decide (a ≤ b)))
  | .gtr => some (.bool (decide (a > b)))
  | .geq => some (.bool (decide (a ≥ b)))
  | _ => none
def shiftB (op : BinOp) (k : IntKind) (a y : Int) : Option AV :=
  match y with
  | .negSucc _ => none
  | .ofNat y =>
    let n := min y k.bits
    match op with
    | .shl => some (forceInt (wrapF k (a * Int.ofNat (2 ^ n))) (.int k))
    | .shr => some (forceInt (a.fdiv (Int.ofNat (2 ^ n))) (.int k))
    | _ => none
def strB (op : BinOp) (x y : List Nat) : Option AV :=
  match op with
  | .add => match Nat.ble (lenL x + lenL y) 1099511627776 with
    | true => some (.str (x ++ y))
    | false => none
  | .eql => some (.bool (listEqB x y))
  | .neq => some (.bool (!listEqB x y))
  | .lss => some (.bool (listLtB x y))
  | .leq => some (.bool (listLtB x y || listEqB x y))
  | .gtr => some (.bool (!(listLtB x y || listEqB x y)))
  | .geq => some (.bool (!listLtB x y))
  | _ => none
def bytesOf (s : ByteArray) : List Nat := s.data.toList.map UInt8.toNat
def ofVal1 : Value → Option AV
  | .bool b => some (.bool b)
  | .int k n => some (.int k n)
  | .string s => some (.str (bytesOf s))
  | .pointer none => some .nilptr
  | .slice none 0 0 => some .nilslice
  | .map none => some .nilmap
  | .nilFunc => some .nilFunc
  | .nilIface => some .nilIface
  | _ => none
def ofVals : List Value → Option (List AV)
  | [] => some []
  | v :: l => match ofVal1 v with
    | none => none
    | some x => match ofVals l with
      | none => none
      | some y => some (x :: y)
def ofVal (v : Value) : Option AV :=
  match v with
  | .agg cs => match ofVals cs.toList with
    | some l => some (.agg l)
    | none => none
  | .tuple cs => match cs.toList with
    | [] => some und
    | _ => none
  | v => ofVal1 v
def H.alloc (h : H) (o : AObj) : H := { h with t := h.t.set h.nx (some o), nx := h.nx + 1 }
def H.newCells (h : H) (t : TypeId) (l : List AV) : H := h.alloc (.cells (lenL l) (T.ofRow l) ⟨0, t + 1⟩ false)
def H.loadCells (cs : T AV) (o : Nat) : Nat → Option (List AV)
  | 0 => some []
  | k + 1 => match cs.get o with
    | none => none
    | some v => match loadCells cs (o + 1) k with
      | none => none
      | some l => some (v :: l)
def H.loadRow (cs : T AV) (o k : Nat) : Option (List AV) :=
  match cs with
  | .row xs => match lenGe k (xs.drop o) with
    | true => some ((xs.drop o).take k)
    | false => none
  | cs => H.loadCells cs o k
def H.row (h : H) (b o k : Nat) : Option (List AV) :=
  match h.t.get b with
  | some (.cells _ cs _ _) => H.loadRow cs o k
  | _ => none
def H.putCells (cs : T AV) (o : Nat) : List AV → Option (T AV)
  | [] => some cs
  | v :: l => match v.one, cs.get o with
    | true, some _ => putCells (cs.set o (some v)) (o + 1) l
    | _, _ => none
def H.putRow (cs : T AV) (o : Nat) (l : List AV) : Option (T AV) :=
  match cs with
  | .row xs => match lenGe 300 l && (Nat.ble (o + lenL l) (lenL xs) && allOne l) with
    | true => some (.row (xs.take o ++ (l ++ xs.drop (o + lenL l))))
    | false => H.putCells cs o l
  | cs => H.putCells cs o l
def H.put (h : H) (b o : Nat) (l : List AV) : Option H :=
  match h.t.get b with
  | some (.cells n cs esz false) => match H.putRow cs o l with
    | some cs => some { h with t := h.t.set b (some (.cells n cs esz false)) }
    | none => match allOne l && Nat.ble (o + lenL l) n with
      | true => some { h with t := h.t.set b (some (.cells n (T.fill cs o l) esz false)) }
      | false => none
  | _ => none
section
variable (P : Program)
def aggT (t : TypeId) : Bool :=
  match P.underlying t with
  | some (.struct _) => true
  | some (.array _ _) => true
  | _ => false
def okT (t : TypeId) : Bool := (P.underlying t).isSome
def loadV (h : H) (t : TypeId) (b o : Nat) : Option AV :=
  match aggT P t with
  | true => match h.row b o (P.cellsOf t) with
    | some l => some (.agg l)
    | none => none
  | false => match h.t.get b with
    | some (.cells _ cs _ _) => cs.get o
    | _ => none
def storeV (h : H) (t : TypeId) (b o : Nat) (v : AV) : Option H :=
  match Nat.beq v.cells.length (P.cellsOf t) with
  | true => h.put b o v.cells
  | false => none
def zeroA (t : TypeId) : Option AV :=
  match P.info? t with
  | some i => match i.zero with
    | some v => match ofVal v with
      | some (.tuple _) => none
      | r => r
    | none => none
  | none => none
def partA (t : TypeId) (cs : List AV) (off : Nat) : Option AV :=
  match aggT P t with
  | true => some (.agg ((cs.drop off).take (P.cellsOf t)))
  | false => cs[off]?
def splice (cs : List AV) (off : Nat) (new : List AV) : List AV := cs.take off ++ new ++ cs.drop (off + new.length)
def fillA (place : Nat → Option (Nat × Nat)) (cells : List AV) : List (Nat × AV) → Option (List AV)
  | [] => some cells
  | (i, v) :: rest => match place i with
    | none => none
    | some (off, size) => match Nat.beq v.cells.length size && Nat.ble (off + v.cells.length) cells.length with
      | true => fillA place (splice cells off v.cells) rest
      | false => none
def repl (l : List AV) : Nat → List AV
  | 0 => []
  | n + 1 => l ++ repl l n
def eqFields (eq : TypeId → AV → AV → Option Bool) (xs ys : List AV) : List Field → Option Bool
  | [] => some true
  | f :: fs => match f.name == "_" with
    | true => none
    | false => match partA P f.type xs f.offset, partA P f.type ys f.offset with
      | some x, some y => match eq f.type x y with
        | some true => eqFields eq xs ys fs
        | some false => some false
        | none => none
      | _, _ => none
def eqA : Nat → TypeId → AV → AV → Option Bool
  | 0, _, _, _ => none
  | d + 1, t, x, y =>
    match P.underlying t, x, y with
    | some .bool, .bool a, .bool b => some (a == b)
    | some (.int _), .int k a, .int k' b => match IntKind.eqB k k' with | true => some (a == b) | false => none
    | some .string, .str a, .str b => some (listEqB a b)
    | some (.pointer _), .nilptr, .nilptr => some true
    | some (.pointer e), .ptr b o, .ptr c p => match Nat.beq b c, Nat.beq o p with
      | true, true => match okT P e with
        | true => some true
        | false => none
      | true, false => match okT P e && Nat.ble 1 (P.cellsOf e) with
        | true => some false
        | false => none
      | _, _ => none
    | some (.pointer _), .nilptr, .ptr _ _ => some false
    | some (.pointer _), .ptr _ _, .nilptr => some false
    | some (.interface _), .nilIface, .nilIface => some true
    | some (.interface _), .nilIface, .iface _ _ => some false
    | some (.interface _), .iface _ _, .nilIface => some false
    | some (.interface _), .iface tx vx, .iface ty vy => match Nat.beq tx ty with
      | false => some false
      | true => match P.info? tx with
        | some i => match i.comparable with
          | true => eqA d tx vx vy
          | false => none
        | none => none
    | some (.struct fields), .agg xs, .agg ys => match P.stoodInHeld t with
      | true => none
      | false => eqFields P (eqA d) xs ys fields.toList
    | some (.slice _), .nilslice, .nilslice => some true
    | some (.slice _), .nilslice, .slice _ _ _ _ => some false
    | some (.slice _), .slice _ _ _ _, .nilslice => some false
    | some (.slice _), .nilslice, .slice0 => some false
    | some (.slice _), .slice0, .nilslice => some false
    | some (.map _ _), .nilmap, .nilmap => some true
    | some (.map _ _), .nilmap, .map _ => some false
    | some (.map _ _), .map _, .nilmap => some false
    | some (.func _ _ _), .nilFunc, .nilFunc => some true
    | some (.func _ _ _), .nilFunc, .func _ _ _ => some false
    | some (.func _ _ _), .func _ _ _, .nilFunc => some false
    | _, _, _ => none
def isConstB : Operand → Bool
  | .const _ => true
  | _ => false
def guardEq (t : TypeId) (x y : Operand) (a b : AV) : Bool :=
  match a, b with
  | .nilIface, .nilIface => isConstB x || isConstB y
  | .agg _, .agg _ => !P.eqGuardType P.depth t
  | _, _ => true
def binA (op : BinOp) (t : TypeId) (x y : Operand) (a b : AV) : Option AV :=
  match a, b with
  | .int k m, .int k' n => match op with
    | .shl => shiftB .shl k m n
    | .shr => shiftB .shr k m n
    | op => match IntKind.eqB k k' with
      | true => intB op k m n
      | false => none
  | .str s, .str u => strB op s u
  | a, b => match op with
    | .eql => match guardEq P t x y a b with
      | true => match eqA P 12 t a b with
        | some r => some (.bool r)
        | none => none
      | false => none
    | .neq => match guardEq P t x y a b with
      | true => match eqA P 12 t a b with
        | some r => some (.bool !r)
        | none => none
      | false => none
    | _ => none
def allBits : IntKind → Int
  | .u8 => 255
  | .u16 => 65535
  | .u32 => 4294967295
  | .u64 => 18446744073709551615
  | _ => -1
def unA (op : UnOp) (x : AV) : Option AV :=
  match op, x with
  | .neg, .int k n => some (forceInt (wrapF k (0 - n)) (.int k))
  | .xor, .int k n => intB .xor k (allBits k) n
  | .not, .bool b => some (.bool !b)
  | _, _ => none
def bnd (x : AV) (hi : Nat) : Option Nat :=
  match x with
  | .int _ (.ofNat i) => match Nat.ble i hi with
    | true => some i
    | false => none
  | _ => none
def bndO (x : Option AV) (hi dflt : Nat) : Option Nat :=
  match x with
  | some v => bnd v hi
  | none => some dflt
def sliceStr (s : List Nat) (lo hi : Option AV) : Option AV :=
  match bndO hi (lenL s) (lenL s) with
  | none => none
  | some h => match bndO lo h 0 with
    | none => none
    | some l => some (.str ((s.take h).drop l))
def sliceEx (b o len c size : Nat) (lo hi mx : Option AV) : Option AV :=
  match mx.isSome && hi.isNone with
  | true => none
  | false => match bndO mx c c with
  | none => none
  | some m => match bndO hi m len with
    | none => none
    | some h => match bndO lo h 0 with
      | none => none
      | some l => match Nat.beq m l with
        | true => some (.slice b o (h - l) (.exact (m - l)))
        | false => some (.slice b (o + l * size) (h - l) (.exact (m - l)))
def sliceOp (b o len i size : Nat) (lo hi mx : Option AV) : Option AV :=
  match mx with
  | some mx => match bnd mx len, hi with
    | some m, some hi => match bnd hi m with
      | none => none
      | some h => match bndO lo h 0 with
        | none => none
        | some l => match Nat.beq m l with
          | true => some (.slice b o (h - l) (.exact (m - l)))
          | false => some (.slice b (o + l * size) (h - l) (.exact (m - l)))
    | _, _ => none
  | none => match bndO hi len len with
    | none => none
    | some h => match bndO lo h 0 with
      | none => none
      | some l => match Nat.beq l 0 with
        | true => some (.slice b o h (.opn i))
        | false => match Nat.ble (l + 1) len with
          | true => some (.slice b (o + l * size) (h - l) (.opn (i + l)))
          | false => some .slice0
def sliceA (t : TypeId) (x : AV) (lo hi mx : Option AV) : Option AV :=
  match P.underlying t, x with
  | some .string, .str s => match mx with
    | none => sliceStr s lo hi
    | some _ => none
  | some (.slice e), .nilslice => match okT P e, sliceEx 0 0 0 0 0 lo hi mx with
    | true, some _ => some .nilslice
    | _, _ => none
  | some (.slice e), .slice0 => match okT P e, mx, bndO hi 0 0, bndO lo 0 0 with
    | true, none, some _, some _ => some .slice0
    | _, _, _, _ => none
  | some (.slice e), .slice b o len (.exact c) => match okT P e with
    | true => sliceEx b o len c (P.cellsOf e) lo hi mx
    | false => none
  | some (.slice e), .slice b o len (.opn i) => match okT P e with
    | true => sliceOp b o len i (P.cellsOf e) lo hi mx
    | false => none
  | some (.array n e), .ptr b o => match okT P e with
    | true => sliceEx b o n n (P.cellsOf e) lo hi mx
    | false => none
  | some (.pointer a), .ptr b o => match P.underlying a with
    | some (.array n e) => match okT P e with
      | true => sliceEx b o n n (P.cellsOf e) lo hi mx
      | false => none
    | _ => none
  | _, _ => none
def lenA (t : TypeId) (x : AV) (h : H) : Option Nat :=
  match P.underlying t, x with
  | some .string, .str s => some (lenL s)
  | some (.array n _), _ => some n
  | some (.pointer a), _ => match P.underlying a with
    | some (.array n _) => some n
    | _ => none
  | some (.slice _), .nilslice => some 0
  | some (.slice _), .slice0 => some 0
  | some (.slice _), .slice _ _ len _ => some len
  | some (.map _ _), .nilmap => some 0
  | some (.map _ _), .map r => match h.t.get r with
    | some (.map es _) => some es.length
    | _ => none
  | _, _ => none
def capA (t : TypeId) (x : AV) : Option Nat :=
  match P.underlying t, x with
  | some (.array n _), _ => some n
  | some (.slice _), .nilslice => some 0
  | some (.slice _), .slice _ _ _ (.exact c) => some c
  | _, _ => none
def srcA (h : H) (size n : Nat) : AV → Option (List AV)
  | .nilslice => some []
  | .slice0 => some []
  | .slice b o _ _ => h.row b o (n * size)
  | .str s => some ((s.take n).map fun b => .int .u8 (Int.ofNat b))
  | _ => none
def lenOfA : AV → Option Nat
  | .nilslice => some 0
  | .slice0 => some 0
  | .slice _ _ n _ => some n
  | .str s => some (lenL s)
  | _ => none
def small (n : Nat) : Bool := Nat.ble n 4194304
def H.grown (h : H) (old : Option Nat) (esz : EK) (l : List AV) : H :=
  let t := match old with
    | some b => h.t.set b none
    | none => h.t
  { h with t := t.set h.nx (some (.cells (lenL l) (T.ofRow l) esz false)), nx := h.nx + 1 }
def keepK (k : EK) (size : Nat) (elem : TypeId) : EK :=
  match Nat.beq k.ty (elem + 1) with
  | true => ⟨size, elem + 1⟩
  | false => ⟨size, 0⟩
def appendN (elem : TypeId) (size : Nat) (s : AV) (n : Nat) (new : List AV) (h : H) : R :=
  match Nat.beq (lenL new) (n * size) with
   | false => .fail
   | true => match s with
    | .nilslice => match n with
      | 0 => .val .nilslice h
      | _ => match small n with
        | true => .val (.slice h.nx 0 n (.opn 0)) (h.grown none ⟨size, elem + 1⟩ new)
        | false => .fail
    | .slice0 => match n with
      | 0 => .val .slice0 h
      | _ => .fail
    | .slice b o len (.exact c) => match Nat.ble (len + n) c with
      | true => match h.put b (o + len * size) new with
        | some h => .val (.slice b o (len + n) (.exact c)) h
        | none => .fail
      | false => match small (len + n), h.row b o (len * size) with
        | true, some old => .val (.slice h.nx 0 (len + n) (.opn 0)) (h.grown none ⟨size, elem + 1⟩ (old ++ new))
        | _, _ => .fail
    | .slice b o len (.opn i) => match n with
      | 0 => .val s h
      | _ => match h.t.get b, Nat.beq o (i * size) with
        | some (.cells e cs esz false), true => match Nat.beq esz.sz size with
         | false => .fail
         | true => match Nat.ble (o + (len + n) * size) e with
          | true => match h.put b (o + len * size) new with
            | some h => .val (.slice b o (len + n) (.opn i)) h
            | none => .fail
          | false => match small (len + n), H.loadRow cs o (len * size) with
            | true, some old => .val (.slice h.nx 0 (len + n) (.opn 0)) (h.grown (some b) (keepK esz size elem) (old ++ new))
            | _, _ => .fail
        | _, _ => .fail
    | _ => .fail
def appendOk (elem : TypeId) (info : TypeInfo) : Bool :=
  small (info.bytes + 1) && okT P elem && !(Nat.beq info.bytes 0 || Nat.beq info.size 0 || !(match info.zero with | some z => Nat.beq z.cells.size info.size | none => false))
def appendA (elem : TypeId) (s x : AV) (h : H) : R :=
  match P.info? elem with
  | none => .fail
  | some info => match lenOfA x, appendOk P elem info with
    | some n, true => match srcA h info.size n x with
      | none => .fail
      | some new => appendN elem info.size s n new h
    | _, _ => .fail
def appendZ (elem : TypeId) (s x : AV) (h : H) : R :=
  match P.info? elem, x with
  | some info, .int _ (.ofNat n) => match zeroA P elem, appendOk P elem info && small n with
    | some z, true => appendN elem info.size s n (repl z.cells n) h
    | _, _ => .fail
  | _, _ => .fail
def copyA (elem : TypeId) (d x : AV) (h : H) : R :=
  match lenOfA d, lenOfA x with
  | some dl, some n =>
    let n := Nat.min n dl
    match srcA h (P.cellsOf elem) n x with
    | none => .fail
    | some l => match okT P elem, d with
      | true, .nilslice => .val (.int .i64 (Int.ofNat n)) h
      | true, .slice0 => .val (.int .i64 (Int.ofNat n)) h
      | true, .slice b o _ _ => match h.put b o l with
        | some h => .val (.int .i64 (Int.ofNat n)) h
        | none => .fail
      | _, _ => .fail
  | _, _ => .fail
def keyEq (t : TypeId) (a b : AV) : Option Bool := eqA P 4 t a b
def keyFields (kv : TypeId → AV → Bool) (cs : List AV) : List Field → Bool
  | [] => true
  | f :: fs => match f.name == "_", okT P f.type, partA P f.type cs f.offset with
    | false, true, some v => match kv f.type v with
      | true => keyFields kv cs fs
      | false => false
    | _, _, _ => false
def keyV : Nat → TypeId → AV → Bool
  | 0, _, _ => false
  | d + 1, t, k => match P.underlying t, k with
    | some (.int _), .int _ _ => true
    | some .string, .str _ => true
    | some .bool, .bool _ => true
    | some (.struct fs), .agg cs => keyFields P (keyV d) cs fs.toList
    | _, _ => false
def same1 : AV → AV → Bool
  | .bool a, .bool b => a == b
  | .int j a, .int k b => IntKind.eqB j k && a == b
  | .str a, .str b => listEqB a b
  | _, _ => false
def sames : List AV → List AV → Bool
  | [], [] => true
  | a :: l, b :: r => same1 a b && sames l r
  | _, _ => false
def sameV : AV → AV → Bool
  | .agg a, .agg b => sames a b
  | a, b => same1 a b
def findA (t : TypeId) (k : AV) : List (AV × AV × Nat) → Nat → Option (Option (Nat × AV))
  | [], _ => some none
  | e :: es, i => match keyEq P t k e.1 with
    | some true => some (some (i, e.2.1))
    | some false => findA t k es (i + 1)
    | none => none
def lookupA (t : TypeId) (x k : AV) (ok : Bool) (h : H) : Option AV :=
  match P.underlying t with
  | some (.map kt elem) => match keyV P 4 kt k with
    | false => none
    | true =>
      let es : Option (List (AV × AV × Nat)) := match x with
        | .nilmap => some []
        | .map r => match h.t.get r with
          | some (.map es _) => some es
          | _ => none
        | _ => none
      match es with
      | none => none
      | some es => match findA P kt k es 0 with
        | none => none
        | some (some (_, v)) => some (match ok with | true => .tuple [v, .bool true] | false => v)
        | some none => match zeroA P elem with
          | some z => some (match ok with | true => .tuple [z, .bool false] | false => z)
          | none => none
  | _ => none
def setVal (v : AV) : List (AV × AV × Nat) → Nat → List (AV × AV × Nat)
  | [], _ => []
  | e :: es, 0 => (e.1, v, e.2.2) :: es
  | e :: es, i + 1 => e :: setVal v es i
def sameAt (k : AV) (es : List (AV × AV × Nat)) (i : Nat) : Bool :=
  match es[i]? with
  | some e => sameV e.1 k
  | none => false
def updateA (t : TypeId) (x k v : AV) (h : H) : Option H :=
  match P.underlying t, x with
  | some (.map kt _), .map r => match keyV P 4 kt k, h.t.get r with
    | true, some (.map es clock) => match findA P kt k es 0 with
      | none => none
      | some (some (i, _)) => match sameAt k es i with
        | true => some { h with t := h.t.set r (some (.map (setVal v es i) clock)) }
        | false => none
      | some none => some { h with t := h.t.set r (some (.map (es ++ [(k, v, clock)]) (clock + 1))) }
    | _, _ => none
  | _, _ => none
def deleteA (t : TypeId) (x k : AV) (h : H) : Option H :=
  match P.underlying t, x with
  | some (.map kt _), .nilmap => match keyV P 4 kt k with
    | true => some h
    | false => none
  | some (.map kt _), .map r => match keyV P 4 kt k, h.t.get r with
    | true, some (.map es clock) => match findA P kt k es 0 with
      | none => none
      | some (some (i, _)) => some { h with t := h.t.set r (some (.map (es.eraseIdx i) clock)) }
      | some none => some h
    | _, _ => none
  | _, _ => none
def clearA (t : TypeId) (x : AV) (h : H) : Option H :=
  match P.underlying t, x with
  | some (.map _ _), .nilmap => some h
  | some (.map _ _), .map r => match h.t.get r with
    | some (.map _ clock) => some { h with t := h.t.set r (some (.map [] clock)) }
    | _ => none
  | some (.slice _), .nilslice => some h
  | some (.slice _), .slice0 => some h
  | some (.slice e), .slice b o len _ => match len with
    | 0 => some h
    | n + 1 => match zeroA P e with
      | some z => h.put b o (repl z.cells (n + 1))
      | none => none
  | _, _ => none
def mapEntryA (t : TypeId) (x k : AV) (h : H) : R :=
  match P.underlying t, x with
  | some (.map kt elem), .map r => match keyV P 4 kt k, h.t.get r with
    | true, some (.map es clock) => match findA P kt k es 0 with
      | none => .fail
      | some (some (i, v)) => match es[i]?, sameAt k es i with
        | some e, true => .val (.tuple [v, .int .i64 (Int.ofNat e.2.2)]) h
        | _, _ => .fail
      | some none => match zeroA P elem with
        | some z => .val (.tuple [z, .int .i64 (Int.ofNat clock)]) { h with t := h.t.set r (some (.map (es ++ [(k, z, clock)]) (clock + 1))) }
        | none => .fail
    | _, _ => .fail
  | _, _ => .fail
def findBorn (born : Int) : List (AV × AV × Nat) → Nat → Option Nat
  | [], _ => none
  | e :: es, i => match (Int.ofNat e.2.2 == born) with
    | true => some i
    | false => findBorn born es (i + 1)
def entryStoreA (x stamp v : AV) (h : H) : Option H :=
  match x, stamp with
  | .map r, .int _ born => match h.t.get r with
    | some (.map es clock) => match findBorn born es 0 with
      | some i => some { h with t := h.t.set r (some (.map (setVal v es i) clock)) }
      | none => none
    | _ => none
  | _, _ => none
def mapOf : Option AObj → Option (List (AV × AV × Nat) × Nat)
  | some (.map es c) => some (es, c)
  | some (.romap es c) => some (es, c)
  | _ => none
def rangeA (t : TypeId) (x : AV) (h : H) : R :=
  match P.underlying t, x with
  | some .string, .str s => .val (.ptr h.nx 0) (h.alloc (.strIter s 0))
  | some (.map _ _), .nilmap => .val (.ptr h.nx 0) (h.alloc (.mapIter none 0 [] 0))
  | some (.map _ _), .map m => match mapOf (h.t.get m) with
    | some (_, clock) => .val (.ptr h.nx 0) (h.alloc (.mapIter (some m) clock [] clock))
    | none => .fail
  | _, _ => .fail
def notIn (l : List Nat) (x : Nat) : Bool := match l with
  | [] => true
  | y :: l => match Nat.beq x y with
    | true => false
    | false => notIn l x
def nextA (x : AV) (isString : Bool) (h : H) : R :=
  match x with
  | .ptr r 0 => match h.t.get r, isString with
    | some (.strIter s pos), true => match s[pos]? with
      | some b => match Nat.blt b 128 with
        | true => .val (.tuple [.bool true, .int .i64 (Int.ofNat pos), .int .i32 (Int.ofNat b)]) { h with t := h.t.set r (some (.strIter s (pos + 1))) }
        | false => .fail
      | none => .val (.tuple [.bool false]) h
    | some (.mapIter none _ _ _), false => .val (.tuple [.bool false]) h
    | some (.mapIter (some m) since seen last), false => match h.t.get m with
      | some (.map es clock) =>
        match !seen.isEmpty && !es.isEmpty && es.all (fun e => Nat.ble last e.2.2) with
        | true => .fail
        | false => match es.filter (fun e => notIn seen e.2.2) with
          | [] => .val (.tuple [.bool false]) h
          | [e] => match Nat.blt e.2.2 since with
            | true => .val (.tuple [.bool true, e.1, e.2.1]) { h with t := h.t.set r (some (.mapIter (some m) since (seen ++ [e.2.2]) clock)) }
            | false => .fail
          | _ => .fail
      | _ => .fail
    | _, _ => .fail
  | _ => .fail
def lastOf : List Nat → Option Nat
  | [] => none
  | x :: l => match l with
    | [] => some x
    | _ :: _ => lastOf l
def findStamp (b : Nat) : List (AV × AV × Nat) → Option AV
  | [] => none
  | e :: es => match Nat.beq e.2.2 b with
    | true => some (.tuple [e.1, e.2.1])
    | false => findStamp b es
def entryA (x : AV) (h : H) : Option AV :=
  match x with
  | .ptr r 0 => match h.t.get r with
    | some (.mapIter (some m) _ seen stepped) => match lastOf seen, mapOf (h.t.get m) with
      | some stamp, some (es, clock) => match Nat.beq clock stepped with
        | true => findStamp stamp es
        | false => none
      | _, _ => none
    | _ => none
  | _ => none
def evalA (tm : T AV) : Operand → Option AV
  | .tmp t => match tm.get t with
    | some v => some v
    | none => some und
  | .const v => ofVal v
  | .global _ => none
  | .func f => some (.func f [] [])
def evalG (tm : T AV) (h : H) (x : Operand) : Option AV :=
  match x with
  | .global g => match Nat.blt g h.g with
    | true => some (.ptr g 0)
    | false => none
  | x => evalA tm x
def evalsA (tm : T AV) : List Operand → Option (List AV)
  | [] => some []
  | x :: l => match evalA tm x with
    | none => none
    | some v => match evalsA tm l with
      | none => none
      | some vs => some (v :: vs)
def evalP (tm : T AV) : List (Nat × Operand) → Option (List (Nat × AV))
  | [] => some []
  | (i, x) :: l => match evalA tm x with
    | none => none
    | some v => match evalP tm l with
      | none => none
      | some vs => some ((i, v) :: vs)
def evalO (tm : T AV) : Option Operand → Option (Option AV)
  | none => some none
  | some x => match evalA tm x with
    | none => none
    | some v => some (some v)
def enterOk (f : FuncId) : Bool :=
  match P.funcs[f]? with
  | some fn => fn.body.isSome && !(fn.name == "runtime.NumGoroutine")
  | none => false
def callV (f : AV) (args : List AV) (h : H) : R :=
  match f with
  | .func f first captured => match enterOk P f with
    | true => .enter f (first ++ args ++ captured) h
    | false => .ext f (first ++ args ++ captured) h
  | .yield l => .round l args h
  | _ => .fail
def optV (h : H) : Option AV → R
  | some v => .val v h
  | none => .fail
def optH : Option H → R
  | some h => .skip h
  | none => .fail
def placeOf (fields : List Field) (i : Nat) : Option (Nat × Nat) :=
  match fields[i]? with
  | some f => some (f.offset, P.cellsOf f.type)
  | none => none
def buildA (t : TypeId) (parts : List (Nat × AV)) : Option AV :=
  match zeroA P t, P.underlying t with
  | some z, some (.struct fields) =>
    match fields.toList.all (fun f => okT P f.type) with
    | false => none
    | true => match fillA (placeOf P fields.toList) z.cells parts with
    | some l => some (.agg l)
    | none => none
  | some z, some (.array _ elem) =>
    let size := P.cellsOf elem
    match okT P elem with
    | false => none
    | true => match fillA (fun i => some (i * size, size)) z.cells parts with
    | some l => some (.agg l)
    | none => none
  | _, _ => none
def buildSliceA (t : TypeId) (len : Nat) (parts : List (Nat × AV)) (h : H) : R :=
  match P.underlying t with
  | some (.slice elem) =>
    let size := P.cellsOf elem
    match okT P elem, small (len * size), zeroA P elem with
    | true, true, some z => match Nat.beq z.cells.length size, fillA (fun i => some (i * size, size)) (repl z.cells len) parts with
      | true, some l => match allOne l with
        | true => .val (.slice h.nx 0 len (.exact len)) (h.newCells elem l)
        | false => .fail
      | _, _ => .fail
    | _, _, _ => .fail
  | _ => .fail
def makeSliceA (t : TypeId) (len cap : AV) (h : H) : R :=
  match P.underlying t, len, cap with
  | some (.slice elem), .int _ (.ofNat l), .int _ (.ofNat c) => match P.info? elem, zeroA P elem, Nat.ble l c && small c with
    | some info, some z, true => match okT P elem && small info.bytes && Nat.beq z.cells.length info.size && Nat.ble 1 info.size with
      | true => .val (.slice h.nx 0 l (.exact c)) (h.newCells elem (repl z.cells c))
      | false => .fail
    | _, _, _ => .fail
  | _, _, _ => .fail
def fieldAddrA (t : TypeId) (x : AV) (i : Nat) : Option AV :=
  match P.underlying t, x with
  | some (.struct fields), .ptr b o => match fields.toList[i]? with
    | some f => match Nat.beq (P.cellsOf f.type) 0 with
      | true => none
      | false => some (.ptr b (o + f.offset))
    | none => none
  | _, _ => none
def fieldA (t : TypeId) (x : AV) (i : Nat) : Option AV :=
  match P.underlying t, x with
  | some (.struct fields), .agg cs => match fields.toList[i]? with
    | some f => match okT P f.type with
      | true => partA P f.type cs f.offset
      | false => none
    | none => none
  | _, _ => none
def indexAddrA (t : TypeId) (x ix : AV) : Option AV :=
  match ix with
  | .int _ (.ofNat i) => match P.underlying t, x with
    | some (.array len e), .ptr b o => match Nat.blt i len && okT P e with
      | true => some (.ptr b (o + i * P.cellsOf e))
      | false => none
    | some (.slice e), .slice b o len _ => match Nat.blt i len && okT P e with
      | true => some (.ptr b (o + i * P.cellsOf e))
      | false => none
    | _, _ => none
  | _ => none
def indexA (t : TypeId) (x ix : AV) : Option AV :=
  match ix with
  | .int _ (.ofNat i) => match P.underlying t, x with
    | some (.array len e), .agg cs => match Nat.blt i len && okT P e with
      | true => partA P e cs (i * P.cellsOf e)
      | false => none
    | some .string, .str s => match s[i]? with
      | some b => some (.int .u8 (Int.ofNat b))
      | none => none
    | _, _ => none
  | _ => none
def isByte : AV → Bool
  | .int .u8 (.ofNat _) => true
  | _ => false
def byteOf : AV → Nat
  | .int .u8 (.ofNat n) => n % 256
  | _ => 0
noncomputable def allByte (l : List AV) : Bool :=
  List.rec (motive := fun _ => Bool) true (fun x _ ih => match isByte x with | true => ih | false => false) l
def bytesA (l : List AV) : Option (List Nat) :=
  match allByte l with
  | true => some (l.map byteOf)
  | false => none
def convertA (src dst : TypeId) (x : AV) (h : H) : R :=
  match P.underlying src, P.underlying dst, x with
  | some _, some (.int k), .int _ n => .val (forceInt (wrapF k n) (.int k)) h
  | some _, some .string, .str s => .val (.str s) h
  | some _, some (.slice e), .str s => match P.underlying e, small (lenL s) with
    | some (.int .u8), true => .val (.slice h.nx 0 (lenL s) (.opn 0)) (h.grown none ⟨1, e + 1⟩ (s.map fun b => .int .u8 (Int.ofNat b)))
    | _, _ => .fail
  | some (.slice e), some .string, .nilslice => match P.underlying e with
    | some (.int .u8) => .val (.str []) h
    | _ => .fail
  | some (.slice e), some .string, .slice0 => match P.underlying e with
    | some (.int .u8) => .val (.str []) h
    | _ => .fail
  | some (.slice e), some .string, .slice b o len _ => match P.underlying e with
    | some (.int .u8) => match h.row b o len with
      | some l => match bytesA l with
        | some s => .val (.str s) h
        | none => .fail
      | none => .fail
    | _ => .fail
  | _, _, _ => .fail
def toUnsafeA (t : TypeId) (x : AV) (h : H) : R :=
  match x with
  | .nilptr => .val .nilptr h
  | .ptr b o => match h.t.get b with
    | some (.cells n _ _ _) => match Nat.blt o n && okT P t && Nat.ble 1 (P.cellsOf t) with
      | true => .val (.ptr b o) h
      | false => .fail
    | _ => .fail
  | _ => .fail
def fromUnsafeA (u : TypeId) (x : AV) (h : H) : R :=
  match x with
  | .nilptr => .val .nilptr h
  | .ptr b 0 => match h.t.get b with
    | some (.cells n _ ⟨0, ty⟩ _) => match Nat.beq ty (u + 1) && okT P u && Nat.ble 1 (P.cellsOf u) && Nat.ble (P.cellsOf u) n with
      | true => .val (.ptr b 0) h
      | false => .fail
    | _ => .fail
  | _ => .fail
def sliceDataA (x : AV) : Option AV :=
  match x with
  | .nilslice => some .nilptr
  | .slice b o len c => match c with
    | .exact c => match Nat.beq c 0 with
      | true => none
      | false => some (.ptr b o)
    | .opn _ => match Nat.beq len 0 with
      | true => none
      | false => some (.ptr b o)
  | _ => none
def unsafeStrA (pt : TypeId) (p : AV) (n : Nat) (h : H) : R :=
  match n with
  | 0 => match p with
    | .nilptr => .val (.str []) h
    | .ptr _ _ => .val (.str []) h
    | _ => .fail
  | n + 1 => match p, P.underlying pt with
    | .ptr b o, some (.pointer e) => match h.t.get b with
      | some (.cells m cs esz false) => match Nat.beq esz.ty (e + 1) && Nat.beq (P.cellsOf e) 1 && okT P e && small (n + 1), H.loadRow cs o (n + 1) with
        | true, some l => match bytesA l with
          | some s => .val (.str s) { h with t := h.t.set b (some (.cells m cs esz true)) }
          | none => .fail
        | _, _ => .fail
      | _ => .fail
    | _, _ => .fail
def minI (x y : Int) : Int := match Int.decLt y x with | isTrue _ => y | isFalse _ => x
def builtinA (b : Builtin) (argTypes : List TypeId) (args : List AV) (h : H) : R :=
  match b, argTypes, args with
  | .len, t :: _, x :: _ => match lenA P t x h with
    | some n => .val (.int .i64 (Int.ofNat n)) h
    | none => .fail
  | .cap, t :: _, x :: _ => match capA P t x with
    | some n => .val (.int .i64 (Int.ofNat n)) h
    | none => .fail
  | .append, t :: u :: _, s :: x :: _ => match P.underlying t, P.underlying u with
    | some (.slice e), some (.int _) => appendZ P e s x h
    | some (.slice e), some _ => appendA P e s x h
    | _, _ => .fail
  | .copy, t :: _, d :: x :: _ => match P.underlying t with
    | some (.slice e) => copyA P e d x h
    | _ => .fail
  | .delete, t :: _, m :: k :: _ => match deleteA P t m k h with
    | some h => .val und h
    | none => .fail
  | .clear, t :: _, [x] => match clearA P t x h with
    | some h => .val und h
    | none => .fail
  | .max, _, [.int k x, .int _ y] => .val (.int k (match Int.decLt x y with | isTrue _ => y | isFalse _ => x)) h
  | .min, _, [.int k x, .int _ y] => .val (.int k (match Int.decLt y x with | isTrue _ => y | isFalse _ => x)) h
  | .min, _, [.int k x, .int _ y, .int _ z] => .val (.int k (minI (minI x y) z)) h
  | .recover, _, [] => .recover h
  | .panic, _, [.iface t v] => .panic (.iface t v) h
  | .unsafeSliceData, _, [x] => optV h (sliceDataA x)
  | .unsafeString, pt :: _, [p, .int .i64 (.ofNat n)] => unsafeStrA P pt p n h
  | _, _, _ => .fail
def apartA (h : H) (a b : AV) : Bool :=
  match a with
  | .ptr x o => match b with
    | .ptr y p => match Nat.beq x y with
      | true => false
      | false => match h.t.get x, h.t.get y with
        | some (.cells n _ k false), some (.cells m _ _ false) => Nat.blt o n && Nat.blt p m && Nat.beq k.sz 0
        | _, _ => false
    | _ => false
  | _ => false
def apartV (op : BinOp) (t : TypeId) (h : H) : R :=
  match P.underlying t with
  | some (.pointer e) => match okT P e && Nat.ble 1 (P.cellsOf e), op with
    | true, .eql => .val (.bool false) h
    | true, .neq => .val (.bool true) h
    | _, _ => .fail
  | _ => .fail
def execA (tm : T AV) (h : H) (o : Op) : R :=
  match o with
  | .move x => optV h (evalA tm x)
  | .assign x => optV h (evalA tm x)
  | .pick c a b => match evalA tm c with
    | some (.bool true) => optV h (evalA tm a)
    | some (.bool false) => optV h (evalA tm b)
    | _ => .fail
  | .alloc t => match zeroA P t with
    | some z => .val (.ptr h.nx 0) (h.newCells t z.cells)
    | none => .fail
  | .box t x => match evalA tm x with
    | some v => match allOne v.cells with
      | true => .val (.ptr h.nx 0) (h.newCells t v.cells)
      | false => .fail
    | none => .fail
  | .build t parts => match evalP tm parts.toList with
    | some l => optV h (buildA P t l)
    | none => .fail
  | .buildSlice t len parts => match evalP tm parts.toList with
    | some l => buildSliceA P t len l h
    | none => .fail
  | .load t x => match okT P t, evalG tm h x with
    | true, some (.ptr b o) => optV h (loadV P h t b o)
    | _, _ => .fail
  | .store t x y => match okT P t, evalA tm x, evalA tm y with
    | true, some (.ptr b o), some v => optH (storeV P h t b o v)
    | _, _, _ => .fail
  | .nilCheck x => match evalA tm x with
    | some .nilptr => .fail
    | some .nilIface => .fail
    | some .nilFunc => .fail
    | some v => .val v h
    | none => .fail
  | .binOp op t x y _ => match evalA tm x, evalA tm y with
    | some a, some b => match apartA h a b with
      | true => apartV P op t h
      | false => optV h (binA P op t x y a b)
    | _, _ => .fail
  | .unOp op _ x => match evalA tm x with
    | some v => optV h (unA op v)
    | none => .fail
  | .convert src dst x => match evalA tm x with
    | some v => match P.underlying src, P.underlying dst with
      | some (.pointer t), some .unsafePointer => toUnsafeA P t v h
      | some .unsafePointer, some (.pointer u) => fromUnsafeA P u v h
      | _, _ => convertA P src dst v h
    | none => .fail
  | .makeInterface t x => match P.underlying t, evalA tm x with
    | some (.interface _), _ => .fail
    | some _, some v => .val (.iface t v) h
    | _, _ => .fail
  | .makeFunc (.func f) first captured => match evalsA tm first.toList, evalsA tm captured.toList with
    | some a, some b => .val (.func f a b) h
    | _, _ => .fail
  | .makeMap t r => match P.underlying t, evalO tm r with
    | some (.map _ _), some none => .val (.map h.nx) (h.alloc (.map [] 0))
    | some (.map _ _), some (some (.int _ _)) => .val (.map h.nx) (h.alloc (.map [] 0))
    | _, _ => .fail
  | .makeSlice t l c => match evalA tm l, evalA tm c with
    | some l, some c => makeSliceA P t l c h
    | _, _ => .fail
  | .slice t x lo hi mx => match evalA tm x, evalO tm lo, evalO tm hi, evalO tm mx with
    | some x, some lo, some hi, some mx => optV h (sliceA P t x lo hi mx)
    | _, _, _, _ => .fail
  | .fieldAddr t x i => match evalG tm h x with
    | some v => optV h (fieldAddrA P t v i)
    | none => .fail
  | .field t x i => match evalA tm x with
    | some v => optV h (fieldA P t v i)
    | none => .fail
  | .indexAddr t x i => match evalG tm h x, evalA tm i with
    | some x, some i => optV h (indexAddrA P t x i)
    | _, _ => .fail
  | .index t x i => match evalA tm x, evalA tm i with
    | some x, some i => optV h (indexA P t x i)
    | _, _ => .fail
  | .lookup t x i ok => match evalA tm x, evalA tm i with
    | some x, some i => optV h (lookupA P t x i ok h)
    | _, _ => .fail
  | .mapUpdate t m k x => match evalA tm m, evalA tm k, evalA tm x with
    | some m, some k, some x => optH (updateA P t m k x h)
    | _, _, _ => .fail
  | .insert t m k x => match evalA tm m, evalA tm k, evalA tm x with
    | some m, some k, some x => optH (updateA P t m k x h)
    | _, _, _ => .fail
  | .mapEntry t m k => match evalA tm m, evalA tm k with
    | some m, some k => mapEntryA P t m k h
    | _, _ => .fail
  | .entryStore _ m s x => match evalA tm m, evalA tm s, evalA tm x with
    | some m, some s, some x => optH (entryStoreA m s x h)
    | _, _, _ => .fail
  | .range t x => match evalA tm x with
    | some v => rangeA P t v h
    | none => .fail
  | .next x s => match evalA tm x with
    | some v => nextA v s h
    | none => .fail
  | .entry x => match evalA tm x with
    | some v => optV h (entryA v h)
    | none => .fail
  | .extract x i => match evalA tm x with
    | some (.tuple vs) => optV h vs[i]?
    | _ => .fail
  | .call { callee, args, argTypes } => match evalsA tm args.toList with
    | none => .fail
    | some args => match callee with
      | .value f => match evalA tm f with
        | some f => callV P f args h
        | none => .fail
      | .builtin b => builtinA P b argTypes.toList args h
      | .invoke _ _ => .fail
  | .defer { callee := .value f, args, .. } => match evalA tm f, evalsA tm args.toList with
    | some (.func f first captured), some args => match enterOk P f with
      | true => .defer (.call f (first ++ args) captured) h
      | false => .fail
    | _, _ => .fail
  | .panic x => match evalA tm x with
    | some (.iface t v) => .panic (.iface t v) h
    | _ => .fail
  | _ => .fail
def aExitTo (id : Nat) : List AItem → Option (List AItem)
  | .inBlock id' :: k => match Nat.beq id' id with
    | true => some k
    | false => aExitTo id k
  | _ :: k => aExitTo id k
  | [] => none
def aGotoIn (l : Nat) : List AItem → Option (List AItem)
  | .inScope body :: k => match findLabel body l with
    | some rest => some (.code rest :: .inScope body :: k)
    | none => aGotoIn l k
  | _ :: k => aGotoIn l k
  | [] => none
def AFrame.putD (fr : AFrame) (d : Option Tmp) (v : AV) : T AV :=
  match d with
  | some d => match Nat.blt d fr.nt with
    | true => fr.tm.set d (some v)
    | false => fr.tm
  | none => fr.tm
def AFrame.finish1 (fr : AFrame) (v : AV) : Option AFrame :=
  match fr.todo with
  | .ops ops (o :: l) :: k => some { fr with tm := fr.putD o.dst v, todo := .ops ops l :: k }
  | .inRangeFunc l :: k => some { fr with todo := .endRangeFunc l :: k }
  | .beginRound :: k => some { fr with todo := k }
  | _ => none
def dstOk (nt : Nat) : Option Tmp → Bool
  | none => true
  | some d => Nat.blt d nt
def AFrame.finishD (fr : AFrame) (d : Draw) (v : AV) : Option AFrame :=
  match d.wait, d.rem with
  | true, (_, o) :: rem => match dstOk fr.nt o.dst with
    | true => some { fr with tm := fr.putD o.dst v, dr := some { d with rem, wait := false } }
    | false => none
  | _, _ => none
def AFrame.finish (fr : AFrame) (v : AV) : Option AFrame :=
  match fr.dr with
  | none => fr.finish1 v
  | some d => fr.finishD d v
def raiseM (m : AMode) (vs : List APanic) : AMode :=
  match m with
  | .panicking chain => .panicking (vs ++ chain)
  | _ => .panicking vs
def AFrame.raise1 (fr : AFrame) (vs : List APanic) : AFrame := { fr with mode := raiseM fr.mode vs }
def AFrame.raise (fr : AFrame) (vs : List APanic) : Option AFrame :=
  match fr.dr, fr.mode with
  | none, _ => some (fr.raise1 vs)
  | some _, .run => some { fr with mode := .panicking vs }
  | _, _ => none
def enterA (f : FuncId) (args : List AV) (kind : CallKind) : Option AFrame :=
  match P.funcs[f]? with
  | some fn => match fn.body with
    | some c => some { fn := f, nt := Nat.max args.length fn.ntmps, tm := T.fill .e 0 args, todo := [.code c], defers := [], mode := .run, kind, roundOf := none }
    | none => none
  | none => none
def wantedA (fr : AFrame) (ops : Array Oper) (o : Oper) : Bool :=
  match o.guard with
  | none => true
  | some (j, want) => match ops.toList[j]? with
    | some oj => match oj.dst with
      | some d => match fr.tm.get d with
        | some (.bool b) => b == want
        | _ => false
      | none => false
    | none => false
def doRet (s : S) (v : AV) (h : H) : Option S :=
  match s.cs with
  | [] => none
  | c :: cs => match s.fr.kind with
    | .normal => match c.finish v with
      | some c => some { fr := c, cs, h }
      | none => none
    | .deferred => match c.mode with
      | .panicking ({ recovered := true, .. } :: _) => some { fr := { c with mode := .returning }, cs, h }
      | _ => some { fr := c, cs, h }
    | _ => none
def endSt : Option Code → LoopState
  | none => .ready
  | some _ => .done
def leaveA (s : S) (jump : Option Code) : Option S :=
  match s.fr.roundOf with
  | none => match jump with
    | none => some { s with fr := { s.fr with mode := .returning } }
    | some .ret => some { s with fr := { s.fr with mode := .returning } }
    | _ => none
  | some l => match s.fr.kind, s.h.t.get l with
    | .normal, some (.loop r) =>
      doRet s (.bool jump.isNone) { s.h with t := s.h.t.set l (some (.loop { r with state := endSt jump, pending := jump })) }
    | _, _ => none
def setParams (nt : Nat) (tm : T AV) : List Tmp → List AV → Option (T AV)
  | [], [] => some tm
  | t :: ts, v :: vs => match Nat.blt t nt with
    | true => setParams nt (tm.set t (some v)) ts vs
    | false => none
  | _, _ => none
def recoverA (fr : AFrame) (cs : List AFrame) : Option (AV × List AFrame) :=
  match fr.kind, cs with
  | .normal, _ => some (.nilIface, cs)
  | .deferred, c :: rest => match c.mode with
    | .panicking ({ v, recovered := false } :: older) => some (v, { c with mode := .panicking ({ v, recovered := true } :: older) } :: rest)
    | _ => some (.nilIface, c :: rest)
  | _, _ => none
def applyA (K : Hook) (s : S) : R → Option S
  | .val v h => match s.fr.finish v with
    | some fr => some { s with fr, h }
    | none => none
  | .skip h => match s.fr.finish und with
    | some fr => some { s with fr, h }
    | none => none
  | .ext f args h => match K.ext f args h with
    | some (v, h) => match s.fr.finish v with
      | some fr => some { s with fr, h }
      | none => none
    | none => none
  | .enter f args h => match K.call f args h with
    | some (v, h) => match s.fr.finish v with
      | some fr => some { s with fr, h }
      | none => none
    | none => match enterA P f args .normal with
      | some fr => some { fr, cs := s.fr :: s.cs, h }
      | none => none
  | .round l args h => match h.t.get l with
    | some (.loop r) => match setParams r.nt r.tm r.params args with
      | some tm => some { fr := { fn := r.fn, nt := r.nt, tm, todo := [.code r.assign, .beginRound, .code r.body], defers := [], mode := .run, kind := .normal, roundOf := some l }, cs := s.fr :: s.cs, h }
      | none => none
    | _ => none
  | .defer d h => match s.fr.roundOf with
    | some _ => none
    | none => match { s.fr with defers := d :: s.fr.defers : AFrame }.finish und with
      | some fr => some { s with fr, h }
      | none => none
  | .recover h => match s.fr.roundOf with
    | some _ => none
    | none => match recoverA s.fr s.cs with
      | some (v, cs) => match s.fr.finish v with
        | some fr => some { fr, cs, h }
        | none => none
      | none => none
  | .panic v h => match s.fr.raise [{ v, recovered := false }] with
    | some fr => some { s with fr, h }
    | none => none
  | .fail => none
def memB (n : Nat) : List Nat → Bool
  | [] => false
  | m :: l => match Nat.beq n m with
    | true => true
    | false => memB n l
def edgesOf : List Edge → List Nat
  | [] => []
  | e :: l => match Region.binds .any e with
    | true => e.on :: edgesOf l
    | false => edgesOf l
def idxd (i : Nat) : List Oper → List (Nat × Oper)
  | [] => []
  | o :: l => (i, o) :: idxd (i + 1) l
def tmpsOf : List Operand → List Tmp
  | [] => []
  | .tmp t :: l => t :: tmpsOf l
  | _ :: l => tmpsOf l
def dstOf (ops : Array Oper) (j : Nat) : Option Tmp :=
  match ops.toList[j]? with
  | some o => o.dst
  | none => none
def slotsOf (ops : Array Oper) (o : Oper) : List Tmp :=
  match o.guard with
  | none => tmpsOf o.op.operands.toList
  | some (j, _) => match dstOf ops j with
    | some d => d :: tmpsOf o.op.operands.toList
    | none => tmpsOf o.op.operands.toList
def mini (tm : T AV) : List Tmp → T AV
  | [] => .e
  | t :: l => (mini tm l).set t (tm.get t)
def isRead : Op → Bool
  | .move _ => true
  | .pick _ _ _ => true
  | .load _ _ => true
  | .nilCheck _ => true
  | .binOp _ _ _ _ _ => true
  | .unOp _ _ _ => true
  | .makeInterface _ _ => true
  | .makeFunc _ _ _ => true
  | .slice _ _ _ _ _ => true
  | .fieldAddr _ _ _ => true
  | .field _ _ _ => true
  | .indexAddr _ _ _ => true
  | .index _ _ _ => true
  | .extract _ _ => true
  | .build _ _ => true
  | .call { callee := .builtin .len, .. } => true
  | .call { callee := .builtin .cap, .. } => true
  | .call { callee := .builtin .min, .. } => true
  | .call { callee := .builtin .max, .. } => true
  | .lookup _ _ _ _ => true
  | _ => false
mutual
def AV.same : AV → AV → Bool
  | .bool a, .bool b => a == b
  | .int k a, .int j b => IntKind.eqB k j && a == b
  | .str a, .str b => listEqB a b
  | .nilptr, .nilptr => true
  | .ptr a b, .ptr c d => Nat.beq a c && Nat.beq b d
  | .nilslice, .nilslice => true
  | .slice0, .slice0 => true
  | .slice b o l (.exact c), .slice b' o' l' (.exact c') => Nat.beq b b' && Nat.beq o o' && Nat.beq l l' && Nat.beq c c'
  | .slice b o l (.opn c), .slice b' o' l' (.opn c') => Nat.beq b b' && Nat.beq o o' && Nat.beq l l' && Nat.beq c c'
  | .nilmap, .nilmap => true
  | .map a, .map b => Nat.beq a b
  | .func f a b, .func g c d => Nat.beq f g && AV.sames a c && AV.sames b d
  | .yield a, .yield b => Nat.beq a b
  | .nilFunc, .nilFunc => true
  | .iface t x, .iface u y => Nat.beq t u && AV.same x y
  | .nilIface, .nilIface => true
  | .agg a, .agg b => AV.sames a b
  | .tuple a, .tuple b => AV.sames a b
  | _, _ => false
def AV.sames : List AV → List AV → Bool
  | [], [] => true
  | a :: l, b :: m => AV.same a b && AV.sames l m
  | _, _ => false
end
def wantedD (tm : T AV) (ops : Array Oper) (o : Oper) : Bool :=
  match o.guard with
  | none => true
  | some (j, want) => match dstOf ops j with
    | some d => match tm.get d with
      | some (.bool b) => b == want
      | _ => false
    | none => false
def execD (tm : T AV) (h : H) (ops : Array Oper) (o : Oper) : R :=
  match wantedD (mini tm (slotsOf ops o)) ops o with
  | true => execA P (mini tm (slotsOf ops o)) h o.op
  | false => .val und h
def isConv : Op → Bool
  | .convert _ _ _ => true
  | _ => false
def readVal (tm : T AV) (h : H) (ops : Array Oper) (o : Oper) : Option AV :=
  match isRead o.op with
  | true => match execD P tm h ops o with
    | .val v _ => some v
    | _ => none
  | false => match isConv o.op with
    | true => match execD P tm h ops o with
      | .val v _ => match v with
        | .int k n => some (.int k n)
        | .str s => some (.str s)
        | .tuple [] => some und
        | _ => none
      | _ => none
    | false => none
def sameRow : List AV → List AV → Bool
  | [], [] => true
  | x :: l, y :: m => AV.same x y && sameRow l m
  | _, _ => false
def T.same : T AV → T AV → Bool
  | .e, .e => true
  | .row xs, .row ys => sameRow xs ys
  | .n l v r, .n l' v' r' => match v, v' with
    | none, none => T.same l l' && T.same r r'
    | some x, some y => AV.same x y && (T.same l l' && T.same r r')
    | _, _ => false
  | _, _ => false
def fresh1 (tm : T AV) : Op → Option (TypeId × List AV)
  | .alloc t => match zeroA P t with
    | some z => some (t, z.cells)
    | none => none
  | .box t x => match evalA tm x with
    | some v => match allOne v.cells with
      | true => some (t, v.cells)
      | false => none
    | none => none
  | _ => none
def isAlloc (o : Oper) : Bool :=
  match o.guard, o.op with
  | none, .alloc _ => true
  | none, .box _ _ => true
  | _, _ => false
def isFl (o : Oper) : Bool :=
  match o.op with
  | .buildSlice _ _ _ => true
  | .makeSlice _ _ _ => true
  | _ => false
def isLay (o : Oper) : Bool := isAlloc o || isFl o
def rowS (t : TypeId) (len : Nat) (parts : List (Nat × AV)) : Option (TypeId × List AV × Nat) :=
  match P.underlying t with
  | some (.slice elem) =>
    let size := P.cellsOf elem
    match okT P elem, small (len * size), zeroA P elem with
    | true, true, some z => match Nat.beq z.cells.length size, fillA (fun i => some (i * size, size)) (repl z.cells len) parts with
      | true, some l => match allOne l with
        | true => some (elem, l, len)
        | false => none
      | _, _ => none
    | _, _, _ => none
  | _ => none
def rowM (t : TypeId) (x y : AV) : Option (TypeId × List AV × Nat) :=
  match P.underlying t, x, y with
  | some (.slice elem), .int _ (.ofNat l), .int _ (.ofNat c) => match P.info? elem, zeroA P elem, Nat.beq l c && small c with
    | some info, some z, true => match okT P elem && small info.bytes && Nat.beq z.cells.length info.size && Nat.ble 1 info.size with
      | true => some (elem, repl z.cells c, c)
      | false => none
    | _, _, _ => none
  | _, _, _ => none
def fresh2 (tm : T AV) : Op → Option (TypeId × List AV × Nat)
  | .buildSlice t len parts => match evalP tm parts.toList with
    | some l => rowS P t len l
    | none => none
  | .makeSlice t l c => match evalA tm l, evalA tm c with
    | some x, some y => rowM P t x y
    | _, _ => none
  | _ => none
def slotIs (nt : Nat) (tm : T AV) (d : Option Tmp) (v : AV) : Bool :=
  match d with
  | none => true
  | some d => match Nat.blt d nt with
    | false => false
    | true => match tm.get d with
      | some u => AV.same v u
      | none => false
def freshIs (t : TypeId) (l : List AV) (o : Option AObj) : Bool :=
  match o with
  | some (.cells n cs ⟨0, ty⟩ false) => Nat.beq n (lenL l) && (T.same cs (T.ofRow l) && Nat.beq ty (t + 1))
  | _ => false
def readOk (nt : Nat) (tm : T AV) (h : H) (ops : Array Oper) (o : Oper) (b : Nat) : Bool :=
  match isAlloc o with
  | false => match isFl o with
    | false => match readVal P tm h ops o with
      | none => false
      | some v => slotIs nt tm o.dst v
    | true => match wantedD (mini tm (slotsOf ops o)) ops o with
      | false => false
      | true => match fresh2 P (mini tm (slotsOf ops o)) o.op with
        | none => false
        | some (t, l, n) => match freshIs t l (h.t.get b) with
          | false => false
          | true => slotIs nt tm o.dst (.slice b 0 n (.exact n))
  | true => match fresh1 P (mini tm (slotsOf ops o)) o.op with
    | none => false
    | some (t, l) => match freshIs t l (h.t.get b) with
      | false => false
      | true => slotIs nt tm o.dst (.ptr b 0)
def earlyOk (nt : Nat) (tm : T AV) (h : H) (ops : Array Oper) : List (Nat × Oper × Nat) → Bool
  | [] => true
  | (_, o, b) :: l => match readOk P nt tm h ops o b with
    | true => earlyOk nt tm h ops l
    | false => false
def anyB (B : List Nat) : List Nat → Bool
  | [] => false
  | e :: l => match memB e B with
    | true => true
    | false => anyB B l
def chainB (i : Nat) (B : List Nat) : List (Nat × Oper) → Bool
  | [] => true
  | (j, o) :: l => match Nat.beq j i with
    | true => false
    | false => match anyB B (edgesOf o.after.toList) with
      | true => chainB i (j :: B) l
      | false => false
def dropF (B : List Nat) : List (Nat × Oper × Nat) → List (Nat × Oper × Nat)
  | [] => []
  | (j, o, b) :: l => match memB j B with
    | true => dropF (edgesOf o.after.toList ++ B) l
    | false => (j, o, b) :: dropF B l
def subB (B : List Nat) : List Nat → Bool
  | [] => true
  | e :: l => match memB e B with
    | true => subB B l
    | false => false
def lvOk (lv : Nat) (o : Oper) : Bool :=
  match lv with
  | 0 => isRead o.op || isAlloc o
  | 1 => isConv o.op || isFl o
  | _ => true
def pickR (lv : Nat) (done : List Nat) : List (Nat × Oper) → Option (Nat × Oper)
  | [] => none
  | (i, o) :: l => match lvOk lv o && !memB i done && subB done (edgesOf o.after.toList) with
    | true => some (i, o)
    | false => pickR lv done l
def asap (all : List (Nat × Oper)) : Nat → List Nat → List (Nat × Oper)
  | 0, _ => []
  | n + 1, done => match pickR 0 done all with
    | some (i, o) => (i, o) :: asap all n (i :: done)
    | none => match pickR 1 done all with
      | some (i, o) => (i, o) :: asap all n (i :: done)
      | none => match pickR 2 done all with
        | some (i, o) => (i, o) :: asap all n (i :: done)
        | none => []
def topoB (done : List Nat) : List (Nat × Oper) → Bool
  | [] => true
  | (i, o) :: l => match !memB i done && subB done (edgesOf o.after.toList) with
    | true => topoB (i :: done) l
    | false => false
def soon (o : Oper) : Bool := isRead o.op || isAlloc o || isConv o.op || isFl o
def slotB (t : Tmp) (k : Nat) (es : List Nat) : List (Nat × Oper) → Bool
  | [] => true
  | (j, o) :: l => match o.dst with
    | none => slotB t k es l
    | some d => match Nat.beq d t with
      | false => slotB t k es l
      | true => match Nat.beq j k with
        | true => false
        | false => match memB j es || !soon o && memB k (edgesOf o.after.toList) with
          | true => slotB t k es l
          | false => false
def slotsB (k : Nat) (es : List Nat) (all : List (Nat × Oper)) : List Tmp → Bool
  | [] => true
  | t :: l => match slotB t k es all with
    | true => slotsB k es all l
    | false => false
def statB (ops : Array Oper) (all : List (Nat × Oper)) : List (Nat × Oper) → Bool
  | [] => true
  | (k, o) :: l => match slotsB k (edgesOf o.after.toList) all (slotsOf ops o) with
    | true => statB ops all l
    | false => false
def drawA (ops : Array Oper) : Option Draw :=
  let all := idxd 0 ops.toList
  let rem := asap all ops.toList.length []
  match topoB [] rem && subB (rem.map Prod.fst) (all.map Prod.fst) && statB ops all all with
  | true => some { ops, rem, early := [], wait := false }
  | false => none
def evalRes (tm : T AV) (h : H) : List ResultVar → Option (List AV)
  | [] => some []
  | .tmp t :: l => match evalRes tm h l with
    | some vs => some ((tm.get t).getD und :: vs)
    | none => none
  | .cell a t :: l => match okT P t, tm.get a with
    | true, some (.ptr b o) => match loadV P h t b o, evalRes tm h l with
      | some v, some vs => some (v :: vs)
      | _, _ => none
    | _, _ => none
def resA (fn : Func) (tm : T AV) (h : H) : Option AV :=
  match evalRes P tm h fn.results.toList with
  | some [v] => some v
  | some vs => some (.tuple vs)
  | none => none
def unwindA (s : S) : Option S :=
  match s.fr.defers with
  | .collected r :: ds => match s.h.t.get r with
    | some (.deferred (some calls)) => some { s with fr := { s.fr with defers := calls ++ ds }, h := { s.h with t := s.h.t.set r (some (.deferred none)) } }
    | _ => none
  | .call f args captured :: ds => match enterOk P f with
    | true => match enterA P f (args ++ captured) .deferred with
      | some fr => some { fr, cs := { s.fr with defers := ds } :: s.cs, h := s.h }
      | none => none
    | false => none
  | [] => match s.fr.mode with
    | .run => none
    | .panicking chain => match s.cs, P.funcs[s.fr.fn]? with
      | c :: cs, some _ => match c.raise chain with
        | some fr => some { fr, cs, h := s.h }
        | none => none
      | _, _ => none
    | .returning => match P.funcs[s.fr.fn]? with
      | some fn => match resA P fn s.fr.tm s.h with
        | some v => doRet s v s.h
        | none => none
      | none => none
def enterLoopA (s : S) (f : Operand) (params : Array Tmp) (assign body : Code) (k : List AItem) : Option S :=
  match evalA s.fr.tm f with
  | some f =>
    let mk (defers : Nat) : AObj := .loop { state := .ready, pending := none, fn := s.fr.fn, nt := s.fr.nt, tm := s.fr.tm, params := params.toList, assign, body, defers }
    let go (mark : List ADef) (l : Nat) (h : H) : Option S :=
      match callV P f [.yield l] h with
      | .enter g args h => match enterA P g args .normal with
        | some fr => some { fr, cs := { s.fr with todo := .inRangeFunc l :: k, defers := mark ++ s.fr.defers } :: s.cs, h }
        | none => none
      | _ => none
    match s.fr.roundOf with
    | some l => match s.h.t.get l with
      | some (.loop r) => go [] s.h.nx (s.h.alloc (mk r.defers))
      | _ => none
    | none =>
      let h := s.h.alloc (.deferred (some []))
      go [.collected s.h.nx] h.nx (h.alloc (mk s.h.nx))
  | none => none
def to (s : S) (todo : List AItem) : Option S := some { s with fr := { s.fr with todo } }
def applyD (K : Hook) (s : S) (d : Draw) (i : Nat) (o : Oper) (rem : List (Nat × Oper)) : R → Option S :=
  fun r =>
  let early := dropF (edgesOf o.after.toList) d.early
  match r with
  | .val v h => match dstOk s.fr.nt o.dst with
    | true => some { s with fr := { s.fr with tm := s.fr.putD o.dst v, dr := some { d with rem, early } }, h }
    | false => none
  | .skip h => match dstOk s.fr.nt o.dst with
    | true => some { s with fr := { s.fr with tm := s.fr.putD o.dst und, dr := some { d with rem, early } }, h }
    | false => none
  | .ext f args h => match K.ext f args h with
    | some (v, h) => match dstOk s.fr.nt o.dst with
      | true => some { s with fr := { s.fr with tm := s.fr.putD o.dst v, dr := some { d with rem, early } }, h }
      | false => none
    | none => none
  | .enter f args h => match K.call f args h with
    | some (v, h) => match dstOk s.fr.nt o.dst with
      | true => some { s with fr := { s.fr with tm := s.fr.putD o.dst v, dr := some { d with rem, early } }, h }
      | false => none
    | none => match enterA P f args .normal with
      | some fr => some { fr, cs := { s.fr with dr := some { d with rem := (i, o) :: rem, early, wait := true } } :: s.cs, h }
      | none => none
  | .round l args h => match h.t.get l with
    | some (.loop r) => match setParams r.nt r.tm r.params args with
      | some tm => some { fr := { fn := r.fn, nt := r.nt, tm, todo := [.code r.assign, .beginRound, .code r.body], defers := [], mode := .run, kind := .normal, roundOf := some l }, cs := { s.fr with dr := some { d with rem := (i, o) :: rem, early, wait := true } } :: s.cs, h }
      | none => none
    | _ => none
  | _ => none
def stepD (K : Hook) (s : S) (d : Draw) : Option S :=
  match d.wait with
  | true => none
  | false => match d.rem with
    | [] => match earlyOk P s.fr.nt s.fr.tm s.h d.ops d.early with
      | true => some { s with fr := { s.fr with dr := none } }
      | false => none
    | (i, o) :: rem => match isAlloc o with
      | true => match fresh1 P (mini s.fr.tm (slotsOf d.ops o)) o.op with
        | some (t, l) => some { s with fr := { s.fr with tm := s.fr.putD o.dst (.ptr s.h.nx 0), dr := some { d with rem, early := (i, o, s.h.nx) :: d.early } }, h := s.h.newCells t l }
        | none => none
      | false => match readVal P s.fr.tm s.h d.ops o with
        | some v => some { s with fr := { s.fr with tm := s.fr.putD o.dst v, dr := some { d with rem, early := (i, o, 0) :: d.early } } }
        | none => match isRead o.op with
          | true => none
          | false => match isFl o && !chainB i [i] rem with
            | true => match wantedD (mini s.fr.tm (slotsOf d.ops o)) d.ops o with
              | true => match fresh2 P (mini s.fr.tm (slotsOf d.ops o)) o.op with
                | some (t, l, n) => some { s with fr := { s.fr with tm := s.fr.putD o.dst (.slice s.h.nx 0 n (.exact n)), dr := some { d with rem, early := (i, o, s.h.nx) :: d.early } }, h := s.h.newCells t l }
                | none => none
              | false => none
            | false => match chainB i [i] rem, earlyOk P s.fr.nt s.fr.tm s.h d.ops d.early with
              | true, true => applyD P K s d i o rem (execD P s.fr.tm s.h d.ops o)
              | _, _ => none
def fallD (s : S) (chain : List APanic) : Option S :=
  match s.fr.defers, s.cs, P.funcs[s.fr.fn]? with
  | [], c :: cs, some _ => match c.raise chain with
    | some fr => some { fr, cs, h := s.h }
    | none => none
  | _, _, _ => none
def step1 (K : Hook) (s : S) : Option S :=
  match s.fr.mode with
  | .run => match s.fr.todo with
    | [] => leaveA s none
    | .ops ops l :: k => match l with
      | [] => to s k
      | o :: _ => match wantedA s.fr ops o with
        | true => applyA P K s (execA P s.fr.tm s.h o.op)
        | false => match s.fr.finish und with
          | some fr => some { s with fr }
          | none => none
    | .code c :: k => match c with
      | .skip => to s k
      | .label _ => to s k
      | .seq a b => to s (.code a :: .code b :: k)
      | .region _ ops draw => match draw with
        | false => to s (.ops ops ops.toList :: k)
        | true => match P.follows .mixedOrders, drawA ops with
          | true, some d => some { s with fr := { s.fr with todo := k, dr := some d } }
          | _, _ => none
      | .cond c a b => match evalA s.fr.tm c with
        | some (.bool true) => to s (.code a :: k)
        | some (.bool false) => to s (.code b :: k)
        | _ => none
      | .block id c => to s (.code c :: .inBlock id :: k)
      | .loop c => to s (.code c :: .inLoop c :: k)
      | .scope c => to s (.code c :: .inScope c :: k)
      | .exit id => match aExitTo id k with
        | some k => to s k
        | none => leaveA s (some (.exit id))
      | .goto l => match aGotoIn l k with
        | some k => to s k
        | none => leaveA s (some (.goto l))
      | .ret => leaveA s (some .ret)
      | .rangeFunc f params assign body => enterLoopA P s f params assign body k
      | .refuse _ => none
    | .inBlock _ :: k => to s k
    | .inScope _ :: k => to s k
    | .inLoop c :: k => to s (.code c :: .inLoop c :: k)
    | .inRangeFunc _ :: _ => none
    | .beginRound :: k => match s.fr.roundOf with
      | some l => match s.h.t.get l with
        | some (.loop r) => match r.state with
          | .ready => some { s with fr := { s.fr with todo := k }, h := { s.h with t := s.h.t.set l (some (.loop { r with state := .busy })) } }
          | _ => none
        | _ => none
      | none => none
    | .endRangeFunc l :: k => match s.h.t.get l with
      | some (.loop r) => match r.state with
        | .busy => none
        | _ =>
          let h := { s.h with t := s.h.t.set l (some (.loop { r with state := .exhausted })) }
          match r.pending with
          | some c => some { s with fr := { s.fr with todo := .code c :: k }, h }
          | none => some { s with fr := { s.fr with todo := k }, h }
      | _ => none
  | _ => unwindA P s
def stepA (K : Hook) (s : S) : Option S :=
  match s.fr.dr with
  | none => step1 P K s
  | some d => match s.fr.mode with
    | .run => stepD P K s d
    | .panicking chain => fallD P s chain
    | .returning => none
def doneA (s : S) : Option AV :=
  match s.fr.dr, s.fr.mode, s.fr.defers, s.cs with
  | none, .returning, [], [] => match P.funcs[s.fr.fn]? with
    | some fn => resA P fn s.fr.tm s.h
    | none => none
  | _, _, _, _ => none
def runA (K : Hook) (f : FuncId) : Nat → S → Option (AV × H)
  | 0, _ => none
  | n + 1, s => match s.fr.mode, s.fr.defers, s.cs with
    | .returning, [], [] => match Nat.beq s.fr.fn f, s.fr.kind, doneA P s with
      | true, .normal, some v => some (v, s.h)
      | _, _, _ => none
    | _, _, _ => match stepA P K s with
      | some s => runA K f n s
      | none => none
def callA (K : Hook) (n : Nat) (f : FuncId) (args : List AV) (h : H) : Option (AV × H) :=
  match enterA P f args .normal with
  | some fr => runA P K f n { fr, cs := [], h }
  | none => none
end
end
end Go.AX

namespace Go.AX
theorem forceN_eq {α : Type} (n : Nat) (k : Nat → α) : forceN n k = k n := by cases n <;> rfl
theorem lenL_aux {α : Type} : ∀ (l : List α) (n : Nat), List.rec (motive := fun _ => Nat → Nat) (fun n => n) (fun _ _ ih n => forceN (n + 1) ih) l n = l.length + n
  | [], n => by simp
  | _ :: l, n => by
    show forceN (n + 1) _ = _
    rw [forceN_eq, lenL_aux l]
    simp only [List.length_cons]; omega
@[simp] theorem lenL_eq {α : Type} (l : List α) : lenL l = l.length := lenL_aux l 0
theorem nthL_eq {α : Type} : ∀ (l : List α) (k : Nat), nthL l k = l[k]?
  | [], k => by simp [nthL]
  | x :: l, 0 => rfl
  | x :: l, k + 1 => by
    show nthL l k = _
    rw [nthL_eq l k]; simp
theorem altL_cons_t {α : Type} (x : α) (l : List α) : altL (x :: l) true = x :: altL l false := rfl
theorem altL_cons_f {α : Type} (x : α) (l : List α) : altL (x :: l) false = altL l true := rfl
theorem altL_get {α : Type} : ∀ (l : List α) (k : Nat), (altL l true)[k]? = l[2 * k]? ∧ (altL l false)[k]? = l[2 * k + 1]?
  | [], k => by simp [altL]
  | x :: l, k => by
    refine ⟨?_, ?_⟩
    · rw [altL_cons_t]
      cases k with
      | zero => rfl
      | succ k => rw [List.getElem?_cons_succ, (altL_get l k).2, show 2 * (k + 1) = (2 * k + 1) + 1 by omega, List.getElem?_cons_succ]
    · rw [altL_cons_f, (altL_get l k).1, List.getElem?_cons_succ]
@[simp] theorem T.get_e' {α : Type} (k : Nat) : (T.e : T α).get k = none := rfl
@[simp] theorem T.get_row {α : Type} (l : List α) (k : Nat) : (T.row l).get k = l[k]? := nthL_eq l k
@[simp] theorem T.get_n0 {α : Type} (l : T α) (v : Option α) (r : T α) : (T.n l v r).get 0 = v := rfl
@[simp] theorem T.get_n {α : Type} (l : T α) (v : Option α) (r : T α) (k : Nat) : (T.n l v r).get (k + 1) = match Nat.beq (k % 2) 0 with
      | true => l.get (k / 2)
      | false => r.get (k / 2) := by
  show Bool.rec (motive := fun _ => Option α) _ _ (Nat.beq (k % 2) 0) = _
  cases Nat.beq (k % 2) 0 <;> rfl
theorem T.get_opened {α : Type} (t : T α) (k : Nat) : t.opened.get k = t.get k := by
  cases t with
  | e => rfl
  | n l v r => rfl
  | row xs =>
    cases xs with
    | nil => simp [T.opened]
    | cons x xs =>
      show (T.n (.row (altL xs true)) (some x) (.row (altL xs false))).get k = _
      cases k with
      | zero => simp
      | succ k =>
        rw [T.get_n, T.get_row (x :: xs), List.getElem?_cons_succ]
        cases hk : Nat.beq (k % 2) 0 with
        | true => have := Nat.eq_of_beq_eq_true hk; simp only [T.get_row]; rw [(altL_get xs _).1]; congr 1; omega
        | false => have := Nat.ne_of_beq_eq_false hk; simp only [T.get_row]; rw [(altL_get xs _).2]; congr 1; omega
theorem T.opened_cases {α : Type} (t : T α) : t.opened = .e ∨ ∃ l v r, t.opened = .n l v r := by
  cases t with
  | e => exact .inl rfl
  | n l v r => exact .inr ⟨_, _, _, rfl⟩
  | row xs =>
    cases xs with
    | nil => exact .inl rfl
    | cons x xs => exact .inr ⟨_, _, _, rfl⟩
theorem T.setF_opened {α : Type} (f : Nat) (t : T α) (k : Nat) (x : Option α) : T.setF (f + 1) t k x = T.setF (f + 1) t.opened k x := by
  have e : t.opened.opened = t.opened := by
    cases t with
    | e => rfl
    | n l v r => rfl
    | row xs => cases xs <;> rfl
  unfold T.setF
  show Nat.casesOn (motive := fun _ => T α) k _ _ = Nat.casesOn (motive := fun _ => T α) k _ _
  rw [e]
theorem T.setF_e0 {α : Type} (f : Nat) (x : Option α) : T.setF (f + 1) .e 0 x = .n .e x .e := rfl
theorem T.setF_n0 {α : Type} (f : Nat) (l : T α) (v : Option α) (r : T α) (x : Option α) : T.setF (f + 1) (.n l v r) 0 x = .n l x r := rfl
theorem T.setF_e {α : Type} (f k : Nat) (x : Option α) : T.setF (f + 1) .e (k + 1) x = match Nat.beq (k % 2) 0 with
      | true => .n (setF f .e (k / 2) x) none .e
      | false => .n .e none (setF f .e (k / 2) x) := by
  show Bool.rec (motive := fun _ => T α) _ _ (Nat.beq (k % 2) 0) = _
  cases Nat.beq (k % 2) 0 <;> rfl
theorem T.setF_n {α : Type} (f k : Nat) (l : T α) (v : Option α) (r : T α) (x : Option α) : T.setF (f + 1) (.n l v r) (k + 1) x = match Nat.beq (k % 2) 0 with
      | true => .n (setF f l (k / 2) x) v r
      | false => .n l v (setF f r (k / 2) x) := by
  show Bool.rec (motive := fun _ => T α) _ _ (Nat.beq (k % 2) 0) = _
  cases Nat.beq (k % 2) 0 <;> rfl
theorem T.get_setF {α : Type} : ∀ (f : Nat) (t : T α) (k k' : Nat) (x : Option α), k < f →
    (T.setF f t k x).get k' = if k' = k then x else t.get k'
  | 0, _, _, _, _, h => absurd h (Nat.not_lt_zero _)
  | f + 1, t, k, k', x, h => by
    rw [T.setF_opened, ← T.get_opened t k']
    rcases T.opened_cases t with e | ⟨l, v, r, e⟩
    · rw [e]
      cases k with
      | zero =>
        cases k' with
        | zero => simp [T.setF_e0]
        | succ k' => simp only [T.setF_e0, T.get_n]; cases Nat.beq (k' % 2) 0 <;> simp
      | succ k =>
        have ih := fun j => T.get_setF f (.e : T α) (k / 2) j x (by omega)
        cases k' with
        | zero => simp only [T.setF_e]; cases Nat.beq (k % 2) 0 <;> simp
        | succ k' =>
          simp only [T.setF_e]
          cases hk : Nat.beq (k % 2) 0 <;> cases hk' : Nat.beq (k' % 2) 0 <;> simp only [T.get_n, T.get_e', hk', ih] <;>
            (try (have := Nat.eq_of_beq_eq_true hk)) <;> (try (have := Nat.eq_of_beq_eq_true hk')) <;>
            (try (have := Nat.ne_of_beq_eq_false hk)) <;> (try (have := Nat.ne_of_beq_eq_false hk')) <;>
            (repeat' split) <;> first | rfl | omega | (exfalso; omega) | simp_all
    · rw [e]
      cases k with
      | zero =>
        cases k' with
        | zero => simp [T.setF_n0]
        | succ k' => simp only [T.setF_n0, T.get_n]; simp
      | succ k =>
        have ihl := fun j => T.get_setF f l (k / 2) j x (by omega)
        have ihr := fun j => T.get_setF f r (k / 2) j x (by omega)
        cases k' with
        | zero => simp only [T.setF_n]; cases Nat.beq (k % 2) 0 <;> simp
        | succ k' =>
          simp only [T.setF_n]
          cases hk : Nat.beq (k % 2) 0 <;> cases hk' : Nat.beq (k' % 2) 0 <;> simp only [T.get_n, hk', ihl, ihr] <;>
            (try (have := Nat.eq_of_beq_eq_true hk)) <;> (try (have := Nat.eq_of_beq_eq_true hk')) <;>
            (try (have := Nat.ne_of_beq_eq_false hk)) <;> (try (have := Nat.ne_of_beq_eq_false hk')) <;>
            (repeat' split) <;> first | rfl | omega | (exfalso; omega) | simp_all
theorem T.get_set {α : Type} (t : T α) (k k' : Nat) (x : Option α) : (t.set k x).get k' = if k' = k then x else t.get k' :=
  T.get_setF (k + 1) t k k' x (Nat.lt_succ_self k)
@[simp] theorem T.get_e {α : Type} (k : Nat) : (T.e : T α).get k = none := rfl
theorem T.get_fill {α : Type} : ∀ (l : List α) (t : T α) (k j : Nat),
    (t.fill k l).get j = if k ≤ j ∧ j < k + l.length then l[j - k]? else t.get j
  | [], t, k, j => by simp only [T.fill, List.length_nil]; rw [if_neg (by omega)]
  | x :: l, t, k, j => by
    simp only [T.fill, T.get_fill l, T.get_set, List.length_cons]
    by_cases h : j = k
    · subst h; rw [if_neg (by omega), if_pos rfl, if_pos (by omega)]; simp
    · by_cases h2 : k + 1 ≤ j ∧ j < k + 1 + l.length
      · rw [if_pos h2, if_pos (by omega), show j - k = (j - (k + 1)) + 1 by omega]; simp
      · rw [if_neg h2, if_neg h, if_neg (by omega)]
theorem T.get_fill0 {α : Type} (l : List α) (j : Nat) : (T.fill .e 0 l).get j = l[j]? := by
  rw [T.get_fill]
  split
  · simp
  · rename_i h; rw [T.get_e, List.getElem?_eq_none (by omega)]
theorem T.get_ofRow {α : Type} (l : List α) (j : Nat) : (T.ofRow l).get j = l[j]? := by
  unfold T.ofRow
  split
  · exact T.get_row l j
  · exact T.get_fill0 l j
theorem loadCells_row : ∀ (k o : Nat) (xs : List AV), H.loadCells (.row xs) o k = match lenGe k (xs.drop o) with
    | true => some ((xs.drop o).take k)
    | false => none
  | 0, o, xs => rfl
  | k + 1, o, xs => by
    simp only [H.loadCells, T.get_row, loadCells_row k (o + 1) xs]
    cases h : xs.drop o with
    | nil =>
      have : xs[o]? = none := by have := congrArg (·[0]?) h; simpa using this
      rw [this]; rfl
    | cons y ys =>
      have h1 : xs[o]? = some y := by have := congrArg (·[0]?) h; simpa using this
      have h2 : xs.drop (o + 1) = ys := by rw [← List.drop_drop, h]; rfl
      rw [h1, h2]
      show _ = match lenGe k ys with | true => _ | false => _
      cases lenGe k ys <;> rfl
@[simp] theorem loadRow_eq (cs : T AV) (o k : Nat) : H.loadRow cs o k = H.loadCells cs o k := by
  unfold H.loadRow
  split
  · exact (loadCells_row _ _ _).symm
  · rfl
def bytesA0 : List AV → Option (List Nat)
  | [] => some []
  | .int .u8 (.ofNat n) :: l => match bytesA0 l with
    | some s => some (n % 256 :: s)
    | none => none
  | _ => none
theorem bytesA0_no (x : AV) (l : List AV) (h : isByte x = false) : bytesA0 (x :: l) = none := by
  unfold bytesA0
  split
  · rename_i e; cases e
  · rename_i e; cases e; cases h
  · rfl
theorem bytesA_eq : ∀ l : List AV, bytesA l = bytesA0 l
  | [] => rfl
  | x :: l => by
    have ih := bytesA_eq l
    unfold bytesA at ih ⊢
    have e : allByte (x :: l) = match isByte x with | true => allByte l | false => false := rfl
    rw [e]
    cases hx : isByte x with
    | false => rw [bytesA0_no x l hx]
    | true =>
      simp only
      unfold isByte at hx
      split at hx
      · rename_i n
        simp only [bytesA0]
        rw [← ih]
        cases allByte l <;> rfl
      · cases hx
def All2 {α β : Type} (R : α → β → Prop) : List α → List β → Prop
  | [], [] => True
  | a :: l, b :: l' => R a b ∧ All2 R l l'
  | [], _ :: _ => False
  | _ :: _, [] => False
section
variable {α β : Type} {R : α → β → Prop}
@[simp] theorem All2.nil : All2 R [] [] := trivial
@[simp] theorem All2.cons_iff {a : α} {b : β} {l : List α} {l' : List β} : All2 R (a :: l) (b :: l') ↔ R a b ∧ All2 R l l' := Iff.rfl
theorem All2.nil_left {l' : List β} : All2 R [] l' ↔ l' = [] := by cases l' <;> simp [All2]
theorem All2.cons_left {a : α} {l : List α} {l' : List β} : All2 R (a :: l) l' ↔ ∃ b r, l' = b :: r ∧ R a b ∧ All2 R l r := by
  cases l' with
  | nil => simp [All2]
  | cons b r => simp only [All2.cons_iff, List.cons.injEq]; exact ⟨fun h => ⟨b, r, ⟨rfl, rfl⟩, h⟩, fun ⟨_, _, ⟨h1, h2⟩, h⟩ => by subst h1; subst h2; exact h⟩
theorem All2.length : ∀ {l : List α} {l' : List β}, All2 R l l' → l.length = l'.length
  | [], [], _ => rfl
  | _ :: _, _ :: _, h => by simp [All2.length h.2]
  | [], _ :: _, h => h.elim
  | _ :: _, [], h => h.elim
theorem All2.mono {R' : α → β → Prop} (hr : ∀ a b, R a b → R' a b) : ∀ {l : List α} {l' : List β}, All2 R l l' → All2 R' l l'
  | [], [], _ => trivial
  | _ :: _, _ :: _, h => ⟨hr _ _ h.1, All2.mono hr h.2⟩
  | [], _ :: _, h => h.elim
  | _ :: _, [], h => h.elim
theorem All2.append : ∀ {l : List α} {l' : List β} {r : List α} {r' : List β}, All2 R l l' → All2 R r r' → All2 R (l ++ r) (l' ++ r')
  | [], [], _, _, _, h => h
  | _ :: _, _ :: _, _, _, h, h' => ⟨h.1, All2.append h.2 h'⟩
  | [], _ :: _, _, _, h, _ => h.elim
  | _ :: _, [], _, _, h, _ => h.elim
theorem All2.get : ∀ {l : List α} {l' : List β}, All2 R l l' → ∀ {i : Nat} {a : α}, l[i]? = some a → ∃ b, l'[i]? = some b ∧ R a b
  | [], [], _, _, _, h => by simp at h
  | _ :: _, b :: _, h, 0, _, hi => by simp at hi; subst hi; exact ⟨b, rfl, h.1⟩
  | _ :: _, _ :: _, h, i + 1, _, hi => by simp at hi; simpa using All2.get h.2 hi
  | [], _ :: _, h, _, _, _ => h.elim
  | _ :: _, [], h, _, _, _ => h.elim
theorem All2.get' : ∀ {l : List α} {l' : List β}, All2 R l l' → ∀ {i : Nat} {b : β}, l'[i]? = some b → ∃ a, l[i]? = some a ∧ R a b
  | [], [], _, _, _, h => by simp at h
  | a :: _, _ :: _, h, 0, _, hi => by simp at hi; subst hi; exact ⟨a, rfl, h.1⟩
  | _ :: _, _ :: _, h, i + 1, _, hi => by simp at hi; simpa using All2.get' h.2 hi
  | [], _ :: _, h, _, _, _ => h.elim
  | _ :: _, [], h, _, _, _ => h.elim
theorem All2.of_get : ∀ {l : List α} {l' : List β}, l.length = l'.length → (∀ (i : Nat) (a : α) (b : β), l[i]? = some a → l'[i]? = some b → R a b) → All2 R l l'
  | [], [], _, _ => trivial
  | a :: l, b :: l', h, hr => ⟨hr 0 a b rfl rfl, All2.of_get (by simpa using h) (fun i x y hx hy => hr (i + 1) x y (by simpa using hx) (by simpa using hy))⟩
  | [], _ :: _, h, _ => by simp at h
  | _ :: _, [], h, _ => by simp at h
theorem All2.take {l : List α} {l' : List β} (h : All2 R l l') (n : Nat) : All2 R (l.take n) (l'.take n) := by
  induction n generalizing l l' with
  | zero => simp
  | succ n ih => cases l <;> cases l' <;> simp_all [All2]
theorem All2.drop {l : List α} {l' : List β} (h : All2 R l l') (n : Nat) : All2 R (l.drop n) (l'.drop n) := by
  induction n generalizing l l' with
  | zero => simpa using h
  | succ n ih => cases l <;> cases l' <;> simp_all [All2]
theorem All2.map_left {γ : Type} {f : γ → α} : ∀ {l : List γ} {l' : List β}, All2 R (l.map f) l' ↔ All2 (fun c b => R (f c) b) l l'
  | [], [] => by simp
  | _ :: _, _ :: _ => by simp [All2.map_left]
  | [], _ :: _ => by simp [All2]
  | _ :: _, [] => by simp [All2]
theorem All2.map_right {γ : Type} {f : γ → β} : ∀ {l : List α} {l' : List γ}, All2 R l (l'.map f) ↔ All2 (fun a c => R a (f c)) l l'
  | [], [] => by simp
  | _ :: _, _ :: _ => by simp [All2.map_right]
  | [], _ :: _ => by simp [All2]
  | _ :: _, [] => by simp [All2]
theorem All2.same {R : α → α → Prop} (h : ∀ a, R a a) : ∀ l : List α, All2 R l l
  | [] => trivial
  | a :: l => ⟨h a, All2.same h l⟩
end
end Go.AX

namespace Go.AX
open Go.RowKit
structure NN where
  n : Nat
  res : Nat → Option (Nat × Nat)
instance : Coe NN Nat := ⟨NN.n⟩
structure Loc where
  B : Nat
  base : Nat
  K : Nat
abbrev Phi := Nat → Option Loc
def Phi.le (φ ψ : Phi) : Prop := ∀ b L, φ b = some L → ψ b = some L
def Phi.ins (φ : Phi) (b : Nat) (L : Loc) : Phi := fun x => if x = b then some L else φ x
theorem Phi.le_refl (φ : Phi) : φ.le φ := fun _ _ h => h
theorem Phi.le_trans {a b c : Phi} (h : a.le b) (k : b.le c) : a.le c := fun x L hx => k x L (h x L hx)
theorem Phi.le_ins {φ : Phi} {b : Nat} (L : Loc) (h : φ b = none) : φ.le (φ.ins b L) := fun x M hx => by
  unfold Phi.ins; split
  · rename_i e; subst e; rw [h] at hx; cases hx
  · exact hx
theorem Phi.ins_same (φ : Phi) (b : Nat) (L : Loc) : φ.ins b L b = some L := by simp [Phi.ins]
theorem Phi.ins_other (φ : Phi) {b x : Nat} (L : Loc) (h : x ≠ b) : φ.ins b L x = φ x := by simp [Phi.ins, h]
mutual
def VR (φ : Phi) : AV → Value → Prop
  | .bool b, v => v = .bool b
  | .int k n, v => v = .int k n
  | .str s, v => ∃ b, v = .string b ∧ bytesOf b = s
  | .nilptr, v => v = .pointer none
  | .ptr b o, v => ∃ L, φ b = some L ∧ v = .pointer (some ⟨L.B, L.base + o, none⟩)
  | .nilslice, v => v = .slice none 0 0
  | .slice0, v => ∃ a c, v = .slice (some a) 0 c
  | .slice b o len (.exact c), v => ∃ L, φ b = some L ∧ v = .slice (some ⟨L.B, L.base + o, none⟩) len c
  | .slice b o len (.opn i), v => ∃ L, φ b = some L ∧ v = .slice (some ⟨L.B, L.base + o, none⟩) len (L.K - i) ∧ i + len ≤ L.K
  | .nilmap, v => v = .map none
  | .map b, v => ∃ L, φ b = some L ∧ v = .map (some L.B)
  | .func f first cap, v => ∃ a b, v = .func (.func f) a b ∧ VRs φ first a.toList ∧ VRs φ cap b.toList
  | .yield l, v => ∃ L, φ l = some L ∧ v = .func (.yield L.B) #[] #[]
  | .nilFunc, v => v = .nilFunc
  | .iface t x, v => ∃ y, v = .iface t y ∧ VR φ x y
  | .nilIface, v => v = .nilIface
  | .agg cs, v => ∃ a, v = .agg a ∧ VRs φ cs a.toList
  | .tuple vs, v => ∃ a, v = .tuple a ∧ VRs φ vs a.toList
def VRs (φ : Phi) : List AV → List Value → Prop
  | [], [] => True
  | x :: xs, y :: ys => VR φ x y ∧ VRs φ xs ys
  | [], _ :: _ => False
  | _ :: _, [] => False
end
theorem VRs_iff (φ : Phi) : ∀ (l : List AV) (l' : List Value), VRs φ l l' ↔ All2 (VR φ) l l'
  | [], [] => by simp [VRs]
  | x :: xs, y :: ys => by simp [VRs, VRs_iff φ xs ys]
  | [], _ :: _ => by simp [VRs, All2]
  | _ :: _, [] => by simp [VRs, All2]
mutual
theorem VR.mono {φ ψ : Phi} (h : φ.le ψ) : ∀ (a : AV) (v : Value), VR φ a v → VR ψ a v
  | .bool _, _, hv => by simpa [VR] using hv
  | .int _ _, _, hv => by simpa [VR] using hv
  | .str _, _, hv => by simpa [VR] using hv
  | .nilptr, _, hv => by simpa [VR] using hv
  | .ptr b o, _, hv => by
    simp only [VR] at hv ⊢; obtain ⟨L, h1, h2⟩ := hv; exact ⟨L, h _ _ h1, h2⟩
  | .nilslice, _, hv => by simpa [VR] using hv
  | .slice0, _, hv => by simpa [VR] using hv
  | .slice b o len (.exact c), _, hv => by
    simp only [VR] at hv ⊢; obtain ⟨L, h1, h2⟩ := hv; exact ⟨L, h _ _ h1, h2⟩
  | .slice b o len (.opn i), _, hv => by
    simp only [VR] at hv ⊢; obtain ⟨L, h1, h2⟩ := hv; exact ⟨L, h _ _ h1, h2⟩
  | .nilmap, _, hv => by simpa [VR] using hv
  | .map b, _, hv => by
    simp only [VR] at hv ⊢; obtain ⟨L, h1, h2⟩ := hv; exact ⟨L, h _ _ h1, h2⟩
  | .func f first cap, _, hv => by
    simp only [VR] at hv ⊢; obtain ⟨a, b, h1, h2, h3⟩ := hv; exact ⟨a, b, h1, VRs.mono h first _ h2, VRs.mono h cap _ h3⟩
  | .yield l, _, hv => by
    simp only [VR] at hv ⊢; obtain ⟨L, h1, h2⟩ := hv; exact ⟨L, h _ _ h1, h2⟩
  | .nilFunc, _, hv => by simpa [VR] using hv
  | .iface t x, _, hv => by
    simp only [VR] at hv ⊢; obtain ⟨y, h1, h2⟩ := hv; exact ⟨y, h1, VR.mono h x _ h2⟩
  | .nilIface, _, hv => by simpa [VR] using hv
  | .agg cs, _, hv => by
    simp only [VR] at hv ⊢; obtain ⟨a, h1, h2⟩ := hv; exact ⟨a, h1, VRs.mono h cs _ h2⟩
  | .tuple cs, _, hv => by
    simp only [VR] at hv ⊢; obtain ⟨a, h1, h2⟩ := hv; exact ⟨a, h1, VRs.mono h cs _ h2⟩
theorem VRs.mono {φ ψ : Phi} (h : φ.le ψ) : ∀ (l : List AV) (l' : List Value), VRs φ l l' → VRs ψ l l'
  | [], [], _ => by simp [VRs]
  | x :: xs, y :: ys, hv => by
    simp only [VRs] at hv ⊢; exact ⟨VR.mono h x y hv.1, VRs.mono h xs ys hv.2⟩
  | [], _ :: _, hv => by simp [VRs] at hv
  | _ :: _, [], hv => by simp [VRs] at hv
end
section
variable {φ : Phi}
theorem VR.le {ψ : Phi} {a : AV} {v : Value} (hv : VR φ a v) (h : φ.le ψ) : VR ψ a v := VR.mono h a v hv
theorem VRs.le {ψ : Phi} {l : List AV} {l' : List Value} (hv : All2 (VR φ) l l') (h : φ.le ψ) : All2 (VR ψ) l l' := hv.mono fun a v => VR.mono h a v
@[simp] theorem VR_bool {b : Bool} {v : Value} : VR φ (.bool b) v ↔ v = .bool b := by simp [VR]
@[simp] theorem VR_int {k : IntKind} {n : Int} {v : Value} : VR φ (.int k n) v ↔ v = .int k n := by simp [VR]
@[simp] theorem VR_str {s : List Nat} {v : Value} : VR φ (.str s) v ↔ ∃ b, v = .string b ∧ bytesOf b = s := by simp [VR]
@[simp] theorem VR_nilptr {v : Value} : VR φ .nilptr v ↔ v = .pointer none := by simp [VR]
@[simp] theorem VR_ptr {b o : Nat} {v : Value} : VR φ (.ptr b o) v ↔ ∃ L, φ b = some L ∧ v = .pointer (some ⟨L.B, L.base + o, none⟩) := by simp [VR]
@[simp] theorem VR_nilslice {v : Value} : VR φ .nilslice v ↔ v = .slice none 0 0 := by simp [VR]
@[simp] theorem VR_slice0 {v : Value} : VR φ .slice0 v ↔ ∃ a c, v = .slice (some a) 0 c := by simp [VR]
@[simp] theorem VR_sliceEx {b o len c : Nat} {v : Value} : VR φ (.slice b o len (.exact c)) v ↔ ∃ L, φ b = some L ∧ v = .slice (some ⟨L.B, L.base + o, none⟩) len c := by simp [VR]
@[simp] theorem VR_sliceOp {b o len i : Nat} {v : Value} : VR φ (.slice b o len (.opn i)) v ↔ ∃ L, φ b = some L ∧ v = .slice (some ⟨L.B, L.base + o, none⟩) len (L.K - i) ∧ i + len ≤ L.K := by simp [VR]
@[simp] theorem VR_nilmap {v : Value} : VR φ .nilmap v ↔ v = .map none := by simp [VR]
@[simp] theorem VR_map {b : Nat} {v : Value} : VR φ (.map b) v ↔ ∃ L, φ b = some L ∧ v = .map (some L.B) := by simp [VR]
@[simp] theorem VR_func {f : FuncId} {first cap : List AV} {v : Value} : VR φ (.func f first cap) v ↔ ∃ a b, v = .func (.func f) a b ∧ All2 (VR φ) first a.toList ∧ All2 (VR φ) cap b.toList := by simp [VR, VRs_iff]
@[simp] theorem VR_yield {l : Nat} {v : Value} : VR φ (.yield l) v ↔ ∃ L, φ l = some L ∧ v = .func (.yield L.B) #[] #[] := by simp [VR]
@[simp] theorem VR_nilFunc {v : Value} : VR φ .nilFunc v ↔ v = .nilFunc := by simp [VR]
@[simp] theorem VR_iface {t : TypeId} {x : AV} {v : Value} : VR φ (.iface t x) v ↔ ∃ y, v = .iface t y ∧ VR φ x y := by simp [VR]
@[simp] theorem VR_nilIface {v : Value} : VR φ .nilIface v ↔ v = .nilIface := by simp [VR]
@[simp] theorem VR_agg {cs : List AV} {v : Value} : VR φ (.agg cs) v ↔ ∃ a, v = .agg a ∧ All2 (VR φ) cs a.toList := by simp [VR, VRs_iff]
@[simp] theorem VR_tuple {cs : List AV} {v : Value} : VR φ (.tuple cs) v ↔ ∃ a, v = .tuple a ∧ All2 (VR φ) cs a.toList := by simp [VR, VRs_iff]
theorem VR_und : VR φ und undef := by simp [und, undef]
theorem VR.one {a : AV} {v : Value} (h : VR φ a v) (ho : a.one = true) : v.oneCell' = true := by
  cases a with
  | agg cs => simp [AV.one] at ho
  | tuple cs => simp [AV.one] at ho
  | slice b o len c => cases c <;> simp at h <;> obtain ⟨L, h1, h2⟩ := h <;> first | (subst h2; rfl) | (rw [h2.1]; rfl)
  | bool b => simp at h; subst h; rfl
  | int k n => simp at h; subst h; rfl
  | str s => simp at h; obtain ⟨b, rfl, _⟩ := h; rfl
  | nilptr => simp at h; subst h; rfl
  | ptr b o => simp at h; obtain ⟨L, _, rfl⟩ := h; rfl
  | nilslice => simp at h; subst h; rfl
  | slice0 => simp at h; obtain ⟨a, c, rfl⟩ := h; rfl
  | nilmap => simp at h; subst h; rfl
  | map b => simp at h; obtain ⟨L, _, rfl⟩ := h; rfl
  | func f a b => simp at h; obtain ⟨x, y, rfl, _⟩ := h; rfl
  | yield l => simp at h; obtain ⟨L, _, rfl⟩ := h; rfl
  | nilFunc => simp at h; subst h; rfl
  | iface t x => simp at h; obtain ⟨y, rfl, _⟩ := h; rfl
  | nilIface => simp at h; subst h; rfl
theorem VR.cells_one {a : AV} {v : Value} (h : VR φ a v) (ho : a.one = true) : a.cells = [a] ∧ v.cells = #[v] := by
  have hv := h.one ho
  constructor
  · cases a <;> simp_all [AV.one, AV.cells]
  · cases v <;> simp_all [Value.oneCell', Value.cells]
theorem VR.cells {a : AV} {v : Value} (h : VR φ a v) : All2 (VR φ) a.cells v.cells.toList := by
  cases a with
  | agg cs => simp at h; obtain ⟨x, rfl, hx⟩ := h; exact hx
  | tuple cs => have h' := h; simp at h; obtain ⟨x, rfl, hx⟩ := h; exact ⟨h', trivial⟩
  | _ =>
    obtain ⟨h1, h2⟩ := h.cells_one rfl
    rw [h1, h2]; exact ⟨h, trivial⟩
end
def DR (φ : Phi) : ADef → Deferred → Prop
  | .call f args cap, d => ∃ a b, d = { target := .fn (.func f) b, args := a } ∧ All2 (VR φ) args a.toList ∧ All2 (VR φ) cap b.toList
  | .collected r, d => ∃ L, φ r = some L ∧ d = { target := .collected L.B, args := #[] }
theorem DR.le {φ ψ : Phi} (h : φ.le ψ) : ∀ {a : ADef} {d : Deferred}, DR φ a d → DR ψ a d
  | .call _ _ _, _, ⟨a, b, e, x, y⟩ => ⟨a, b, e, VRs.le x h, VRs.le y h⟩
  | .collected _, _, ⟨L, e, x⟩ => ⟨L, h _ _ e, x⟩
def TR (φ : Phi) (nt : Nat) (tm : T AV) (tmps : Array Value) : Prop :=
  tmps.size = nt ∧ ∀ i, VR φ ((tm.get i).getD und) (tmps.getD i undef)
theorem TR.le {φ ψ : Phi} {nt : Nat} {tm : T AV} {tmps : Array Value} (h : TR φ nt tm tmps) (hl : φ.le ψ) : TR ψ nt tm tmps :=
  ⟨h.1, fun i => (h.2 i).le hl⟩
def EntR (φ : Phi) (e : AV × AV × Nat) (m : MapEntry) : Prop := VR φ e.1 m.key ∧ VR φ e.2.1 m.val ∧ m.born = e.2.2
def OR (φ : Phi) (N : NN) (L : Loc) (w : World) : AObj → Prop
  | .cells n cs esz ro => ∃ c t frz, w.heap[L.B]? = some (.cells c t frz) ∧ L.base + n ≤ c.size ∧
      (∀ i v, cs.get i = some v → i < n ∧ v.one = true ∧ ∃ cv, c[L.base + i]? = some cv ∧ VR φ v cv) ∧
      (ro = false → N ≤ L.B ∧ ∀ i, i < c.size → ¬ (frz.1 ≤ i ∧ i < frz.2)) ∧
      (esz.sz ≠ 0 → c.size = L.base + L.K * esz.sz ∧ L.K ≤ 9223372036854775807) ∧ (esz.sz = 0 → L.base = 0) ∧ (esz.ty ≠ 0 → t + 1 = esz.ty) ∧ (esz.sz = 0 → ro = false → frz = (0, 0))
  | .map es clock => N ≤ L.B ∧ ∃ ces, w.heap[L.B]? = some (.map ces clock) ∧ All2 (EntR φ) es ces.toList
  | .romap es clock => ∃ ces, w.heap[L.B]? = some (.map ces clock) ∧ All2 (EntR φ) es ces.toList
  | .strIter s pos => (N ≤ L.B ∧ L.base = 0) ∧ ∃ b, w.heap[L.B]? = some (.stringIter b pos) ∧ bytesOf b = s
  | .mapIter m since seen stepped => (N ≤ L.B ∧ L.base = 0) ∧ ∃ m', w.heap[L.B]? = some (.mapIter m' since seen.toArray stepped) ∧
      (match m with | none => m' = none | some x => ∃ M, φ x = some M ∧ m' = some M.B)
  | .loop l => N ≤ L.B ∧ ∃ tmps D, w.heap[L.B]? = some (.loop { state := l.state, pending := l.pending, fn := l.fn, tmps, params := l.params.toArray, assign := l.assign, body := l.body, defers := D }) ∧
      TR φ l.nt l.tm tmps ∧ ∃ M, φ l.defers = some M ∧ D = M.B
  | .deferred calls => N ≤ L.B ∧ ∃ c, w.heap[L.B]? = some (.deferred c) ∧ (match calls with | none => c = none | some l => ∃ l', c = some l' ∧ All2 (DR φ) l l')
theorem OR.le {φ ψ : Phi} (h : φ.le ψ) {N : NN} {L : Loc} {w : World} : ∀ {o : AObj}, OR φ N L w o → OR ψ N L w o
  | .cells .., ⟨c, t, frz, h1, h2, h3, h4, h5⟩ => ⟨c, t, frz, h1, h2, fun i v hv => let ⟨a, b, cv, d, e⟩ := h3 i v hv; ⟨a, b, cv, d, e.le h⟩, h4, h5⟩
  | .map .., ⟨hN, ces, h1, h2⟩ => ⟨hN, ces, h1, h2.mono fun _ _ e => ⟨e.1.le h, e.2.1.le h, e.2.2⟩⟩
  | .romap .., ⟨ces, h1, h2⟩ => ⟨ces, h1, h2.mono fun _ _ e => ⟨e.1.le h, e.2.1.le h, e.2.2⟩⟩
  | .strIter .., x => x
  | .mapIter m .., ⟨hN, m', h1, h2⟩ => ⟨hN, m', h1, by
      cases m with
      | none => exact h2
      | some x => obtain ⟨M, a, b⟩ := h2; exact ⟨M, h _ _ a, b⟩⟩
  | .loop l, ⟨hN, tmps, D, h1, h2, M, h3, h4⟩ => ⟨hN, tmps, D, h1, h2.le h, M, h _ _ h3, h4⟩
  | .deferred c, ⟨hN, x, h1, h2⟩ => ⟨hN, x, h1, by
      cases c with
      | none => exact h2
      | some l => obtain ⟨l', a, b⟩ := h2; exact ⟨l', a, b.mono fun _ _ => DR.le h⟩⟩
theorem OR.congr {φ : Phi} {N : NN} {L : Loc} {w w' : World} (hw : w'.heap[L.B]? = w.heap[L.B]?) : ∀ {o : AObj}, OR φ N L w o → OR φ N L w' o
  | .cells .., ⟨c, t, frz, h1, h⟩ => ⟨c, t, frz, hw.trans h1, h⟩
  | .map .., ⟨hN, ces, h1, h2⟩ => ⟨hN, ces, hw.trans h1, h2⟩
  | .romap .., ⟨ces, h1, h2⟩ => ⟨ces, hw.trans h1, h2⟩
  | .strIter .., ⟨hN, b, h1, h2⟩ => ⟨hN, b, hw.trans h1, h2⟩
  | .mapIter .., ⟨hN, m', h1, h2⟩ => ⟨hN, m', hw.trans h1, h2⟩
  | .loop _, ⟨hN, tmps, D, h1, h2⟩ => ⟨hN, tmps, D, hw.trans h1, h2⟩
  | .deferred _, ⟨hN, x, h1, h2⟩ => ⟨hN, x, hw.trans h1, h2⟩
theorem OR.lt {φ : Phi} {N : NN} {L : Loc} {w : World} {o : AObj} (h : OR φ N L w o) : L.B < w.heap.size := by
  have : ∃ x, w.heap[L.B]? = some x := by
    cases o with
    | cells n cs esz ro => obtain ⟨c, t, frz, h1, _⟩ := h; exact ⟨_, h1⟩
    | map es c => obtain ⟨_, ces, h1, _⟩ := h; exact ⟨_, h1⟩
    | romap es c => obtain ⟨ces, h1, _⟩ := h; exact ⟨_, h1⟩
    | strIter s p => obtain ⟨_, b, h1, _⟩ := h; exact ⟨_, h1⟩
    | mapIter m s se st => obtain ⟨_, m', h1, _⟩ := h; exact ⟨_, h1⟩
    | loop l => obtain ⟨_, tmps, D, h1, _⟩ := h; exact ⟨_, h1⟩
    | deferred c => obtain ⟨_, x, h1, _⟩ := h; exact ⟨_, h1⟩
  obtain ⟨x, hx⟩ := this
  exact (Array.getElem?_eq_some_iff.1 hx).1
structure HR (N : NN) (φ : Phi) (h : H) (w : World) : Prop where
  obj : ∀ b o, h.t.get b = some o → N.res b = none → ∃ L, φ b = some L ∧ OR φ N L w o
  inj : ∀ b o b' o' L L', h.t.get b = some o → h.t.get b' = some o' → φ b = some L → φ b' = some L' → L.B = L'.B → b = b'
  lt : ∀ b, h.nx ≤ b → φ b = none
  res : ∀ b, N.res b ≠ none → φ b = none ∧ b < h.nx
  glob : ∀ g, g < h.g → φ g = some ⟨g, 0, 0⟩
section
variable {N : NN} {φ : Phi} {h : H} {w w' : World}
theorem HR.get (hr : HR N φ h w) {b : Nat} {o : AObj} {L : Loc} (hb : h.t.get b = some o) (hL : φ b = some L) : OR φ N L w o := by
  have hn : N.res b = none := by
    cases hq : N.res b with
    | none => rfl
    | some q => rw [(hr.res b (by rw [hq]; simp)).1] at hL; cases hL
  obtain ⟨L', h1, h2⟩ := hr.obj b o hb hn
  rw [hL] at h1; cases h1; exact h2
theorem HR.mapOf (hr : HR N φ h w) {m : Nat} {es : List (AV × AV × Nat)} {clock : Nat} (hm : mapOf (h.t.get m) = some (es, clock)) {M : Loc} (hM : φ m = some M) :
    ∃ ces, w.heap[M.B]? = some (.map ces clock) ∧ All2 (EntR φ) es ces.toList := by
  cases hb : h.t.get m with
  | none => rw [hb] at hm; cases hm
  | some o =>
    rw [hb] at hm
    cases o with
    | map e c =>
      cases hm
      obtain ⟨_, ces, g1, g2⟩ := hr.get hb hM
      exact ⟨ces, g1, g2⟩
    | romap e c =>
      cases hm
      obtain ⟨ces, g1, g2⟩ := hr.get hb hM
      exact ⟨ces, g1, g2⟩
    | _ => cases hm
theorem HR.unres (hr : HR N φ h w) {b : Nat} {L : Loc} (hL : φ b = some L) : N.res b = none := by
  cases hq : N.res b with
  | none => rfl
  | some q => rw [(hr.res b (by rw [hq]; simp)).1] at hL; cases hL
theorem HR.heap_eq (hr : HR N φ h w) (e : w'.heap = w.heap) : HR N φ h w' :=
  ⟨fun b o hb hn => let ⟨L, h1, h2⟩ := hr.obj b o hb hn; ⟨L, h1, h2.congr (by rw [e])⟩, hr.inj, hr.lt, hr.res, hr.glob⟩
theorem HR.add (hr : HR N φ h w) (L : Loc) (o : AObj) (hfree : ∀ b o L0, h.t.get b = some o → φ b = some L0 → L0.B ≠ L.B)
    (hsame : ∀ b o L0, h.t.get b = some o → φ b = some L0 → w'.heap[L0.B]? = w.heap[L0.B]?) (ho : OR (φ.ins h.nx L) N L w' o) :
    HR N (φ.ins h.nx L) (h.alloc o) w' ∧ φ.le (φ.ins h.nx L) := by
  have hle : φ.le (φ.ins h.nx L) := Phi.le_ins L (hr.lt _ (Nat.le_refl _))
  refine ⟨⟨?_, ?_, ?_, ?_, fun g hg => hle _ _ (hr.glob g hg)⟩, hle⟩
  · intro b o' hb hn
    simp only [H.alloc, T.get_set] at hb
    split at hb
    · rename_i e; subst e; cases hb; exact ⟨L, Phi.ins_same _ _ _, ho⟩
    · obtain ⟨M, h1, h2⟩ := hr.obj b o' hb hn
      exact ⟨M, hle _ _ h1, (h2.le hle).congr (hsame b o' M hb h1)⟩
  · intro b o1 b' o2 L1 L2 hb hb' h1 h2 e
    simp only [H.alloc, T.get_set] at hb hb'
    split at hb <;> split at hb'
    · rename_i x y; rw [x, y]
    · rename_i x y; subst x; rw [Phi.ins_same] at h1; cases h1
      rw [Phi.ins_other _ _ y] at h2; exact absurd e.symm (hfree _ _ _ hb' h2)
    · rename_i x y; subst y; rw [Phi.ins_same] at h2; cases h2
      rw [Phi.ins_other _ _ x] at h1; exact absurd e (hfree _ _ _ hb h1)
    · rename_i x y; rw [Phi.ins_other _ _ x] at h1; rw [Phi.ins_other _ _ y] at h2
      exact hr.inj b o1 b' o2 L1 L2 hb hb' h1 h2 e
  · intro b hb
    have hb' : h.nx + 1 ≤ b := hb
    rw [Phi.ins_other _ _ (by omega)]; exact hr.lt b (by omega)
  · intro b hb
    obtain ⟨h1, h2⟩ := hr.res b hb
    exact ⟨by rw [Phi.ins_other _ _ (by omega)]; exact h1, Nat.lt_succ_of_lt h2⟩
theorem HR.push (hr : HR N φ h w) (O : Obj) (base K : Nat) (o : AObj) (hw : w'.heap = w.heap.push O) (ho : OR (φ.ins h.nx ⟨w.heap.size, base, K⟩) N ⟨w.heap.size, base, K⟩ w' o) :
    HR N (φ.ins h.nx ⟨w.heap.size, base, K⟩) (h.alloc o) w' ∧ φ.le (φ.ins h.nx ⟨w.heap.size, base, K⟩) := by
  refine hr.add _ o (fun b o L0 hb hL => ?_) (fun b o L0 hb hL => ?_) ho
  · have := (hr.get hb hL).lt; show L0.B ≠ w.heap.size; omega
  · have := (hr.get hb hL).lt
    rw [hw, Array.getElem?_push, if_neg (by omega)]
theorem HR.set (hr : HR N φ h w) {b : Nat} {o : AObj} {L : Loc} (hb : h.t.get b = some o) (hL : φ b = some L) (o' : AObj)
    (hsame : ∀ k, k ≠ L.B → w'.heap[k]? = w.heap[k]?) (ho : OR φ N L w' o') : HR N φ { h with t := h.t.set b (some o') } w' := by
  refine ⟨?_, ?_, hr.lt, hr.res, hr.glob⟩
  · intro x ox hx hn
    simp only [T.get_set] at hx
    split at hx
    · rename_i e; subst e; cases hx; exact ⟨L, hL, ho⟩
    · rename_i e
      obtain ⟨M, h1, h2⟩ := hr.obj x ox hx hn
      exact ⟨M, h1, h2.congr (hsame _ (fun e' => e (hr.inj x ox b o M L hx hb h1 hL e')))⟩
  · intro x ox y oy L1 L2 hx hy h1 h2 e
    simp only [T.get_set] at hx hy
    have gx : ∃ o1, h.t.get x = some o1 := by
      by_cases q : x = b
      · subst q; exact ⟨_, hb⟩
      · rw [if_neg q] at hx; exact ⟨_, hx⟩
    have gy : ∃ o1, h.t.get y = some o1 := by
      by_cases q : y = b
      · subst q; exact ⟨_, hb⟩
      · rw [if_neg q] at hy; exact ⟨_, hy⟩
    obtain ⟨o1, gx⟩ := gx
    obtain ⟨o2, gy⟩ := gy
    exact hr.inj x o1 y o2 L1 L2 gx gy h1 h2 e
theorem HR.drop (hr : HR N φ h w) (b : Nat) : HR N φ { h with t := h.t.set b none } w := by
  refine ⟨?_, ?_, hr.lt, hr.res, hr.glob⟩
  · intro x ox hx hn
    simp only [T.get_set] at hx
    split at hx
    · cases hx
    · exact hr.obj x ox hx hn
  · intro x ox y oy L1 L2 hx hy h1 h2 e
    simp only [T.get_set] at hx hy
    split at hx
    · cases hx
    · split at hy
      · cases hy
      · exact hr.inj x ox y oy L1 L2 hx hy h1 h2 e
end
def PR (φ : Phi) (p : APanic) (e : PanicEntry) : Prop := e.recovered = p.recovered ∧ e.goexit = false ∧ VR φ p.v e.v
def MR (φ : Phi) : AMode → FrameMode → Prop
  | .run, m => m = .run
  | .returning, m => m = .returning
  | .panicking l, m => ∃ l', m = .panicking l' ∧ All2 (PR φ) l l'
def IR (φ : Phi) : AItem → Item → Prop
  | .code c, i => i = .code c
  | .inBlock id, i => i = .inBlock id
  | .inLoop c, i => i = .inLoop c
  | .inScope c, i => i = .inScope c
  | .ops ops l, i => ∃ idx, i = .inRegion ops idx ∧ idx.map (fun j => ops[j]?) = l.map some
  | .inRangeFunc l, i => ∃ L, φ l = some L ∧ i = .inRangeFunc L.B
  | .endRangeFunc l, i => ∃ L, φ l = some L ∧ i = .endRangeFunc L.B
  | .beginRound, i => i = .beginRound
def RoR (φ : Phi) : Option Nat → Option Nat → Prop
  | none, r => r = none
  | some l, r => ∃ L, φ l = some L ∧ r = some L.B
structure FR (φ : Phi) (a : AFrame) (fr : Frame) : Prop where
  fn : fr.fn = a.fn
  tm : TR φ a.nt a.tm fr.tmps
  todo : All2 (IR φ) a.todo fr.todo
  defers : All2 (DR φ) a.defers fr.defers
  mode : MR φ a.mode fr.mode
  kind : fr.kind = a.kind
  round : RoR φ a.roundOf fr.roundOf
theorem PR.le {φ ψ : Phi} (h : φ.le ψ) {p : APanic} {e : PanicEntry} (x : PR φ p e) : PR ψ p e := ⟨x.1, x.2.1, x.2.2.le h⟩
theorem MR.le {φ ψ : Phi} (h : φ.le ψ) : ∀ {a : AMode} {m : FrameMode}, MR φ a m → MR ψ a m
  | .run, _, x => x
  | .returning, _, x => x
  | .panicking _, _, ⟨l', e, x⟩ => ⟨l', e, x.mono fun _ _ => PR.le h⟩
theorem IR.le {φ ψ : Phi} (h : φ.le ψ) : ∀ {a : AItem} {i : Item}, IR φ a i → IR ψ a i
  | .code _, _, x => x
  | .inBlock _, _, x => x
  | .inLoop _, _, x => x
  | .inScope _, _, x => x
  | .ops .., _, x => x
  | .inRangeFunc _, _, ⟨L, e, x⟩ => ⟨L, h _ _ e, x⟩
  | .endRangeFunc _, _, ⟨L, e, x⟩ => ⟨L, h _ _ e, x⟩
  | .beginRound, _, x => x
theorem RoR.le {φ ψ : Phi} (h : φ.le ψ) : ∀ {a : Option Nat} {r : Option Nat}, RoR φ a r → RoR ψ a r
  | none, _, x => x
  | some _, _, ⟨L, e, x⟩ => ⟨L, h _ _ e, x⟩
theorem FR.le {φ ψ : Phi} (h : φ.le ψ) {a : AFrame} {fr : Frame} (x : FR φ a fr) : FR ψ a fr :=
  ⟨x.fn, x.tm.le h, x.todo.mono fun _ _ => IR.le h, x.defers.mono fun _ _ => DR.le h, x.mode.le h, x.kind, x.round.le h⟩
def Closed (ops : Array Oper) (idx : List Nat) : Prop :=
  ∀ i o, ops[i]? = some o → ∀ e, e ∈ edgesOf o.after.toList → e ∈ idx → i ∈ idx
structure DW (d : Draw) (idx : List Nat) : Prop where
  stat : statB d.ops (idxd 0 d.ops.toList) (idxd 0 d.ops.toList) = true
  nodup : idx.Nodup
  closed : ∀ pre suf, idx = pre ++ suf → Closed d.ops suf
  rem : ∀ p, p ∈ d.rem → p.1 ∈ idx ∧ d.ops[p.1]? = some p.2
  early : ∀ p, p ∈ d.early → d.ops[p.1]? = some p.2.1
  all : ∀ i, i ∈ idx → (∃ o, (i, o) ∈ d.rem) ∨ ∃ o b, (i, o, b) ∈ d.early
  wait : d.wait = true → ∃ i o rem post, d.rem = (i, o) :: rem ∧ idx = i :: post ∧ ∀ p, p ∈ rem → p.1 ≠ i
def isE (ops : Array Oper) (j : Nat) : Bool :=
  match ops[j]? with
  | some o => soon o
  | none => false
def TX (φ : Phi) (ops : Array Oper) (idx : List Nat) (nt : Nat) (tm : T AV) (tmps : Array Value) : Prop :=
  tmps.size = nt ∧ ∀ t, (∀ j, j ∈ idx → isE ops j = true → dstOf ops j ≠ some t) → VR φ ((tm.get t).getD und) (tmps.getD t undef)
def LagR (N : NN) (k : Nat) (d : Draw) (idx : List Nat) : Prop :=
  ∀ p, p ∈ d.early → p.1 ∈ idx → isLay p.2.1 = true → N.res p.2.2 = some (k, p.1)
structure DFR (N : NN) (k : Nat) (φ : Phi) (d : Draw) (a : AFrame) (fr : Frame) (idx : List Nat) (ck : List Item) : Prop where
  fn : fr.fn = a.fn
  here : fr.todo = .inRegion d.ops idx :: ck
  tm : TX φ d.ops idx a.nt a.tm fr.tmps
  todo : All2 (IR φ) a.todo ck
  dw : DW d idx
  lag : LagR N k d idx
  defers : All2 (DR φ) a.defers fr.defers
  mode : MR φ a.mode fr.mode
  kind : fr.kind = a.kind
  round : RoR φ a.roundOf fr.roundOf
theorem TX.le {φ ψ : Phi} {ops : Array Oper} {idx : List Nat} {nt : Nat} {tm : T AV} {tmps : Array Value} (h : TX φ ops idx nt tm tmps) (hl : φ.le ψ) : TX ψ ops idx nt tm tmps :=
  ⟨h.1, fun i hi => (h.2 i hi).le hl⟩
theorem DFR.le {N : NN} {k : Nat} {φ ψ : Phi} (h : φ.le ψ) {d : Draw} {a : AFrame} {fr : Frame} {idx : List Nat} {ck : List Item} (x : DFR N k φ d a fr idx ck) : DFR N k ψ d a fr idx ck :=
  ⟨x.fn, x.here, x.tm.le h, x.todo.mono fun _ _ => IR.le h, x.dw, x.lag, x.defers.mono fun _ _ => DR.le h, x.mode.le h, x.kind, x.round.le h⟩
def F2 (N : NN) (k : Nat) (φ : Phi) (a : AFrame) (fr : Frame) : Prop :=
  match a.dr with
  | none => FR φ a fr
  | some d => ∃ idx ck, DFR N k φ d a fr idx ck
theorem F2.un {N : NN} {k : Nat} {φ : Phi} {a : AFrame} {fr : Frame} (hd : a.dr = none) (h : F2 N k φ a fr) : FR φ a fr := by
  unfold F2 at h; rw [hd] at h; exact h
theorem F2.mk {N : NN} {k : Nat} {φ : Phi} {a : AFrame} {fr : Frame} (hd : a.dr = none) (h : FR φ a fr) : F2 N k φ a fr := by
  unfold F2; rw [hd]; exact h
theorem F2.und {N : NN} {k : Nat} {φ : Phi} {a : AFrame} {fr : Frame} {d : Draw} (hd : a.dr = some d) (h : F2 N k φ a fr) : ∃ idx ck, DFR N k φ d a fr idx ck := by
  unfold F2 at h; rw [hd] at h; exact h
theorem F2.mkd {N : NN} {k : Nat} {φ : Phi} {a : AFrame} {fr : Frame} {d : Draw} (hd : a.dr = some d) {idx : List Nat} {ck : List Item} (h : DFR N k φ d a fr idx ck) : F2 N k φ a fr := by
  unfold F2; rw [hd]; exact ⟨idx, ck, h⟩
theorem F2.le {N : NN} {k : Nat} {φ ψ : Phi} (h : φ.le ψ) {a : AFrame} {fr : Frame} (x : F2 N k φ a fr) : F2 N k ψ a fr := by
  cases hd : a.dr with
  | none => exact .mk hd ((x.un hd).le h)
  | some d => obtain ⟨idx, ck, y⟩ := x.und hd; exact .mkd hd (y.le h)
theorem F2.res {N N' : NN} {k : Nat} {φ : Phi} (h : ∀ b i, N.res b = some (k, i) → N'.res b = some (k, i)) {a : AFrame} {fr : Frame} (x : F2 N k φ a fr) : F2 N' k φ a fr := by
  cases hd : a.dr with
  | none => exact .mk hd (x.un hd)
  | some d =>
    obtain ⟨idx, ck, y⟩ := x.und hd
    exact .mkd hd ⟨y.fn, y.here, y.tm, y.todo, y.dw, fun p h1 h2 h3 => h _ _ (y.lag p h1 h2 h3), y.defers, y.mode, y.kind, y.round⟩
def CS (N : NN) (φ : Phi) : List AFrame → List Frame → Prop
  | [], cs => cs = []
  | a :: as, cs => ∃ c cs', cs = c :: cs' ∧ F2 N as.length φ a c ∧ CS N φ as cs'
theorem CS.le {N : NN} {φ ψ : Phi} (h : φ.le ψ) : ∀ {as : List AFrame} {cs : List Frame}, CS N φ as cs → CS N ψ as cs
  | [], _, x => x
  | _ :: _, _, ⟨c, cs', e, x, y⟩ => ⟨c, cs', e, x.le h, y.le h⟩
theorem CS.res {N N' : NN} {φ : Phi} {k : Nat} (h : ∀ b j i, j < k → N.res b = some (j, i) → N'.res b = some (j, i)) : ∀ {as : List AFrame} {cs : List Frame}, as.length ≤ k → CS N φ as cs → CS N' φ as cs
  | [], _, _, x => x
  | a :: as, _, hk, ⟨c, cs', e, x, y⟩ => ⟨c, cs', e, x.res fun b i => h b _ i (by simp only [List.length_cons] at hk; omega), y.res h (by simp only [List.length_cons] at hk; omega)⟩
structure HookOk (P : Program) (K : Hook) : Prop where
  call : ∀ f args h v h', K.call f args h = some (v, h') → ∀ (N : NN) (φ : Phi) (w : World) (cargs : Array Value), HR N φ h w → N.n ≤ w.heap.size → All2 (VR φ) args cargs.toList →
    Calls P f cargs w fun e w' => ∃ φ' cv, e = .returned cv ∧ φ.le φ' ∧ VR φ' v cv ∧ HR N φ' h' w' ∧ Below N.n w w'
  ext : ∀ f args h v h', K.ext f args h = some (v, h') → ∀ (N : NN) (φ : Phi) (w : World) (cargs : Array Value), HR N φ h w → N.n ≤ w.heap.size → All2 (VR φ) args cargs.toList →
    ∃ φ' cv w', (callFunc f cargs).run P w = .ok (.value cv) w' ∧ φ.le φ' ∧ VR φ' v cv ∧ HR N φ' h' w' ∧ Below N.n w w'
theorem noHook_ok (P : Program) : HookOk P noHook := ⟨fun _ _ _ _ _ h => (by cases h), fun _ _ _ _ _ h => (by cases h)⟩
theorem calls_steps {P : Program} {f : FuncId} {cargs : Array Value} {w : World} {Q : Ending → World → Prop} (h : Calls P f cargs w Q) (hq : ∀ e w', Q e w' → ∃ cv, e = .returned cv) (c : Frame) (cs : List Frame) :
    ∃ cv w', Q (.returned cv) w' ∧ Steps P (lone (Frame.enter P f cargs .normal) (c :: cs) w) (lone (c.finish cv) cs w') := by
  obtain ⟨e, w', fr, hQ, hc, _, hl⟩ := h (c :: cs)
  obtain ⟨cv, rfl⟩ := hq _ _ hQ
  exact ⟨cv, w', hQ, Steps.trans hc (Steps.one (step_leave_returned hl))⟩
structure SR (N : NN) (w0 : World) (φ : Phi) (s : S) (fr : Frame) (cs : List Frame) (w : World) : Prop where
  fr : F2 N s.cs.length φ s.fr fr
  cs : CS N φ s.cs cs
  h : HR N φ s.h w
  below : Below N w0 w
  size : N ≤ w.heap.size
end Go.AX

namespace Go.AX
open Go.RowKit
@[simp] theorem add_none (B o n : Nat) : (⟨B, o, none⟩ : Addr).add n = ⟨B, o + n, none⟩ := by
  unfold Addr.add; split
  · rename_i h; subst h; rfl
  · rfl
def setB (w : World) (B : Nat) (o : Obj) : World := { w with heap := w.heap.setIfInBounds B o }
theorem setB_get {w : World} {B : Nat} {o : Obj} (h : B < w.heap.size) (k : Nat) : (setB w B o).heap[k]? = if k = B then some o else w.heap[k]? := by
  simp only [setB, Array.getElem?_setIfInBounds]
  by_cases e : B = k
  · subst e; simp [h]
  · rw [if_neg e, if_neg (fun x => e x.symm)]
theorem setB_size {w : World} {B : Nat} {o : Obj} : (setB w B o).heap.size = w.heap.size := by simp [setB]
theorem setB_setB {w : World} {B : Nat} {o o' : Obj} : setB (setB w B o) B o' = setB w B o' := by
  simp [setB]
theorem setB_self {w : World} {B : Nat} {o : Obj} (h : w.heap[B]? = some o) : setB w B o = w := by
  obtain ⟨hlt, e⟩ := Array.getElem?_eq_some_iff.1 h
  have : w.heap.setIfInBounds B o = w.heap := by
    apply Array.ext_getElem?
    intro k
    rw [Array.getElem?_setIfInBounds]
    split
    · rename_i q; subst q; exact h.symm
    · rfl
  unfold setB; rw [this]
theorem below_setB {N : Nat} {w : World} {B : Nat} (o : Obj) (h : N ≤ B) : Below N w (setB w B o) :=
  ⟨rfl, rfl, rfl, by rw [setB_size]; exact Nat.le_refl _, fun k hk => by
    simp only [setB, Array.getElem?_setIfInBounds]; rw [if_neg (by omega)]⟩
theorem setCell_eq {w : World} {B off : Nat} {c : Array Value} {t : TypeId} {frz : Nat × Nat} (h : w.heap[B]? = some (.cells c t frz)) (v : Value) :
    w.setCell ⟨B, off, none⟩ v = setB w B (.cells (c.setIfInBounds off v) t frz) := by
  obtain ⟨hlt, e⟩ := Array.getElem?_eq_some_iff.1 h
  have : (w.heap.modify B fun
      | .cells c elem frozen => .cells (if (none : Option Nat).isSome then c else c.setIfInBounds off v) elem frozen
      | o => o) = w.heap.setIfInBounds B (.cells (c.setIfInBounds off v) t frz) := by
    apply Array.ext_getElem?
    intro k
    rw [Array.getElem?_setIfInBounds, Array.getElem?_modify]
    by_cases q : B = k
    · subst q; rw [if_pos rfl, if_pos rfl, if_pos hlt, h]; simp
    · rw [if_neg q, if_neg q]
  unfold World.setCell setB
  exact congrArg (fun x => ({ w with heap := x } : World)) this
theorem cell_eq {w : World} {B off : Nat} {c : Array Value} {t : TypeId} {frz : Nat × Nat} (h : w.heap[B]? = some (.cells c t frz)) :
    w.cell? ⟨B, off, none⟩ = c[off]? := by
  simp [World.cell?, h]
theorem frozen_eq {w : World} {B off : Nat} {c : Array Value} {t : TypeId} {frz : Nat × Nat} (h : w.heap[B]? = some (.cells c t frz)) :
    w.frozen? ⟨B, off, none⟩ = (frz.1 ≤ off && off < frz.2) := by
  simp [World.frozen?, h]
theorem run_storeCells (P : Program) {B base : Nat} {t : TypeId} {frz : Nat × Nat} : ∀ (vs : List Value) (i : Nat) (w : World) (c : Array Value),
    w.heap[B]? = some (.cells c t frz) → (∀ j, j < vs.length → base + i + j < c.size ∧ ¬ (frz.1 ≤ base + i + j ∧ base + i + j < frz.2)) →
    (∀ v, v ∈ vs → v.oneCell' = true) →
    ∃ c', (storeCells ⟨B, base, none⟩ vs i).run P w = .ok () (setB w B (.cells c' t frz)) ∧ c'.size = c.size ∧
      ∀ k, c'[k]? = if base + i ≤ k ∧ k < base + i + vs.length then vs[k - (base + i)]? else c[k]?
  | [], i, w, c, h, _, _ => by
    refine ⟨c, ?_, rfl, fun k => ?_⟩
    · rw [setB_self h]; rfl
    · rw [if_neg (by simp only [List.length_nil]; omega)]
  | v :: vs, i, w, c, h, hb, ho => by
    have h0 := hb 0 (by simp)
    simp only [Nat.add_zero] at h0
    have hlt : B < w.heap.size := (Array.getElem?_eq_some_iff.1 h).1
    have hst : (store ((⟨B, base, none⟩ : Addr).add i) v).run P w = .ok () (setB w B (.cells (c.setIfInBounds (base + i) v) t frz)) := by
      rw [add_none, run_store P w _ v .plain (ho v (by simp)), cell_eq h, Array.getElem?_eq_getElem h0.1, frozen_eq h]
      have : (decide (frz.1 ≤ base + i) && decide (base + i < frz.2)) = false := by
        simp only [Bool.and_eq_false_iff, decide_eq_false_iff_not]; omega
      simp only [this, if_false, Bool.false_eq_true, setCell_eq h]
    have h1 : (setB w B (.cells (c.setIfInBounds (base + i) v) t frz)).heap[B]? = some (.cells (c.setIfInBounds (base + i) v) t frz) := by
      rw [setB_get hlt, if_pos rfl]
    obtain ⟨c', hr, hs, hc⟩ := run_storeCells P vs (i + 1) _ _ h1
      (fun j hj => by have := hb (j + 1) (by simp; omega); simp only [Array.size_setIfInBounds]; rw [show base + (i + 1) + j = base + i + (j + 1) by omega]; exact this)
      (fun x hx => ho x (by simp [hx]))
    refine ⟨c', ?_, by rw [hs, Array.size_setIfInBounds], fun k => ?_⟩
    · simp only [storeCells, Sem.run_bind, hst, Result.andThen_ok, hr, setB_setB]
    · rw [hc k]
      by_cases q : base + (i + 1) ≤ k ∧ k < base + (i + 1) + vs.length
      · rw [if_pos q, if_pos (by simp only [List.length_cons]; omega), show k - (base + i) = (k - (base + (i + 1))) + 1 by omega]; simp
      · rw [if_neg q, Array.getElem?_setIfInBounds]
        by_cases e : base + i = k
        · subst e; rw [if_pos rfl, if_pos h0.1, if_pos (by simp only [List.length_cons]; omega)]; simp
        · rw [if_neg e, if_neg (by simp only [List.length_cons]; omega)]
theorem putCells_get : ∀ {l : List AV} {cs cs' : T AV} {o : Nat}, H.putCells cs o l = some cs' →
    (∀ i, cs'.get i = if o ≤ i ∧ i < o + l.length then l[i - o]? else cs.get i) ∧ (∀ i, o ≤ i → i < o + l.length → cs.get i ≠ none) ∧ (∀ a, a ∈ l → a.one = true)
  | [], cs, cs', o, h => by
    simp only [H.putCells, Option.some.injEq] at h; subst h
    exact ⟨fun i => by rw [if_neg (by simp only [List.length_nil]; omega)], fun i h1 h2 => by simp at h2; omega, by simp⟩
  | v :: l, cs, cs', o, h => by
    simp only [H.putCells] at h
    split at h
    · rename_i u hone hget
      obtain ⟨h1, h2, h3⟩ := putCells_get h
      refine ⟨fun i => ?_, fun i hi hj => ?_, fun a ha => ?_⟩
      · rw [h1 i]
        by_cases q : o + 1 ≤ i ∧ i < o + 1 + l.length
        · rw [if_pos q, if_pos (by simp only [List.length_cons]; omega), show i - o = (i - (o + 1)) + 1 by omega]; simp
        · rw [if_neg q, T.get_set]
          by_cases e : i = o
          · subst e; rw [if_pos rfl, if_pos (by simp only [List.length_cons]; omega)]; simp
          · rw [if_neg e, if_neg (by simp only [List.length_cons]; omega)]
      · by_cases e : i = o
        · subst e; rw [hget]; simp
        · have := h2 i (by omega) (by simp only [List.length_cons] at hj; omega)
          rw [T.get_set, if_neg e] at this; exact this
      · rcases List.mem_cons.1 ha with rfl | ha
        · exact hone
        · exact h3 a ha
    · cases h
theorem allOne_mem : ∀ {l : List AV}, allOne l = true → ∀ a, a ∈ l → a.one = true
  | [], _, a, ha => by cases ha
  | v :: l, h, a, ha => by
    simp only [allOne] at h
    split at h
    · rename_i hv
      rcases List.mem_cons.1 ha with rfl | ha
      · exact hv
      · exact allOne_mem h a ha
    · cases h
theorem T.get_fill_at : ∀ (l : List AV) (cs : T AV) (o i : Nat), (T.fill cs o l).get i = if o ≤ i ∧ i < o + l.length then l[i - o]? else cs.get i
  | [], cs, o, i => by simp only [T.fill, List.length_nil]; rw [if_neg (by omega)]
  | v :: l, cs, o, i => by
    simp only [T.fill, T.get_fill_at l, T.get_set, List.length_cons]
    by_cases e : i = o
    · subst e; rw [if_neg (by omega), if_pos rfl, if_pos (by omega)]; simp
    · by_cases q : o + 1 ≤ i ∧ i < o + 1 + l.length
      · rw [if_pos q, if_pos (by omega), show i - o = (i - (o + 1)) + 1 by omega]; simp
      · rw [if_neg q, if_neg e, if_neg (by omega)]
theorem putRow_get {l : List AV} {cs cs' : T AV} {o : Nat} (h : H.putRow cs o l = some cs') :
    (∀ i, cs'.get i = if o ≤ i ∧ i < o + l.length then l[i - o]? else cs.get i) ∧ (∀ i, o ≤ i → i < o + l.length → cs.get i ≠ none) ∧ (∀ a, a ∈ l → a.one = true) := by
  unfold H.putRow at h
  split at h
  · rename_i xs
    split at h
    · rename_i hc
      cases h
      simp only [Bool.and_eq_true, lenL_eq] at hc
      obtain ⟨_, h2, h3⟩ := hc
      have h2 := Nat.le_of_ble_eq_true h2
      refine ⟨fun i => ?_, fun i hi hj => ?_, allOne_mem h3⟩
      · simp only [T.get_row, lenL_eq]
        split
        · rename_i q
          rw [List.getElem?_append_right (by simp; omega), List.getElem?_append_left (by simp; omega)]
          congr 1; simp; omega
        · rename_i q
          by_cases q1 : i < o
          · rw [List.getElem?_append_left (by simp; omega), List.getElem?_take, if_pos q1]
          · rw [List.getElem?_append_right (by simp; omega), List.getElem?_append_right (by simp; omega), List.getElem?_drop]
            congr 1; simp; omega
      · rw [T.get_row, List.getElem?_eq_getElem (by omega)]; simp
    · exact putCells_get h
  · exact putCells_get h
section
variable {P : Program} {N : NN} {φ : Phi} {h h' : H} {w : World}
theorem loadCells_rel {L : Loc} {n : Nat} {cs : T AV} {esz : EK} {ro : Bool} (ho : OR φ N L w (.cells n cs esz ro)) :
    ∀ (k o : Nat) (l : List AV), H.loadCells cs o k = some l →
      ∃ cl : List Value, All2 (VR φ) l cl ∧ cl.length = k ∧ (∀ j v, cl[j]? = some v → w.cell? ⟨L.B, L.base + o + j, none⟩ = some v) ∧ (∀ a, a ∈ l → a.one = true)
  | 0, o, l, hl => by
    simp only [H.loadCells, Option.some.injEq] at hl; subst hl
    exact ⟨[], trivial, rfl, by simp, by simp⟩
  | k + 1, o, l, hl => by
    simp only [H.loadCells] at hl
    split at hl
    · cases hl
    · rename_i v hv
      split at hl
      · cases hl
      · rename_i l' hl'
        cases hl
        obtain ⟨cl, h1, h2, h3, h4⟩ := loadCells_rel ho k (o + 1) l' hl'
        obtain ⟨c, t, frz, g1, g2, g3, g4, g5⟩ := ho
        obtain ⟨g6, g7, cv, g8, g9⟩ := g3 o v hv
        refine ⟨cv :: cl, ⟨g9, h1⟩, by simp [h2], fun j x hj => ?_, fun a ha => ?_⟩
        · cases j with
          | zero => simp only [List.getElem?_cons_zero, Option.some.injEq] at hj; subst hj; rw [Nat.add_zero, cell_eq g1, g8]
          | succ j =>
            simp only [List.getElem?_cons_succ] at hj
            have := h3 j x hj
            rwa [show L.base + (o + 1) + j = L.base + o + (j + 1) by omega] at this
        · rcases List.mem_cons.1 ha with rfl | ha
          · exact g7
          · exact h4 a ha
theorem loadCells_length {cs : T AV} : ∀ {k o : Nat} {l : List AV}, H.loadCells cs o k = some l → l.length = k
  | 0, _, _, h => by simp only [H.loadCells, Option.some.injEq] at h; subst h; rfl
  | k + 1, o, l, h => by
    simp only [H.loadCells] at h
    split at h
    · cases h
    · split at h
      · cases h
      · rename_i l' hl'; cases h; simp [loadCells_length hl']
theorem row_rel (hr : HR N φ h w) {b o k : Nat} {L0 : Loc} (hL0 : φ b = some L0) {l : List AV} (hl : h.row b o k = some l) :
    ∃ L cl, φ b = some L ∧ (loadCells ⟨L.B, L.base + o, none⟩ k).run P w = .ok cl.toArray w ∧ All2 (VR φ) l cl ∧ cl.length = k ∧ (∀ a, a ∈ l → a.one = true) := by
  unfold H.row at hl
  split at hl
  · rename_i n cs esz ro hb
    obtain ⟨L, hL, ho⟩ := hr.obj _ _ hb (hr.unres hL0)
    obtain ⟨cl, h1, h2, h3, h4⟩ := loadCells_rel ho k o l ((loadRow_eq _ _ _).symm.trans hl)
    refine ⟨L, cl, hL, ?_, h1, h2, h4⟩
    have := run_loadCells_list (P := P) w ⟨L.B, L.base + o, none⟩ cl (fun j v hj => by rw [add_none]; exact h3 j v hj)
    rw [h2] at this; exact this
  · cases hl
theorem cell_rel (hr : HR N φ h w) {b o n : Nat} {L0 : Loc} (hL0 : φ b = some L0) {cs : T AV} {esz : EK} {ro : Bool} {v : AV} (hb : h.t.get b = some (.cells n cs esz ro)) (hv : cs.get o = some v) :
    ∃ L cv, φ b = some L ∧ w.cell? ⟨L.B, L.base + o, none⟩ = some cv ∧ VR φ v cv ∧ v.one = true := by
  obtain ⟨L, hL, c, t, frz, g1, g2, g3, g4, g5⟩ := hr.obj _ _ hb (hr.unres hL0)
  obtain ⟨g6, g7, cv, g8, g9⟩ := g3 o v hv
  exact ⟨L, cv, hL, by rw [cell_eq g1, g8], g9, g7⟩
theorem put_rel (hr : HR N φ h w) {b o : Nat} {L0 : Loc} (hL0 : φ b = some L0) {l : List AV} {cl : List Value} (hp : h.put b o l = some h') (hl : All2 (VR φ) l cl) :
    ∃ L w', φ b = some L ∧ (storeCells ⟨L.B, L.base + o, none⟩ cl).run P w = .ok () w' ∧ HR N φ h' w' ∧ Below N w w' ∧ h'.nx = h.nx ∧ w'.heap.size = w.heap.size := by
  have key : ∀ (n : Nat) (cs cs' : T AV) (esz : EK), h.t.get b = some (.cells n cs esz false) → h' = { h with t := h.t.set b (some (.cells n cs' esz false)) } →
      (∀ i, cs'.get i = if o ≤ i ∧ i < o + l.length then l[i - o]? else cs.get i) → (∀ i, o ≤ i → i < o + l.length → i < n) → (∀ a, a ∈ l → a.one = true) →
      ∃ L w', φ b = some L ∧ (storeCells ⟨L.B, L.base + o, none⟩ cl).run P w = .ok () w' ∧ HR N φ h' w' ∧ Below N w w' ∧ h'.nx = h.nx ∧ w'.heap.size = w.heap.size := by
    intro n cs cs' esz hb e p1 p2 p3
    subst e
    obtain ⟨L, hL, ho⟩ := hr.obj _ _ hb (hr.unres hL0)
    have ho' := ho
    obtain ⟨c, t, frz, g1, g2, g3, g4, g5⟩ := ho
    obtain ⟨hN, hfr⟩ := g4 rfl
    have hlen := hl.length
    have hlt := ho'.lt
    have hin : ∀ j, j < cl.length → o + j < n := fun j hj => p2 (o + j) (by omega) (by omega)
    obtain ⟨c', r1, r2, r3⟩ := run_storeCells P (B := L.B) (base := L.base + o) (t := t) (frz := frz) cl 0 w c g1
      (fun j hj => by have := hin j hj; exact ⟨by omega, hfr _ (by omega)⟩)
      (fun v hv => by
        obtain ⟨i, hi⟩ := List.getElem?_of_mem hv
        obtain ⟨a, ha, hR⟩ := hl.get' hi
        exact hR.one (p3 a (List.mem_of_getElem? ha)))
    refine ⟨L, _, hL, r1, ?_, below_setB _ hN, rfl, setB_size⟩
    refine hr.set hb hL _ (fun k hk => by rw [setB_get hlt, if_neg hk]) ?_
    refine ⟨c', t, frz, by rw [setB_get hlt, if_pos rfl], by rw [r2]; exact g2, fun i v hi => ?_, fun _ => ⟨hN, by rw [r2]; exact hfr⟩, ⟨fun he => by rw [r2]; exact g5.1 he, g5.2⟩⟩
    rw [p1 i] at hi
    split at hi
    · rename_i q
      obtain ⟨cv, hcv, hR⟩ := hl.get hi
      refine ⟨by have := hin (i - o) (by omega); omega, p3 v (List.mem_of_getElem? hi), cv, ?_, hR⟩
      rw [r3, if_pos (by omega), show L.base + i - (L.base + o + 0) = i - o by omega]; exact hcv
    · rename_i q
      obtain ⟨q1, q2, cv, q3, q4⟩ := g3 i v hi
      refine ⟨q1, q2, cv, ?_, q4⟩
      rw [r3, if_neg (by omega)]; exact q3
  unfold H.put at hp
  split at hp
  · rename_i n cs esz hb
    split at hp
    · rename_i cs' hcs
      cases hp
      obtain ⟨p1, p2, p3⟩ := putRow_get hcs
      refine key n cs cs' esz hb rfl p1 (fun i h1 h2 => ?_) p3
      have := p2 i h1 h2
      obtain ⟨L, hL, c, t, frz, g1, g2, g3, g4⟩ := hr.obj _ _ hb (hr.unres hL0)
      cases hg : cs.get i with
      | none => exact absurd hg this
      | some v => exact (g3 _ _ hg).1
    · split at hp
      · rename_i hq
        cases hp
        rw [Bool.and_eq_true, lenL_eq] at hq
        have h2 := Nat.le_of_ble_eq_true hq.2
        exact key n cs _ esz hb rfl (fun i => T.get_fill_at l cs o i) (fun i _ h => by omega) (allOne_mem hq.1)
      · cases hp
  · cases hp
theorem below_push {N : Nat} {w : World} (O : Obj) (h : N ≤ w.heap.size) : Below N w { w with heap := w.heap.push O } :=
  ⟨rfl, rfl, rfl, by simp, fun k hk => by show (w.heap.push O)[k]? = _; rw [Array.getElem?_push, if_neg (by omega)]⟩
theorem newCells_rel (hr : HR N φ h w) (hN : N ≤ w.heap.size) {l : List AV} {cl : List Value} (hl : All2 (VR φ) l cl) (ho : ∀ a, a ∈ l → a.one = true) (t : TypeId) :
    HR N (φ.ins h.nx ⟨w.heap.size, 0, 0⟩) (h.newCells t l) { w with heap := w.heap.push (.cells cl.toArray t) } ∧ φ.le (φ.ins h.nx ⟨w.heap.size, 0, 0⟩) := by
  have hle : φ.le (φ.ins h.nx ⟨w.heap.size, 0, 0⟩) := Phi.le_ins _ (hr.lt _ (Nat.le_refl _))
  refine hr.push (.cells cl.toArray t) 0 0 _ rfl ?_
  refine ⟨cl.toArray, t, (0, 0), by simp, by simp [hl.length], fun i v hi => ?_, fun _ => ⟨hN, by simp⟩, ⟨fun e => absurd rfl e, fun _ => rfl, fun _ => rfl, fun _ _ => rfl⟩⟩
  rw [T.get_ofRow] at hi
  obtain ⟨cv, hcv, hR⟩ := hl.get hi
  have hi' := (List.getElem?_eq_some_iff.1 hi).1
  exact ⟨by rw [lenL_eq]; exact hi', ho v (List.mem_of_getElem? hi), cv, by simpa using hcv, hR.le hle⟩
end
end Go.AX

