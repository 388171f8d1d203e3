/-
  AX: an evaluator for the machine over a heap of plain values: no capacities, no draws. Definitions alone.
-/
import GoSem.Step
namespace Go.AX
noncomputable section

/-- A map keyed by numbers. -/
inductive T (α : Type) where
  | e
  | n (l : T α) (v : Option α) (r : T α)

/-- What is at a place. -/
noncomputable def T.get {α : Type} (t : T α) : Nat → Option α :=
  T.rec (motive := fun _ => Nat → Option α) (fun _ => none)
    (fun _ v _ ihl ihr k => Nat.casesOn (motive := fun _ => Option α) k v fun k => Bool.casesOn (motive := fun _ => Option α) (Nat.beq (Nat.mod k 2) 0) (ihr (Nat.div k 2)) (ihl (Nat.div k 2))) t

noncomputable def T.setF {α : Type} (f : Nat) : T α → Nat → Option α → T α :=
  Nat.rec (motive := fun _ => T α → Nat → Option α → T α) (fun t _ _ => t)
    (fun _ ih t k x => Nat.casesOn (motive := fun _ => T α) k (T.casesOn (motive := fun _ => T α) t (.n .e x .e) fun l _ r => .n l x r) fun k =>
      Bool.casesOn (motive := fun _ => T α) (Nat.beq (Nat.mod k 2) 0)
        (T.casesOn (motive := fun _ => T α) t (.n .e none (ih .e (Nat.div k 2) x)) fun l v r => .n l v (ih r (Nat.div k 2) x))
        (T.casesOn (motive := fun _ => T α) t (.n (ih .e (Nat.div k 2) x) none .e) fun l v r => .n (ih l (Nat.div k 2) x) v r)) f

def T.set {α : Type} (t : T α) (k : Nat) (x : Option α) : T α := T.setF (k + 1) t k x

/-- The list's members from a place on. -/
def T.fill {α : Type} (t : T α) (k : Nat) : List α → T α
  | [] => t
  | x :: l => (t.set k (some x)).fill (k + 1) l

inductive Cap where
  | exact (c : Nat)
  | opn (i : Nat)

inductive AV where
  | bool (b : Bool)
  | int (k : IntKind) (n : Int)
  | str (s : List Nat)
  | nilptr
  | ptr (b o : Nat)
  | nilslice
  | slice0
  | slice (b o len : Nat) (cap : Cap)
  | nilmap
  | map (b : Nat)
  | func (f : FuncId) (first captured : List AV)
  | yield (l : Nat)
  | nilFunc
  | iface (t : TypeId) (v : AV)
  | nilIface
  | agg (cs : List AV)
  | tuple (vs : List AV)

def und : AV := .tuple []

def AV.cells : AV → List AV
  | .agg cs => cs
  | v => [v]

/-- One cell may hold it. -/
def AV.one : AV → Bool
  | .agg _ => false
  | .tuple _ => false
  | _ => true

def allOne : List AV → Bool
  | [] => true
  | v :: l => match v.one with
    | true => allOne l
    | false => false

inductive ADef where
  | call (f : FuncId) (args captured : List AV)
  | collected (r : Nat)

structure ALoop where
  state : LoopState
  pending : Option Code
  fn : FuncId
  nt : Nat
  tm : T AV
  params : List Tmp
  assign : Code
  body : Code
  defers : Nat

/-- Of an array that is one row of elements: how many cells one has (0: it is none), and its elements' type, plus one (0: it is not known). -/
structure EK where
  sz : Nat
  ty : Nat

inductive AObj where
  | cells (n : Nat) (cs : T AV) (esz : EK) (ro : Bool)
  | map (es : List (AV × AV × Nat)) (clock : Nat)
  | strIter (s : List Nat) (pos : Nat)
  | mapIter (m : Option Nat) (since : Nat) (seen : List Nat) (stepped : Nat)
  | loop (l : ALoop)
  | deferred (calls : Option (List ADef))

structure H where
  t : T AObj
  nx : Nat
  /-- The blocks below this one are package-level variables, each at its own number. -/
  g : Nat

structure APanic where
  v : AV
  recovered : Bool

inductive AMode where
  | run
  | returning
  | panicking (chain : List APanic)

inductive AItem where
  | code (c : Code)
  | inBlock (id : Nat)
  | inLoop (body : Code)
  | inScope (body : Code)
  | ops (ops : Array Oper) (l : List Oper)
  | inRangeFunc (l : Nat)
  | endRangeFunc (l : Nat)
  | beginRound

/-- A region whose order is drawn: what is left, which reads are done already, whether it waits for a call. -/
structure Draw where
  ops : Array Oper
  rem : List (Nat × Oper)
  early : List (Nat × Oper × Nat)
  wait : Bool

structure AFrame where
  fn : FuncId
  nt : Nat
  tm : T AV
  todo : List AItem
  defers : List ADef
  mode : AMode
  kind : CallKind
  roundOf : Option Nat
  dr : Option Draw := none

structure S where
  fr : AFrame
  cs : List AFrame
  h : H

/-- What is known of calls: what one hands back, and the heap behind it. -/
structure Hook where
  call : FuncId → List AV → H → Option (AV × H)
  /-- .. of functions that have no body. -/
  ext : FuncId → List AV → H → Option (AV × H)

def noHook : Hook := ⟨fun _ _ _ => none, fun _ _ _ => none⟩

inductive R where
  | val (v : AV) (h : H)
  | skip (h : H)
  | enter (f : FuncId) (args : List AV) (h : H)
  | ext (f : FuncId) (args : List AV) (h : H)
  | round (l : Nat) (args : List AV) (h : H)
  | defer (d : ADef) (h : H)
  | recover (h : H)
  | panic (v : AV) (h : H)
  | fail

/-! ## numbers -/

def wrapF (k : IntKind) (n : Int) : Int :=
  match k with
  | .u8 => Int.emod n 256
  | .u16 => Int.emod n 65536
  | .u32 => Int.emod n 4294967296
  | .u64 => Int.emod n 18446744073709551616
  | .i8 => let m := Int.emod n 256; if m < 128 then m else m - 256
  | .i16 => let m := Int.emod n 65536; if m < 32768 then m else m - 65536
  | .i32 => let m := Int.emod n 4294967296; if m < 2147483648 then m else m - 4294967296
  | .i64 => let m := Int.emod n 18446744073709551616; if m < 9223372036854775808 then m else m - 18446744073709551616

/-- The same value, its number reckoned out. -/
def forceInt {α : Type} (n : Int) (k : Int → α) : α :=
  match n with
  | .ofNat m => match m with
    | 0 => k 0
    | m + 1 => k (.ofNat (m + 1))
  | .negSucc m => match m with
    | 0 => k (.negSucc 0)
    | m + 1 => k (.negSucc (m + 1))

def IntKind.eqB : IntKind → IntKind → Bool
  | .i8, .i8 => true | .i16, .i16 => true | .i32, .i32 => true | .i64, .i64 => true
  | .u8, .u8 => true | .u16, .u16 => true | .u32, .u32 => true | .u64, .u64 => true
  | _, _ => false

def listEqB : List Nat → List Nat → Bool
  | [], [] => true
  | a :: x, b :: y => match Nat.beq a b with
    | true => listEqB x y
    | false => false
  | _, _ => false

def listLtB : List Nat → List Nat → Bool
  | _, [] => false
  | [], _ :: _ => true
  | a :: x, b :: y => match Nat.blt a b with
    | true => true
    | false => match Nat.beq a b with
      | true => listLtB x y
      | false => false

def modF : IntKind → Nat
  | .i8 => 256
  | .u8 => 256
  | .i16 => 65536
  | .u16 => 65536
  | .i32 => 4294967296
  | .u32 => 4294967296
  | .i64 => 18446744073709551616
  | .u64 => 18446744073709551616

/-- A number's bits. -/
def low (k : IntKind) (n : Int) : Nat := (Int.emod n (Int.ofNat (modF k))).toNat

def intB (op : BinOp) (k : IntKind) (a b : Int) : Option AV :=
  match op with
  | .add => some (forceInt (wrapF k (a + b)) (.int k))
  | .sub => some (forceInt (wrapF k (a - b)) (.int k))
  | .mul => some (forceInt (wrapF k (a * b)) (.int k))
  | .quo => bif b == 0 then none else some (forceInt (wrapF k (a.tdiv b)) (.int k))
  | .rem => bif b == 0 then none else some (forceInt (a.tmod b) (.int k))
  | .and => some (forceInt (wrapF k (.ofNat (Nat.land (low k a) (low k b)))) (.int k))
  | .or => some (forceInt (wrapF k (.ofNat (Nat.lor (low k a) (low k b)))) (.int k))
  | .xor => some (forceInt (wrapF k (.ofNat (Nat.xor (low k a) (low k b)))) (.int k))
  | .andNot => some (forceInt (wrapF k (.ofNat (Nat.land (low k a) (modF k - 1 - low k b)))) (.int k))
  | .eql => some (.bool (a == b))
  | .neq => some (.bool (a != b))
  | .lss => some (.bool (decide (a < b)))
  | .leq => some (.bool (decide (a ≤ b)))
  | .gtr => some (.bool (decide (a > b)))
  | .geq => some (.bool (decide (a ≥ b)))
  | _ => none

def shiftB (op : BinOp) (k : IntKind) (a y : Int) : Option AV :=
  match y with
  | .negSucc _ => none
  | .ofNat y =>
    let n := min y k.bits
    match op with
    | .shl => some (forceInt (wrapF k (a * Int.ofNat (2 ^ n))) (.int k))
    | .shr => some (forceInt (a.fdiv (Int.ofNat (2 ^ n))) (.int k))
    | _ => none

def strB (op : BinOp) (x y : List Nat) : Option AV :=
  match op with
  | .add => match Nat.ble (x.length + y.length) 1099511627776 with
    | true => some (.str (x ++ y))
    | false => none
  | .eql => some (.bool (listEqB x y))
  | .neq => some (.bool (!listEqB x y))
  | .lss => some (.bool (listLtB x y))
  | .leq => some (.bool (listLtB x y || listEqB x y))
  | .gtr => some (.bool (!(listLtB x y || listEqB x y)))
  | .geq => some (.bool (!listLtB x y))
  | _ => none

/-! ## constants -/

def bytesOf (s : ByteArray) : List Nat := s.data.toList.map UInt8.toNat

def ofVal1 : Value → Option AV
  | .bool b => some (.bool b)
  | .int k n => some (.int k n)
  | .string s => some (.str (bytesOf s))
  | .pointer none => some .nilptr
  | .slice none 0 0 => some .nilslice
  | .map none => some .nilmap
  | .nilFunc => some .nilFunc
  | .nilIface => some .nilIface
  | _ => none

def ofVals : List Value → Option (List AV)
  | [] => some []
  | v :: l => match ofVal1 v with
    | none => none
    | some x => match ofVals l with
      | none => none
      | some y => some (x :: y)

def ofVal (v : Value) : Option AV :=
  match v with
  | .agg cs => match ofVals cs.toList with
    | some l => some (.agg l)
    | none => none
  | .tuple cs => match cs.toList with
    | [] => some und
    | _ => none
  | v => ofVal1 v

/-! ## memory -/

def H.alloc (h : H) (o : AObj) : H := { h with t := h.t.set h.nx (some o), nx := h.nx + 1 }

def H.newCells (h : H) (t : TypeId) (l : List AV) : H := h.alloc (.cells l.length (T.fill .e 0 l) ⟨0, t + 1⟩ false)

def H.loadCells (cs : T AV) (o : Nat) : Nat → Option (List AV)
  | 0 => some []
  | k + 1 => match cs.get o with
    | none => none
    | some v => match loadCells cs (o + 1) k with
      | none => none
      | some l => some (v :: l)

def H.row (h : H) (b o k : Nat) : Option (List AV) :=
  match h.t.get b with
  | some (.cells _ cs _ _) => H.loadCells cs o k
  | _ => none

/-- Cells that are there are written anew. -/
def H.putCells (cs : T AV) (o : Nat) : List AV → Option (T AV)
  | [] => some cs
  | v :: l => match v.one, cs.get o with
    | true, some _ => putCells (cs.set o (some v)) (o + 1) l
    | _, _ => none

def H.put (h : H) (b o : Nat) (l : List AV) : Option H :=
  match h.t.get b with
  | some (.cells n cs esz false) => match H.putCells cs o l with
    | some cs => some { h with t := h.t.set b (some (.cells n cs esz false)) }
    | none => none
  | _ => none

section
variable (P : Program)

def aggT (t : TypeId) : Bool :=
  match P.underlying t with
  | some (.struct _) => true
  | some (.array _ _) => true
  | _ => false

def okT (t : TypeId) : Bool := (P.underlying t).isSome

def loadV (h : H) (t : TypeId) (b o : Nat) : Option AV :=
  match aggT P t with
  | true => match h.row b o (P.cellsOf t) with
    | some l => some (.agg l)
    | none => none
  | false => match h.t.get b with
    | some (.cells _ cs _ _) => cs.get o
    | _ => none

def storeV (h : H) (t : TypeId) (b o : Nat) (v : AV) : Option H :=
  match Nat.beq v.cells.length (P.cellsOf t) with
  | true => h.put b o v.cells
  | false => none

def zeroA (t : TypeId) : Option AV :=
  match P.info? t with
  | some i => match i.zero with
    | some v => match ofVal v with
      | some (.tuple _) => none
      | r => r
    | none => none
  | none => none

def partA (t : TypeId) (cs : List AV) (off : Nat) : Option AV :=
  match aggT P t with
  | true => some (.agg ((cs.drop off).take (P.cellsOf t)))
  | false => cs[off]?

/-- A list with some members in the place of others. -/
def splice (cs : List AV) (off : Nat) (new : List AV) : List AV := cs.take off ++ new ++ cs.drop (off + new.length)

def fillA (place : Nat → Option (Nat × Nat)) (cells : List AV) : List (Nat × AV) → Option (List AV)
  | [] => some cells
  | (i, v) :: rest => match place i with
    | none => none
    | some (off, size) => match Nat.beq v.cells.length size && Nat.ble (off + v.cells.length) cells.length with
      | true => fillA place (splice cells off v.cells) rest
      | false => none

def repl (l : List AV) : Nat → List AV
  | 0 => []
  | n + 1 => l ++ repl l n

/-! ## equality -/

def eqFields (eq : TypeId → AV → AV → Option Bool) (xs ys : List AV) : List Field → Option Bool
  | [] => some true
  | f :: fs => match f.name == "_" with
    | true => none
    | false => match partA P f.type xs f.offset, partA P f.type ys f.offset with
      | some x, some y => match eq f.type x y with
        | some true => eqFields eq xs ys fs
        | some false => some false
        | none => none
      | _, _ => none

def eqA : Nat → TypeId → AV → AV → Option Bool
  | 0, _, _, _ => none
  | d + 1, t, x, y =>
    match P.underlying t, x, y with
    | some .bool, .bool a, .bool b => some (a == b)
    | some (.int _), .int k a, .int k' b => match IntKind.eqB k k' with | true => some (a == b) | false => none
    | some .string, .str a, .str b => some (listEqB a b)
    | some (.pointer _), .nilptr, .nilptr => some true
    | some (.pointer e), .ptr b o, .ptr c p => match Nat.beq b c, Nat.beq o p with
      | true, true => match okT P e with
        | true => some true
        | false => none
      | true, false => match okT P e && Nat.ble 1 (P.cellsOf e) with
        | true => some false
        | false => none
      | _, _ => none
    | some (.pointer _), .nilptr, .ptr _ _ => some false
    | some (.pointer _), .ptr _ _, .nilptr => some false
    | some (.interface _), .nilIface, .nilIface => some true
    | some (.interface _), .nilIface, .iface _ _ => some false
    | some (.interface _), .iface _ _, .nilIface => some false
    | some (.interface _), .iface tx vx, .iface ty vy => match Nat.beq tx ty with
      | false => some false
      | true => match P.info? tx with
        | some i => match i.comparable with
          | true => eqA d tx vx vy
          | false => none
        | none => none
    | some (.struct fields), .agg xs, .agg ys => match P.stoodInHeld t with
      | true => none
      | false => eqFields P (eqA d) xs ys fields.toList
    | some (.slice _), .nilslice, .nilslice => some true
    | some (.slice _), .nilslice, .slice _ _ _ _ => some false
    | some (.slice _), .slice _ _ _ _, .nilslice => some false
    | some (.slice _), .nilslice, .slice0 => some false
    | some (.slice _), .slice0, .nilslice => some false
    | some (.map _ _), .nilmap, .nilmap => some true
    | some (.map _ _), .nilmap, .map _ => some false
    | some (.map _ _), .map _, .nilmap => some false
    | some (.func _ _ _), .nilFunc, .nilFunc => some true
    | some (.func _ _ _), .nilFunc, .func _ _ _ => some false
    | some (.func _ _ _), .func _ _ _, .nilFunc => some false
    | _, _, _ => none

def isConstB : Operand → Bool
  | .const _ => true
  | _ => false

def guardEq (t : TypeId) (x y : Operand) (a b : AV) : Bool :=
  match a, b with
  | .nilIface, .nilIface => isConstB x || isConstB y
  | .agg _, .agg _ => !P.eqGuardType P.depth t
  | _, _ => true

def binA (op : BinOp) (t : TypeId) (x y : Operand) (a b : AV) : Option AV :=
  match a, b with
  | .int k m, .int k' n => match op with
    | .shl => shiftB .shl k m n
    | .shr => shiftB .shr k m n
    | op => match IntKind.eqB k k' with
      | true => intB op k m n
      | false => none
  | .str s, .str u => strB op s u
  | a, b => match op with
    | .eql => match guardEq P t x y a b with
      | true => match eqA P 12 t a b with
        | some r => some (.bool r)
        | none => none
      | false => none
    | .neq => match guardEq P t x y a b with
      | true => match eqA P 12 t a b with
        | some r => some (.bool !r)
        | none => none
      | false => none
    | _ => none

def allBits : IntKind → Int
  | .u8 => 255
  | .u16 => 65535
  | .u32 => 4294967295
  | .u64 => 18446744073709551615
  | _ => -1

def unA (op : UnOp) (x : AV) : Option AV :=
  match op, x with
  | .neg, .int k n => some (forceInt (wrapF k (0 - n)) (.int k))
  | .xor, .int k n => intB .xor k (allBits k) n
  | .not, .bool b => some (.bool !b)
  | _, _ => none

/-! ## slices -/

def bnd (x : AV) (hi : Nat) : Option Nat :=
  match x with
  | .int _ (.ofNat i) => match Nat.ble i hi with
    | true => some i
    | false => none
  | _ => none

def bndO (x : Option AV) (hi dflt : Nat) : Option Nat :=
  match x with
  | some v => bnd v hi
  | none => some dflt

def sliceStr (s : List Nat) (lo hi : Option AV) : Option AV :=
  match bndO hi s.length s.length with
  | none => none
  | some h => match bndO lo h 0 with
    | none => none
    | some l => some (.str ((s.take h).drop l))

/-- An exact capacity. -/
def sliceEx (b o len c size : Nat) (lo hi mx : Option AV) : Option AV :=
  match mx.isSome && hi.isNone with
  | true => none
  | false => match bndO mx c c with
  | none => none
  | some m => match bndO hi m len with
    | none => none
    | some h => match bndO lo h 0 with
      | none => none
      | some l => match Nat.beq m l with
        | true => some (.slice b o (h - l) (.exact (m - l)))
        | false => some (.slice b (o + l * size) (h - l) (.exact (m - l)))

/-- A capacity that is not known: bounds are held to the length; what is cut to nothing has no place. -/
def sliceOp (b o len i size : Nat) (lo hi mx : Option AV) : Option AV :=
  match mx with
  | some mx => match bnd mx len, hi with
    | some m, some hi => match bnd hi m with
      | none => none
      | some h => match bndO lo h 0 with
        | none => none
        | some l => match Nat.beq m l with
          | true => some (.slice b o (h - l) (.exact (m - l)))
          | false => some (.slice b (o + l * size) (h - l) (.exact (m - l)))
    | _, _ => none
  | none => match bndO hi len len with
    | none => none
    | some h => match bndO lo h 0 with
      | none => none
      | some l => match Nat.beq l 0 with
        | true => some (.slice b o h (.opn i))
        | false => match Nat.ble (l + 1) len with
          | true => some (.slice b (o + l * size) (h - l) (.opn (i + l)))
          | false => some .slice0

def sliceA (t : TypeId) (x : AV) (lo hi mx : Option AV) : Option AV :=
  match P.underlying t, x with
  | some .string, .str s => match mx with
    | none => sliceStr s lo hi
    | some _ => none
  | some (.slice e), .nilslice => match okT P e, sliceEx 0 0 0 0 0 lo hi mx with
    | true, some _ => some .nilslice
    | _, _ => none
  | some (.slice e), .slice0 => match okT P e, mx, bndO hi 0 0, bndO lo 0 0 with
    | true, none, some _, some _ => some .slice0
    | _, _, _, _ => none
  | some (.slice e), .slice b o len (.exact c) => match okT P e with
    | true => sliceEx b o len c (P.cellsOf e) lo hi mx
    | false => none
  | some (.slice e), .slice b o len (.opn i) => match okT P e with
    | true => sliceOp b o len i (P.cellsOf e) lo hi mx
    | false => none
  | some (.array n e), .ptr b o => match okT P e with
    | true => sliceEx b o n n (P.cellsOf e) lo hi mx
    | false => none
  | some (.pointer a), .ptr b o => match P.underlying a with
    | some (.array n e) => match okT P e with
      | true => sliceEx b o n n (P.cellsOf e) lo hi mx
      | false => none
    | _ => none
  | _, _ => none

/-! ## the built-in functions -/

def lenA (t : TypeId) (x : AV) (h : H) : Option Nat :=
  match P.underlying t, x with
  | some .string, .str s => some s.length
  | some (.array n _), _ => some n
  | some (.pointer a), _ => match P.underlying a with
    | some (.array n _) => some n
    | _ => none
  | some (.slice _), .nilslice => some 0
  | some (.slice _), .slice0 => some 0
  | some (.slice _), .slice _ _ len _ => some len
  | some (.map _ _), .nilmap => some 0
  | some (.map _ _), .map r => match h.t.get r with
    | some (.map es _) => some es.length
    | _ => none
  | _, _ => none

def capA (t : TypeId) (x : AV) : Option Nat :=
  match P.underlying t, x with
  | some (.array n _), _ => some n
  | some (.slice _), .nilslice => some 0
  | some (.slice _), .slice _ _ _ (.exact c) => some c
  | _, _ => none

/-- The cells of a source's first n elements. -/
def srcA (h : H) (size n : Nat) : AV → Option (List AV)
  | .nilslice => some []
  | .slice0 => some []
  | .slice b o _ _ => h.row b o (n * size)
  | .str s => some ((s.take n).map fun b => .int .u8 (Int.ofNat b))
  | _ => none

def lenOfA : AV → Option Nat
  | .nilslice => some 0
  | .slice0 => some 0
  | .slice _ _ n _ => some n
  | .str s => some s.length
  | _ => none

def small (n : Nat) : Bool := Nat.ble n 4194304

/-- A row that may be longer than is known, laid anew; an old one that it may lie over is gone. -/
def H.grown (h : H) (old : Option Nat) (esz : EK) (l : List AV) : H :=
  let t := match old with
    | some b => h.t.set b none
    | none => h.t
  { h with t := t.set h.nx (some (.cells l.length (T.fill .e 0 l) esz false)), nx := h.nx + 1 }

/-- An array that was grown, here or elsewhere. -/
def keepK (k : EK) (size : Nat) (elem : TypeId) : EK :=
  match Nat.beq k.ty (elem + 1) with
  | true => ⟨size, elem + 1⟩
  | false => ⟨size, 0⟩

/-- What is appended is known: n elements, these cells. -/
def appendN (elem : TypeId) (size : Nat) (s : AV) (n : Nat) (new : List AV) (h : H) : R :=
  match Nat.beq new.length (n * size) with
   | false => .fail
   | true => match s with
    | .nilslice => match n with
      | 0 => .val .nilslice h
      | _ => match small n with
        | true => .val (.slice h.nx 0 n (.opn 0)) (h.grown none ⟨size, elem + 1⟩ new)
        | false => .fail
    | .slice0 => match n with
      | 0 => .val .slice0 h
      | _ => .fail
    | .slice b o len (.exact c) => match Nat.ble (len + n) c with
      | true => match h.put b (o + len * size) new with
        | some h => .val (.slice b o (len + n) (.exact c)) h
        | none => .fail
      | false => match small (len + n), h.row b o (len * size) with
        | true, some old => .val (.slice h.nx 0 (len + n) (.opn 0)) (h.grown none ⟨size, elem + 1⟩ (old ++ new))
        | _, _ => .fail
    | .slice b o len (.opn i) => match n with
      | 0 => .val s h
      | _ => match h.t.get b, Nat.beq o (i * size) with
        | some (.cells e cs esz false), true => match Nat.beq esz.sz size with
         | false => .fail
         | true => match Nat.ble (o + (len + n) * size) e with
          | true => match h.put b (o + len * size) new with
            | some h => .val (.slice b o (len + n) (.opn i)) h
            | none => .fail
          | false => match small (len + n), H.loadCells cs o (len * size) with
            | true, some old => .val (.slice h.nx 0 (len + n) (.opn 0)) (h.grown (some b) (keepK esz size elem) (old ++ new))
            | _, _ => .fail
        | _, _ => .fail
    | _ => .fail

def appendOk (elem : TypeId) (info : TypeInfo) : Bool :=
  small (info.bytes + 1) && okT P elem && !(Nat.beq info.bytes 0 || Nat.beq info.size 0 || !(match info.zero with | some z => Nat.beq z.cells.size info.size | none => false))

def appendA (elem : TypeId) (s x : AV) (h : H) : R :=
  match P.info? elem with
  | none => .fail
  | some info => match lenOfA x, appendOk P elem info with
    | some n, true => match srcA h info.size n x with
      | none => .fail
      | some new => appendN elem info.size s n new h
    | _, _ => .fail

/-- So many elements of nothing are appended. -/
def appendZ (elem : TypeId) (s x : AV) (h : H) : R :=
  match P.info? elem, x with
  | some info, .int _ (.ofNat n) => match zeroA P elem, appendOk P elem info && small n with
    | some z, true => appendN elem info.size s n (repl z.cells n) h
    | _, _ => .fail
  | _, _ => .fail

def copyA (elem : TypeId) (d x : AV) (h : H) : R :=
  match lenOfA d, lenOfA x with
  | some dl, some n =>
    let n := Nat.min n dl
    match srcA h (P.cellsOf elem) n x with
    | none => .fail
    | some l => match okT P elem, d with
      | true, .nilslice => .val (.int .i64 (Int.ofNat n)) h
      | true, .slice0 => .val (.int .i64 (Int.ofNat n)) h
      | true, .slice b o _ _ => match h.put b o l with
        | some h => .val (.int .i64 (Int.ofNat n)) h
        | none => .fail
      | _, _ => .fail
  | _, _ => .fail

/-! ## maps -/

/-- Keys of kinds that are compared at once. -/
def keyEq (t : TypeId) (a b : AV) : Option Bool := eqA P 4 t a b

def keyFields (kv : TypeId → AV → Bool) (cs : List AV) : List Field → Bool
  | [] => true
  | f :: fs => match f.name == "_", okT P f.type, partA P f.type cs f.offset with
    | false, true, some v => match kv f.type v with
      | true => keyFields kv cs fs
      | false => false
    | _, _, _ => false

/-- A key that may be one. -/
def keyV : Nat → TypeId → AV → Bool
  | 0, _, _ => false
  | d + 1, t, k => match P.underlying t, k with
    | some (.int _), .int _ _ => true
    | some .string, .str _ => true
    | some .bool, .bool _ => true
    | some (.struct fs), .agg cs => keyFields P (keyV d) cs fs.toList
    | _, _ => false

/-- The same numbers, texts. -/
def same1 : AV → AV → Bool
  | .bool a, .bool b => a == b
  | .int j a, .int k b => IntKind.eqB j k && a == b
  | .str a, .str b => listEqB a b
  | _, _ => false

def sames : List AV → List AV → Bool
  | [], [] => true
  | a :: l, b :: r => same1 a b && sames l r
  | _, _ => false

def sameV : AV → AV → Bool
  | .agg a, .agg b => sames a b
  | a, b => same1 a b

def findA (t : TypeId) (k : AV) : List (AV × AV × Nat) → Nat → Option (Option (Nat × AV))
  | [], _ => some none
  | e :: es, i => match keyEq P t k e.1 with
    | some true => some (some (i, e.2.1))
    | some false => findA t k es (i + 1)
    | none => none

def lookupA (t : TypeId) (x k : AV) (ok : Bool) (h : H) : Option AV :=
  match P.underlying t with
  | some (.map kt elem) => match keyV P 4 kt k with
    | false => none
    | true =>
      let es : Option (List (AV × AV × Nat)) := match x with
        | .nilmap => some []
        | .map r => match h.t.get r with
          | some (.map es _) => some es
          | _ => none
        | _ => none
      match es with
      | none => none
      | some es => match findA P kt k es 0 with
        | none => none
        | some (some (_, v)) => some (match ok with | true => .tuple [v, .bool true] | false => v)
        | some none => match zeroA P elem with
          | some z => some (match ok with | true => .tuple [z, .bool false] | false => z)
          | none => none
  | _ => none

def setVal (v : AV) : List (AV × AV × Nat) → Nat → List (AV × AV × Nat)
  | [], _ => []
  | e :: es, 0 => (e.1, v, e.2.2) :: es
  | e :: es, i + 1 => e :: setVal v es i

def sameAt (k : AV) (es : List (AV × AV × Nat)) (i : Nat) : Bool :=
  match es[i]? with
  | some e => sameV e.1 k
  | none => false

def updateA (t : TypeId) (x k v : AV) (h : H) : Option H :=
  match P.underlying t, x with
  | some (.map kt _), .map r => match keyV P 4 kt k, h.t.get r with
    | true, some (.map es clock) => match findA P kt k es 0 with
      | none => none
      | some (some (i, _)) => match sameAt k es i with
        | true => some { h with t := h.t.set r (some (.map (setVal v es i) clock)) }
        | false => none
      | some none => some { h with t := h.t.set r (some (.map (es ++ [(k, v, clock)]) (clock + 1))) }
    | _, _ => none
  | _, _ => none

def deleteA (t : TypeId) (x k : AV) (h : H) : Option H :=
  match P.underlying t, x with
  | some (.map kt _), .nilmap => match keyV P 4 kt k with
    | true => some h
    | false => none
  | some (.map kt _), .map r => match keyV P 4 kt k, h.t.get r with
    | true, some (.map es clock) => match findA P kt k es 0 with
      | none => none
      | some (some (i, _)) => some { h with t := h.t.set r (some (.map (es.eraseIdx i) clock)) }
      | some none => some h
    | _, _ => none
  | _, _ => none

def mapEntryA (t : TypeId) (x k : AV) (h : H) : R :=
  match P.underlying t, x with
  | some (.map kt elem), .map r => match keyV P 4 kt k, h.t.get r with
    | true, some (.map es clock) => match findA P kt k es 0 with
      | none => .fail
      | some (some (i, v)) => match es[i]?, sameAt k es i with
        | some e, true => .val (.tuple [v, .int .i64 (Int.ofNat e.2.2)]) h
        | _, _ => .fail
      | some none => match zeroA P elem with
        | some z => .val (.tuple [z, .int .i64 (Int.ofNat clock)]) { h with t := h.t.set r (some (.map (es ++ [(k, z, clock)]) (clock + 1))) }
        | none => .fail
    | _, _ => .fail
  | _, _ => .fail

def findBorn (born : Int) : List (AV × AV × Nat) → Nat → Option Nat
  | [], _ => none
  | e :: es, i => match (Int.ofNat e.2.2 == born) with
    | true => some i
    | false => findBorn born es (i + 1)

def entryStoreA (x stamp v : AV) (h : H) : Option H :=
  match x, stamp with
  | .map r, .int _ born => match h.t.get r with
    | some (.map es clock) => match findBorn born es 0 with
      | some i => some { h with t := h.t.set r (some (.map (setVal v es i) clock)) }
      | none => none
    | _ => none
  | _, _ => none

def rangeA (t : TypeId) (x : AV) (h : H) : R :=
  match P.underlying t, x with
  | some .string, .str s => .val (.ptr h.nx 0) (h.alloc (.strIter s 0))
  | some (.map _ _), .nilmap => .val (.ptr h.nx 0) (h.alloc (.mapIter none 0 [] 0))
  | some (.map _ _), .map m => match h.t.get m with
    | some (.map _ clock) => .val (.ptr h.nx 0) (h.alloc (.mapIter (some m) clock [] clock))
    | _ => .fail
  | _, _ => .fail

def notIn (l : List Nat) (x : Nat) : Bool := match l with
  | [] => true
  | y :: l => match Nat.beq x y with
    | true => false
    | false => notIn l x

def nextA (x : AV) (isString : Bool) (h : H) : R :=
  match x with
  | .ptr r 0 => match h.t.get r, isString with
    | some (.strIter s pos), true => match s[pos]? with
      | some b => match Nat.blt b 128 with
        | true => .val (.tuple [.bool true, .int .i64 (Int.ofNat pos), .int .i32 (Int.ofNat b)]) { h with t := h.t.set r (some (.strIter s (pos + 1))) }
        | false => .fail
      | none => .val (.tuple [.bool false]) h
    | some (.mapIter none _ _ _), false => .val (.tuple [.bool false]) h
    | some (.mapIter (some m) since seen last), false => match h.t.get m with
      | some (.map es clock) =>
        match !seen.isEmpty && !es.isEmpty && es.all (fun e => Nat.ble last e.2.2) with
        | true => .fail
        | false => match es.filter (fun e => notIn seen e.2.2) with
          | [] => .val (.tuple [.bool false]) h
          | [e] => match Nat.blt e.2.2 since with
            | true => .val (.tuple [.bool true, e.1, e.2.1]) { h with t := h.t.set r (some (.mapIter (some m) since (seen ++ [e.2.2]) clock)) }
            | false => .fail
          | _ => .fail
      | _ => .fail
    | _, _ => .fail
  | _ => .fail

def lastOf : List Nat → Option Nat
  | [] => none
  | x :: l => match l with
    | [] => some x
    | _ :: _ => lastOf l

def findStamp (b : Nat) : List (AV × AV × Nat) → Option AV
  | [] => none
  | e :: es => match Nat.beq e.2.2 b with
    | true => some (.tuple [e.1, e.2.1])
    | false => findStamp b es

/-- The entry that a range over a map stands at. -/
def entryA (x : AV) (h : H) : Option AV :=
  match x with
  | .ptr r 0 => match h.t.get r with
    | some (.mapIter (some m) _ seen stepped) => match lastOf seen, h.t.get m with
      | some stamp, some (.map es clock) => match Nat.beq clock stepped with
        | true => findStamp stamp es
        | false => none
      | _, _ => none
    | _ => none
  | _ => none

/-! ## one operation -/

def evalA (tm : T AV) : Operand → Option AV
  | .tmp t => match tm.get t with
    | some v => some v
    | none => some und
  | .const v => ofVal v
  | .global _ => none
  | .func f => some (.func f [] [])

/-- An operand that may be a variable's place. -/
def evalG (tm : T AV) (h : H) (x : Operand) : Option AV :=
  match x with
  | .global g => match Nat.blt g h.g with
    | true => some (.ptr g 0)
    | false => none
  | x => evalA tm x

def evalsA (tm : T AV) : List Operand → Option (List AV)
  | [] => some []
  | x :: l => match evalA tm x with
    | none => none
    | some v => match evalsA tm l with
      | none => none
      | some vs => some (v :: vs)

def evalP (tm : T AV) : List (Nat × Operand) → Option (List (Nat × AV))
  | [] => some []
  | (i, x) :: l => match evalA tm x with
    | none => none
    | some v => match evalP tm l with
      | none => none
      | some vs => some ((i, v) :: vs)

def evalO (tm : T AV) : Option Operand → Option (Option AV)
  | none => some none
  | some x => match evalA tm x with
    | none => none
    | some v => some (some v)

def enterOk (f : FuncId) : Bool :=
  match P.funcs[f]? with
  | some fn => fn.body.isSome && !(fn.name == "runtime.NumGoroutine")
  | none => false

def callV (f : AV) (args : List AV) (h : H) : R :=
  match f with
  | .func f first captured => match enterOk P f with
    | true => .enter f (first ++ args ++ captured) h
    | false => .ext f (first ++ args ++ captured) h
  | .yield l => .round l args h
  | _ => .fail

def optV (h : H) : Option AV → R
  | some v => .val v h
  | none => .fail

def optH : Option H → R
  | some h => .skip h
  | none => .fail

/-- A field's first cell, and how many it has. -/
def placeOf (fields : List Field) (i : Nat) : Option (Nat × Nat) :=
  match fields[i]? with
  | some f => some (f.offset, P.cellsOf f.type)
  | none => none

def buildA (t : TypeId) (parts : List (Nat × AV)) : Option AV :=
  match zeroA P t, P.underlying t with
  | some z, some (.struct fields) =>
    match fields.toList.all (fun f => okT P f.type) with
    | false => none
    | true => match fillA (placeOf P fields.toList) z.cells parts with
    | some l => some (.agg l)
    | none => none
  | some z, some (.array _ elem) =>
    let size := P.cellsOf elem
    match okT P elem with
    | false => none
    | true => match fillA (fun i => some (i * size, size)) z.cells parts with
    | some l => some (.agg l)
    | none => none
  | _, _ => none

def buildSliceA (t : TypeId) (len : Nat) (parts : List (Nat × AV)) (h : H) : R :=
  match P.underlying t with
  | some (.slice elem) =>
    let size := P.cellsOf elem
    match okT P elem, small (len * size), zeroA P elem with
    | true, true, some z => match Nat.beq z.cells.length size, fillA (fun i => some (i * size, size)) (repl z.cells len) parts with
      | true, some l => match allOne l with
        | true => .val (.slice h.nx 0 len (.exact len)) (h.newCells elem l)
        | false => .fail
      | _, _ => .fail
    | _, _, _ => .fail
  | _ => .fail

def makeSliceA (t : TypeId) (len cap : AV) (h : H) : R :=
  match P.underlying t, len, cap with
  | some (.slice elem), .int _ (.ofNat l), .int _ (.ofNat c) => match P.info? elem, zeroA P elem, Nat.ble l c && small c with
    | some info, some z, true => match okT P elem && small info.bytes && Nat.beq z.cells.length info.size && Nat.ble 1 info.size with
      | true => .val (.slice h.nx 0 l (.exact c)) (h.newCells elem (repl z.cells c))
      | false => .fail
    | _, _, _ => .fail
  | _, _, _ => .fail

def fieldAddrA (t : TypeId) (x : AV) (i : Nat) : Option AV :=
  match P.underlying t, x with
  | some (.struct fields), .ptr b o => match fields.toList[i]? with
    | some f => match Nat.beq (P.cellsOf f.type) 0 with
      | true => none
      | false => some (.ptr b (o + f.offset))
    | none => none
  | _, _ => none

def fieldA (t : TypeId) (x : AV) (i : Nat) : Option AV :=
  match P.underlying t, x with
  | some (.struct fields), .agg cs => match fields.toList[i]? with
    | some f => match okT P f.type with
      | true => partA P f.type cs f.offset
      | false => none
    | none => none
  | _, _ => none

def indexAddrA (t : TypeId) (x ix : AV) : Option AV :=
  match ix with
  | .int _ (.ofNat i) => match P.underlying t, x with
    | some (.array len e), .ptr b o => match Nat.blt i len && okT P e with
      | true => some (.ptr b (o + i * P.cellsOf e))
      | false => none
    | some (.slice e), .slice b o len _ => match Nat.blt i len && okT P e with
      | true => some (.ptr b (o + i * P.cellsOf e))
      | false => none
    | _, _ => none
  | _ => none

def indexA (t : TypeId) (x ix : AV) : Option AV :=
  match ix with
  | .int _ (.ofNat i) => match P.underlying t, x with
    | some (.array len e), .agg cs => match Nat.blt i len && okT P e with
      | true => partA P e cs (i * P.cellsOf e)
      | false => none
    | some .string, .str s => match s[i]? with
      | some b => some (.int .u8 (Int.ofNat b))
      | none => none
    | _, _ => none
  | _ => none

def bytesA : List AV → Option (List Nat)
  | [] => some []
  | .int .u8 (.ofNat n) :: l => match bytesA l with
    | some s => some (n % 256 :: s)
    | none => none
  | _ => none

def convertA (src dst : TypeId) (x : AV) (h : H) : R :=
  match P.underlying src, P.underlying dst, x with
  | some _, some (.int k), .int _ n => .val (forceInt (wrapF k n) (.int k)) h
  | some _, some .string, .str s => .val (.str s) h
  | some _, some (.slice e), .str s => match P.underlying e, small s.length with
    | some (.int .u8), true => .val (.slice h.nx 0 s.length (.opn 0)) (h.grown none ⟨1, e + 1⟩ (s.map fun b => .int .u8 (Int.ofNat b)))
    | _, _ => .fail
  | some (.slice e), some .string, .nilslice => match P.underlying e with
    | some (.int .u8) => .val (.str []) h
    | _ => .fail
  | some (.slice e), some .string, .slice0 => match P.underlying e with
    | some (.int .u8) => .val (.str []) h
    | _ => .fail
  | some (.slice e), some .string, .slice b o len _ => match P.underlying e with
    | some (.int .u8) => match h.row b o len with
      | some l => match bytesA l with
        | some s => .val (.str s) h
        | none => .fail
      | none => .fail
    | _ => .fail
  | _, _, _ => .fail

def toUnsafeA (t : TypeId) (x : AV) (h : H) : R :=
  match x with
  | .nilptr => .val .nilptr h
  | .ptr b o => match h.t.get b with
    | some (.cells n _ _ _) => match Nat.blt o n && okT P t && Nat.ble 1 (P.cellsOf t) with
      | true => .val (.ptr b o) h
      | false => .fail
    | _ => .fail
  | _ => .fail

def fromUnsafeA (u : TypeId) (x : AV) (h : H) : R :=
  match x with
  | .nilptr => .val .nilptr h
  | .ptr b 0 => match h.t.get b with
    | some (.cells n _ ⟨0, ty⟩ _) => match Nat.beq ty (u + 1) && okT P u && Nat.ble 1 (P.cellsOf u) && Nat.ble (P.cellsOf u) n with
      | true => .val (.ptr b 0) h
      | false => .fail
    | _ => .fail
  | _ => .fail

def sliceDataA (x : AV) : Option AV :=
  match x with
  | .nilslice => some .nilptr
  | .slice b o len c => match c with
    | .exact c => match Nat.beq c 0 with
      | true => none
      | false => some (.ptr b o)
    | .opn _ => match Nat.beq len 0 with
      | true => none
      | false => some (.ptr b o)
  | _ => none

def unsafeStrA (pt : TypeId) (p : AV) (n : Nat) (h : H) : R :=
  match n with
  | 0 => match p with
    | .nilptr => .val (.str []) h
    | .ptr _ _ => .val (.str []) h
    | _ => .fail
  | n + 1 => match p, P.underlying pt with
    | .ptr b o, some (.pointer e) => match h.t.get b with
      | some (.cells m cs esz false) => match Nat.beq esz.ty (e + 1) && Nat.beq (P.cellsOf e) 1 && okT P e && small (n + 1), H.loadCells cs o (n + 1) with
        | true, some l => match bytesA l with
          | some s => .val (.str s) { h with t := h.t.set b (some (.cells m cs esz true)) }
          | none => .fail
        | _, _ => .fail
      | _ => .fail
    | _, _ => .fail

def minI (x y : Int) : Int := match Int.decLt y x with | isTrue _ => y | isFalse _ => x

def builtinA (b : Builtin) (argTypes : List TypeId) (args : List AV) (h : H) : R :=
  match b, argTypes, args with
  | .len, t :: _, x :: _ => match lenA P t x h with
    | some n => .val (.int .i64 (Int.ofNat n)) h
    | none => .fail
  | .cap, t :: _, x :: _ => match capA P t x with
    | some n => .val (.int .i64 (Int.ofNat n)) h
    | none => .fail
  | .append, t :: u :: _, s :: x :: _ => match P.underlying t, P.underlying u with
    | some (.slice e), some (.int _) => appendZ P e s x h
    | some (.slice e), some _ => appendA P e s x h
    | _, _ => .fail
  | .copy, t :: _, d :: x :: _ => match P.underlying t with
    | some (.slice e) => copyA P e d x h
    | _ => .fail
  | .delete, t :: _, m :: k :: _ => match deleteA P t m k h with
    | some h => .val und h
    | none => .fail
  | .max, _, [.int k x, .int _ y] => .val (.int k (match Int.decLt x y with | isTrue _ => y | isFalse _ => x)) h
  | .min, _, [.int k x, .int _ y] => .val (.int k (match Int.decLt y x with | isTrue _ => y | isFalse _ => x)) h
  | .min, _, [.int k x, .int _ y, .int _ z] => .val (.int k (minI (minI x y) z)) h
  | .recover, _, [] => .recover h
  | .panic, _, [.iface t v] => .panic (.iface t v) h
  | .unsafeSliceData, _, [x] => optV h (sliceDataA x)
  | .unsafeString, pt :: _, [p, .int .i64 (.ofNat n)] => unsafeStrA P pt p n h
  | _, _, _ => .fail

def execA (tm : T AV) (h : H) (o : Op) : R :=
  match o with
  | .move x => optV h (evalA tm x)
  | .assign x => optV h (evalA tm x)
  | .pick c a b => match evalA tm c with
    | some (.bool true) => optV h (evalA tm a)
    | some (.bool false) => optV h (evalA tm b)
    | _ => .fail
  | .alloc t => match zeroA P t with
    | some z => .val (.ptr h.nx 0) (h.newCells t z.cells)
    | none => .fail
  | .box t x => match evalA tm x with
    | some v => match allOne v.cells with
      | true => .val (.ptr h.nx 0) (h.newCells t v.cells)
      | false => .fail
    | none => .fail
  | .build t parts => match evalP tm parts.toList with
    | some l => optV h (buildA P t l)
    | none => .fail
  | .buildSlice t len parts => match evalP tm parts.toList with
    | some l => buildSliceA P t len l h
    | none => .fail
  | .load t x => match okT P t, evalG tm h x with
    | true, some (.ptr b o) => optV h (loadV P h t b o)
    | _, _ => .fail
  | .store t x y => match okT P t, evalA tm x, evalA tm y with
    | true, some (.ptr b o), some v => optH (storeV P h t b o v)
    | _, _, _ => .fail
  | .nilCheck x => match evalA tm x with
    | some .nilptr => .fail
    | some .nilIface => .fail
    | some .nilFunc => .fail
    | some v => .val v h
    | none => .fail
  | .binOp op t x y _ => match evalA tm x, evalA tm y with
    | some a, some b => optV h (binA P op t x y a b)
    | _, _ => .fail
  | .unOp op _ x => match evalA tm x with
    | some v => optV h (unA op v)
    | none => .fail
  | .convert src dst x => match evalA tm x with
    | some v => match P.underlying src, P.underlying dst with
      | some (.pointer t), some .unsafePointer => toUnsafeA P t v h
      | some .unsafePointer, some (.pointer u) => fromUnsafeA P u v h
      | _, _ => convertA P src dst v h
    | none => .fail
  | .makeInterface t x => match P.underlying t, evalA tm x with
    | some (.interface _), _ => .fail
    | some _, some v => .val (.iface t v) h
    | _, _ => .fail
  | .makeFunc (.func f) first captured => match evalsA tm first.toList, evalsA tm captured.toList with
    | some a, some b => .val (.func f a b) h
    | _, _ => .fail
  | .makeMap t r => match P.underlying t, evalO tm r with
    | some (.map _ _), some none => .val (.map h.nx) (h.alloc (.map [] 0))
    | some (.map _ _), some (some (.int _ _)) => .val (.map h.nx) (h.alloc (.map [] 0))
    | _, _ => .fail
  | .makeSlice t l c => match evalA tm l, evalA tm c with
    | some l, some c => makeSliceA P t l c h
    | _, _ => .fail
  | .slice t x lo hi mx => match evalA tm x, evalO tm lo, evalO tm hi, evalO tm mx with
    | some x, some lo, some hi, some mx => optV h (sliceA P t x lo hi mx)
    | _, _, _, _ => .fail
  | .fieldAddr t x i => match evalG tm h x with
    | some v => optV h (fieldAddrA P t v i)
    | none => .fail
  | .field t x i => match evalA tm x with
    | some v => optV h (fieldA P t v i)
    | none => .fail
  | .indexAddr t x i => match evalG tm h x, evalA tm i with
    | some x, some i => optV h (indexAddrA P t x i)
    | _, _ => .fail
  | .index t x i => match evalA tm x, evalA tm i with
    | some x, some i => optV h (indexA P t x i)
    | _, _ => .fail
  | .lookup t x i ok => match evalA tm x, evalA tm i with
    | some x, some i => optV h (lookupA P t x i ok h)
    | _, _ => .fail
  | .mapUpdate t m k x => match evalA tm m, evalA tm k, evalA tm x with
    | some m, some k, some x => optH (updateA P t m k x h)
    | _, _, _ => .fail
  | .insert t m k x => match evalA tm m, evalA tm k, evalA tm x with
    | some m, some k, some x => optH (updateA P t m k x h)
    | _, _, _ => .fail
  | .mapEntry t m k => match evalA tm m, evalA tm k with
    | some m, some k => mapEntryA P t m k h
    | _, _ => .fail
  | .entryStore _ m s x => match evalA tm m, evalA tm s, evalA tm x with
    | some m, some s, some x => optH (entryStoreA m s x h)
    | _, _, _ => .fail
  | .range t x => match evalA tm x with
    | some v => rangeA P t v h
    | none => .fail
  | .next x s => match evalA tm x with
    | some v => nextA v s h
    | none => .fail
  | .entry x => match evalA tm x with
    | some v => optV h (entryA v h)
    | none => .fail
  | .extract x i => match evalA tm x with
    | some (.tuple vs) => optV h vs[i]?
    | _ => .fail
  | .call { callee, args, argTypes } => match evalsA tm args.toList with
    | none => .fail
    | some args => match callee with
      | .value f => match evalA tm f with
        | some f => callV P f args h
        | none => .fail
      | .builtin b => builtinA P b argTypes.toList args h
      | .invoke _ _ => .fail
  | .defer { callee := .value f, args, .. } => match evalA tm f, evalsA tm args.toList with
    | some (.func f first captured), some args => match enterOk P f with
      | true => .defer (.call f (first ++ args) captured) h
      | false => .fail
    | _, _ => .fail
  | .panic x => match evalA tm x with
    | some (.iface t v) => .panic (.iface t v) h
    | _ => .fail
  | _ => .fail

/-! ## frames -/

def aExitTo (id : Nat) : List AItem → Option (List AItem)
  | .inBlock id' :: k => match Nat.beq id' id with
    | true => some k
    | false => aExitTo id k
  | _ :: k => aExitTo id k
  | [] => none

def aGotoIn (l : Nat) : List AItem → Option (List AItem)
  | .inScope body :: k => match findLabel body l with
    | some rest => some (.code rest :: .inScope body :: k)
    | none => aGotoIn l k
  | _ :: k => aGotoIn l k
  | [] => none

def AFrame.putD (fr : AFrame) (d : Option Tmp) (v : AV) : T AV :=
  match d with
  | some d => match Nat.blt d fr.nt with
    | true => fr.tm.set d (some v)
    | false => fr.tm
  | none => fr.tm

/-- What a call, or an operation, gives back goes into the frame. -/
def AFrame.finish1 (fr : AFrame) (v : AV) : Option AFrame :=
  match fr.todo with
  | .ops ops (o :: l) :: k => some { fr with tm := fr.putD o.dst v, todo := .ops ops l :: k }
  | .inRangeFunc l :: k => some { fr with todo := .endRangeFunc l :: k }
  | .beginRound :: k => some { fr with todo := k }
  | _ => none

def dstOk (nt : Nat) : Option Tmp → Bool
  | none => true
  | some d => Nat.blt d nt

def AFrame.finishD (fr : AFrame) (d : Draw) (v : AV) : Option AFrame :=
  match d.wait, d.rem with
  | true, (_, o) :: rem => match dstOk fr.nt o.dst with
    | true => some { fr with tm := fr.putD o.dst v, dr := some { d with rem, wait := false } }
    | false => none
  | _, _ => none

def AFrame.finish (fr : AFrame) (v : AV) : Option AFrame :=
  match fr.dr with
  | none => fr.finish1 v
  | some d => fr.finishD d v

def raiseM (m : AMode) (vs : List APanic) : AMode :=
  match m with
  | .panicking chain => .panicking (vs ++ chain)
  | _ => .panicking vs

def AFrame.raise1 (fr : AFrame) (vs : List APanic) : AFrame := { fr with mode := raiseM fr.mode vs }

/-- Not out of a region whose order is drawn. -/
def AFrame.raise (fr : AFrame) (vs : List APanic) : Option AFrame :=
  match fr.dr with
  | none => some (fr.raise1 vs)
  | some _ => none

def enterA (f : FuncId) (args : List AV) (kind : CallKind) : Option AFrame :=
  match P.funcs[f]? with
  | some fn => match fn.body with
    | some c => some { fn := f, nt := Nat.max args.length fn.ntmps, tm := T.fill .e 0 args, todo := [.code c], defers := [], mode := .run, kind, roundOf := none }
    | none => none
  | none => none

def wantedA (fr : AFrame) (ops : Array Oper) (o : Oper) : Bool :=
  match o.guard with
  | none => true
  | some (j, want) => match ops.toList[j]? with
    | some oj => match oj.dst with
      | some d => match fr.tm.get d with
        | some (.bool b) => b == want
        | _ => false
      | none => false
    | none => false

/-- A frame hands a value back. -/
def doRet (s : S) (v : AV) (h : H) : Option S :=
  match s.cs with
  | [] => none
  | c :: cs => match s.fr.kind with
    | .normal => match c.finish v with
      | some c => some { fr := c, cs, h }
      | none => none
    | .deferred => match c.mode with
      | .panicking ({ recovered := true, .. } :: _) => some { fr := { c with mode := .returning }, cs, h }
      | _ => some { fr := c, cs, h }
    | _ => none

def endSt : Option Code → LoopState
  | none => .ready
  | some _ => .done

def leaveA (s : S) (jump : Option Code) : Option S :=
  match s.fr.roundOf with
  | none => match jump with
    | none => some { s with fr := { s.fr with mode := .returning } }
    | some .ret => some { s with fr := { s.fr with mode := .returning } }
    | _ => none
  | some l => match s.fr.kind, s.h.t.get l with
    | .normal, some (.loop r) =>
      doRet s (.bool jump.isNone) { s.h with t := s.h.t.set l (some (.loop { r with state := endSt jump, pending := jump })) }
    | _, _ => none

def setParams (nt : Nat) (tm : T AV) : List Tmp → List AV → Option (T AV)
  | [], [] => some tm
  | t :: ts, v :: vs => match Nat.blt t nt with
    | true => setParams nt (tm.set t (some v)) ts vs
    | false => none
  | _, _ => none

def recoverA (fr : AFrame) (cs : List AFrame) : Option (AV × List AFrame) :=
  match fr.kind, cs with
  | .normal, _ => some (.nilIface, cs)
  | .deferred, c :: rest => match c.mode with
    | .panicking ({ v, recovered := false } :: older) => some (v, { c with mode := .panicking ({ v, recovered := true } :: older) } :: rest)
    | _ => some (.nilIface, c :: rest)
  | _, _ => none

/-- What an operation comes to. -/
def applyA (K : Hook) (s : S) : R → Option S
  | .val v h => match s.fr.finish v with
    | some fr => some { s with fr, h }
    | none => none
  | .skip h => match s.fr.finish und with
    | some fr => some { s with fr, h }
    | none => none
  | .ext f args h => match K.ext f args h with
    | some (v, h) => match s.fr.finish v with
      | some fr => some { s with fr, h }
      | none => none
    | none => none
  | .enter f args h => match K.call f args h with
    | some (v, h) => match s.fr.finish v with
      | some fr => some { s with fr, h }
      | none => none
    | none => match enterA P f args .normal with
      | some fr => some { fr, cs := s.fr :: s.cs, h }
      | none => none
  | .round l args h => match h.t.get l with
    | some (.loop r) => match setParams r.nt r.tm r.params args with
      | some tm => some { fr := { fn := r.fn, nt := r.nt, tm, todo := [.code r.assign, .beginRound, .code r.body], defers := [], mode := .run, kind := .normal, roundOf := some l }, cs := s.fr :: s.cs, h }
      | none => none
    | _ => none
  | .defer d h => match s.fr.roundOf with
    | some _ => none
    | none => match { s.fr with defers := d :: s.fr.defers : AFrame }.finish und with
      | some fr => some { s with fr, h }
      | none => none
  | .recover h => match s.fr.roundOf with
    | some _ => none
    | none => match recoverA s.fr s.cs with
      | some (v, cs) => match s.fr.finish v with
        | some fr => some { fr, cs, h }
        | none => none
      | none => none
  | .panic v h => match s.fr.raise [{ v, recovered := false }] with
    | some fr => some { s with fr, h }
    | none => none
  | .fail => none

def memB (n : Nat) : List Nat → Bool
  | [] => false
  | m :: l => match Nat.beq n m with
    | true => true
    | false => memB n l

/-- The operations ahead of which this one may not come. -/
def edgesOf : List Edge → List Nat
  | [] => []
  | e :: l => match Region.binds .any e with
    | true => e.on :: edgesOf l
    | false => edgesOf l

def idxd (i : Nat) : List Oper → List (Nat × Oper)
  | [] => []
  | o :: l => (i, o) :: idxd (i + 1) l

def tmpsOf : List Operand → List Tmp
  | [] => []
  | .tmp t :: l => t :: tmpsOf l
  | _ :: l => tmpsOf l

def dstOf (ops : Array Oper) (j : Nat) : Option Tmp :=
  match ops.toList[j]? with
  | some o => o.dst
  | none => none

/-- The slots that an operation looks at. -/
def slotsOf (ops : Array Oper) (o : Oper) : List Tmp :=
  match o.guard with
  | none => tmpsOf o.op.operands.toList
  | some (j, _) => match dstOf ops j with
    | some d => d :: tmpsOf o.op.operands.toList
    | none => tmpsOf o.op.operands.toList

def mini (tm : T AV) : List Tmp → T AV
  | [] => .e
  | t :: l => (mini tm l).set t (tm.get t)

def isRead : Op → Bool
  | .move _ => true
  | .pick _ _ _ => true
  | .load _ _ => true
  | .nilCheck _ => true
  | .binOp _ _ _ _ _ => true
  | .unOp _ _ _ => true
  | .makeInterface _ _ => true
  | .makeFunc _ _ _ => true
  | .slice _ _ _ _ _ => true
  | .fieldAddr _ _ _ => true
  | .field _ _ _ => true
  | .indexAddr _ _ _ => true
  | .index _ _ _ => true
  | .extract _ _ => true
  | .build _ _ => true
  | .call { callee := .builtin .len, .. } => true
  | .call { callee := .builtin .cap, .. } => true
  | .call { callee := .builtin .min, .. } => true
  | .call { callee := .builtin .max, .. } => true
  | .lookup _ _ _ _ => true
  | _ => false

mutual
def AV.same : AV → AV → Bool
  | .bool a, .bool b => a == b
  | .int k a, .int j b => IntKind.eqB k j && a == b
  | .str a, .str b => listEqB a b
  | .nilptr, .nilptr => true
  | .ptr a b, .ptr c d => Nat.beq a c && Nat.beq b d
  | .nilslice, .nilslice => true
  | .slice b o l (.exact c), .slice b' o' l' (.exact c') => Nat.beq b b' && Nat.beq o o' && Nat.beq l l' && Nat.beq c c'
  | .slice b o l (.opn c), .slice b' o' l' (.opn c') => Nat.beq b b' && Nat.beq o o' && Nat.beq l l' && Nat.beq c c'
  | .nilmap, .nilmap => true
  | .map a, .map b => Nat.beq a b
  | .func f a b, .func g c d => Nat.beq f g && AV.sames a c && AV.sames b d
  | .yield a, .yield b => Nat.beq a b
  | .nilFunc, .nilFunc => true
  | .iface t x, .iface u y => Nat.beq t u && AV.same x y
  | .nilIface, .nilIface => true
  | .agg a, .agg b => AV.sames a b
  | .tuple a, .tuple b => AV.sames a b
  | _, _ => false
def AV.sames : List AV → List AV → Bool
  | [], [] => true
  | a :: l, b :: m => AV.same a b && AV.sames l m
  | _, _ => false
end

def wantedD (tm : T AV) (ops : Array Oper) (o : Oper) : Bool :=
  match o.guard with
  | none => true
  | some (j, want) => match dstOf ops j with
    | some d => match tm.get d with
      | some (.bool b) => b == want
      | _ => false
    | none => false

/-- What an operation of a drawn region comes to. -/
def execD (tm : T AV) (h : H) (ops : Array Oper) (o : Oper) : R :=
  match wantedD (mini tm (slotsOf ops o)) ops o with
  | true => execA P (mini tm (slotsOf ops o)) h o.op
  | false => .val und h

def readVal (tm : T AV) (h : H) (ops : Array Oper) (o : Oper) : Option AV :=
  match isRead o.op, execD P tm h ops o with
  | true, .val v _ => some v
  | _, _ => none

def T.same : T AV → T AV → Bool
  | .e, .e => true
  | .n l v r, .n l' v' r' => match v, v' with
    | none, none => T.same l l' && T.same r r'
    | some x, some y => AV.same x y && (T.same l l' && T.same r r')
    | _, _ => false
  | _, _ => false

/-- The object that an operation makes, and does nothing else. -/
def fresh1 (tm : T AV) : Op → Option (TypeId × List AV)
  | .alloc t => match zeroA P t with
    | some z => some (t, z.cells)
    | none => none
  | .box t x => match evalA tm x with
    | some v => match allOne v.cells with
      | true => some (t, v.cells)
      | false => none
    | none => none
  | _ => none

def isAlloc (o : Oper) : Bool :=
  match o.guard, o.op with
  | none, .alloc _ => true
  | none, .box _ _ => true
  | _, _ => false

def slotIs (nt : Nat) (tm : T AV) (d : Option Tmp) (v : AV) : Bool :=
  match d with
  | none => true
  | some d => match Nat.blt d nt with
    | false => false
    | true => match tm.get d with
      | some u => AV.same v u
      | none => false

def freshIs (t : TypeId) (l : List AV) (o : Option AObj) : Bool :=
  match o with
  | some (.cells n cs ⟨0, ty⟩ false) => Nat.beq n l.length && (T.same cs (T.fill .e 0 l) && Nat.beq ty (t + 1))
  | _ => false

def readOk (nt : Nat) (tm : T AV) (h : H) (ops : Array Oper) (o : Oper) (b : Nat) : Bool :=
  match isAlloc o with
  | false => match readVal P tm h ops o with
    | none => false
    | some v => slotIs nt tm o.dst v
  | true => match fresh1 P (mini tm (slotsOf ops o)) o.op with
    | none => false
    | some (t, l) => match freshIs t l (h.t.get b) with
      | false => false
      | true => slotIs nt tm o.dst (.ptr b 0)

def earlyOk (nt : Nat) (tm : T AV) (h : H) (ops : Array Oper) : List (Nat × Oper × Nat) → Bool
  | [] => true
  | (_, o, b) :: l => match readOk P nt tm h ops o b with
    | true => earlyOk nt tm h ops l
    | false => false

def anyB (B : List Nat) : List Nat → Bool
  | [] => false
  | e :: l => match memB e B with
    | true => true
    | false => anyB B l

/-- Each of these comes behind the first of all. -/
def chainB (i : Nat) (B : List Nat) : List (Nat × Oper) → Bool
  | [] => true
  | (j, o) :: l => match Nat.beq j i with
    | true => false
    | false => match anyB B (edgesOf o.after.toList) with
      | true => chainB i (j :: B) l
      | false => false

/-- Reads that surely were done ahead of those go. -/
def dropF (B : List Nat) : List (Nat × Oper × Nat) → List (Nat × Oper × Nat)
  | [] => []
  | (j, o, b) :: l => match memB j B with
    | true => dropF (edgesOf o.after.toList ++ B) l
    | false => (j, o, b) :: dropF B l

def subB (B : List Nat) : List Nat → Bool
  | [] => true
  | e :: l => match memB e B with
    | true => subB B l
    | false => false

/-- The first that may be done: a read, if there is one. -/
def pickR (reads : Bool) (done : List Nat) : List (Nat × Oper) → Option (Nat × Oper)
  | [] => none
  | (i, o) :: l => match (isRead o.op || isAlloc o || !reads) && !memB i done && subB done (edgesOf o.after.toList) with
    | true => some (i, o)
    | false => pickR reads done l

def asap (all : List (Nat × Oper)) : Nat → List Nat → List (Nat × Oper)
  | 0, _ => []
  | n + 1, done => match pickR true done all with
    | some (i, o) => (i, o) :: asap all n (i :: done)
    | none => match pickR false done all with
      | some (i, o) => (i, o) :: asap all n (i :: done)
      | none => []

def topoB (done : List Nat) : List (Nat × Oper) → Bool
  | [] => true
  | (i, o) :: l => match !memB i done && subB done (edgesOf o.after.toList) with
    | true => topoB (i :: done) l
    | false => false

def slotB (t : Tmp) (k : Nat) (es : List Nat) : List (Nat × Oper) → Bool
  | [] => true
  | (j, o) :: l => match o.dst with
    | none => slotB t k es l
    | some d => match Nat.beq d t with
      | false => slotB t k es l
      | true => match Nat.beq j k, memB j es with
        | false, true => slotB t k es l
        | _, _ => false

def slotsB (k : Nat) (es : List Nat) (all : List (Nat × Oper)) : List Tmp → Bool
  | [] => true
  | t :: l => match slotB t k es all with
    | true => slotsB k es all l
    | false => false

def statB (ops : Array Oper) (all : List (Nat × Oper)) : List (Nat × Oper) → Bool
  | [] => true
  | (k, o) :: l => match slotsB k (edgesOf o.after.toList) all (slotsOf ops o) with
    | true => statB ops all l
    | false => false

/-- A drawn region begins. -/
def drawA (ops : Array Oper) : Option Draw :=
  let all := idxd 0 ops.toList
  let rem := asap all ops.toList.length []
  match topoB [] rem && subB (rem.map Prod.fst) (all.map Prod.fst) && statB ops all all with
  | true => some { ops, rem, early := [], wait := false }
  | false => none

def evalRes (tm : T AV) (h : H) : List ResultVar → Option (List AV)
  | [] => some []
  | .tmp t :: l => match evalRes tm h l with
    | some vs => some ((tm.get t).getD und :: vs)
    | none => none
  | .cell a t :: l => match okT P t, tm.get a with
    | true, some (.ptr b o) => match loadV P h t b o, evalRes tm h l with
      | some v, some vs => some (v :: vs)
      | _, _ => none
    | _, _ => none

def resA (fn : Func) (tm : T AV) (h : H) : Option AV :=
  match evalRes P tm h fn.results.toList with
  | some [v] => some v
  | some vs => some (.tuple vs)
  | none => none

/-- A frame on its way out. -/
def unwindA (s : S) : Option S :=
  match s.fr.defers with
  | .collected r :: ds => match s.h.t.get r with
    | some (.deferred (some calls)) => some { s with fr := { s.fr with defers := calls ++ ds }, h := { s.h with t := s.h.t.set r (some (.deferred none)) } }
    | _ => none
  | .call f args captured :: ds => match enterOk P f with
    | true => match enterA P f (args ++ captured) .deferred with
      | some fr => some { fr, cs := { s.fr with defers := ds } :: s.cs, h := s.h }
      | none => none
    | false => none
  | [] => match s.fr.mode with
    | .run => none
    | .panicking chain => match s.cs, P.funcs[s.fr.fn]? with
      | c :: cs, some _ => match c.raise chain with
        | some fr => some { fr, cs, h := s.h }
        | none => none
      | _, _ => none
    | .returning => match P.funcs[s.fr.fn]? with
      | some fn => match resA P fn s.fr.tm s.h with
        | some v => doRet s v s.h
        | none => none
      | none => none

def enterLoopA (s : S) (f : Operand) (params : Array Tmp) (assign body : Code) (k : List AItem) : Option S :=
  match evalA s.fr.tm f with
  | some f =>
    let mk (defers : Nat) : AObj := .loop { state := .ready, pending := none, fn := s.fr.fn, nt := s.fr.nt, tm := s.fr.tm, params := params.toList, assign, body, defers }
    let go (mark : List ADef) (l : Nat) (h : H) : Option S :=
      match callV P f [.yield l] h with
      | .enter g args h => match enterA P g args .normal with
        | some fr => some { fr, cs := { s.fr with todo := .inRangeFunc l :: k, defers := mark ++ s.fr.defers } :: s.cs, h }
        | none => none
      | _ => none
    match s.fr.roundOf with
    | some l => match s.h.t.get l with
      | some (.loop r) => go [] s.h.nx (s.h.alloc (mk r.defers))
      | _ => none
    | none =>
      let h := s.h.alloc (.deferred (some []))
      go [.collected s.h.nx] h.nx (h.alloc (mk s.h.nx))
  | none => none

def to (s : S) (todo : List AItem) : Option S := some { s with fr := { s.fr with todo } }

def applyD (K : Hook) (s : S) (d : Draw) (i : Nat) (o : Oper) (rem : List (Nat × Oper)) : R → Option S :=
  fun r =>
  let early := dropF (edgesOf o.after.toList) d.early
  match r with
  | .val v h => match dstOk s.fr.nt o.dst with
    | true => some { s with fr := { s.fr with tm := s.fr.putD o.dst v, dr := some { d with rem, early } }, h }
    | false => none
  | .skip h => match dstOk s.fr.nt o.dst with
    | true => some { s with fr := { s.fr with tm := s.fr.putD o.dst und, dr := some { d with rem, early } }, h }
    | false => none
  | .ext f args h => match K.ext f args h with
    | some (v, h) => match dstOk s.fr.nt o.dst with
      | true => some { s with fr := { s.fr with tm := s.fr.putD o.dst v, dr := some { d with rem, early } }, h }
      | false => none
    | none => none
  | .enter f args h => match K.call f args h with
    | some (v, h) => match dstOk s.fr.nt o.dst with
      | true => some { s with fr := { s.fr with tm := s.fr.putD o.dst v, dr := some { d with rem, early } }, h }
      | false => none
    | none => match enterA P f args .normal with
      | some fr => some { fr, cs := { s.fr with dr := some { d with rem := (i, o) :: rem, early, wait := true } } :: s.cs, h }
      | none => none
  | .round l args h => match h.t.get l with
    | some (.loop r) => match setParams r.nt r.tm r.params args with
      | some tm => some { fr := { fn := r.fn, nt := r.nt, tm, todo := [.code r.assign, .beginRound, .code r.body], defers := [], mode := .run, kind := .normal, roundOf := some l }, cs := { s.fr with dr := some { d with rem := (i, o) :: rem, early, wait := true } } :: s.cs, h }
      | none => none
    | _ => none
  | _ => none

/-- One step in a drawn region. -/
def stepD (K : Hook) (s : S) (d : Draw) : Option S :=
  match d.wait with
  | true => none
  | false => match d.rem with
    | [] => match earlyOk P s.fr.nt s.fr.tm s.h d.ops d.early with
      | true => some { s with fr := { s.fr with dr := none } }
      | false => none
    | (i, o) :: rem => match isAlloc o, isRead o.op with
      | true, _ => match fresh1 P (mini s.fr.tm (slotsOf d.ops o)) o.op with
        | some (t, l) => some { s with fr := { s.fr with tm := s.fr.putD o.dst (.ptr s.h.nx 0), dr := some { d with rem, early := (i, o, s.h.nx) :: d.early } }, h := s.h.newCells t l }
        | none => none
      | _, true => match readVal P s.fr.tm s.h d.ops o with
        | some v => some { s with fr := { s.fr with tm := s.fr.putD o.dst v, dr := some { d with rem, early := (i, o, 0) :: d.early } } }
        | none => none
      | _, _ => match chainB i [i] rem, earlyOk P s.fr.nt s.fr.tm s.h d.ops d.early with
        | true, true => applyD P K s d i o rem (execD P s.fr.tm s.h d.ops o)
        | _, _ => none

/-- One step. -/
def step1 (K : Hook) (s : S) : Option S :=
  match s.fr.mode with
  | .run => match s.fr.todo with
    | [] => leaveA s none
    | .ops ops l :: k => match l with
      | [] => to s k
      | o :: _ => match wantedA s.fr ops o with
        | true => applyA P K s (execA P s.fr.tm s.h o.op)
        | false => match s.fr.finish und with
          | some fr => some { s with fr }
          | none => none
    | .code c :: k => match c with
      | .skip => to s k
      | .label _ => to s k
      | .seq a b => to s (.code a :: .code b :: k)
      | .region _ ops draw => match draw with
        | false => to s (.ops ops ops.toList :: k)
        | true => match P.follows .mixedOrders, drawA ops with
          | true, some d => some { s with fr := { s.fr with todo := k, dr := some d } }
          | _, _ => none
      | .cond c a b => match evalA s.fr.tm c with
        | some (.bool true) => to s (.code a :: k)
        | some (.bool false) => to s (.code b :: k)
        | _ => none
      | .block id c => to s (.code c :: .inBlock id :: k)
      | .loop c => to s (.code c :: .inLoop c :: k)
      | .scope c => to s (.code c :: .inScope c :: k)
      | .exit id => match aExitTo id k with
        | some k => to s k
        | none => leaveA s (some (.exit id))
      | .goto l => match aGotoIn l k with
        | some k => to s k
        | none => leaveA s (some (.goto l))
      | .ret => leaveA s (some .ret)
      | .rangeFunc f params assign body => enterLoopA P s f params assign body k
      | .refuse _ => none
    | .inBlock _ :: k => to s k
    | .inScope _ :: k => to s k
    | .inLoop c :: k => to s (.code c :: .inLoop c :: k)
    | .inRangeFunc _ :: _ => none
    | .beginRound :: k => match s.fr.roundOf with
      | some l => match s.h.t.get l with
        | some (.loop r) => match r.state with
          | .ready => some { s with fr := { s.fr with todo := k }, h := { s.h with t := s.h.t.set l (some (.loop { r with state := .busy })) } }
          | _ => none
        | _ => none
      | none => none
    | .endRangeFunc l :: k => match s.h.t.get l with
      | some (.loop r) => match r.state with
        | .busy => none
        | _ =>
          let h := { s.h with t := s.h.t.set l (some (.loop { r with state := .exhausted })) }
          match r.pending with
          | some c => some { s with fr := { s.fr with todo := .code c :: k }, h }
          | none => some { s with fr := { s.fr with todo := k }, h }
      | _ => none
  | _ => unwindA P s

def stepA (K : Hook) (s : S) : Option S :=
  match s.fr.dr with
  | none => step1 P K s
  | some d => match s.fr.mode with
    | .run => stepD P K s d
    | _ => none

/-- The value that the lowest frame hands back, once it does. -/
def doneA (s : S) : Option AV :=
  match s.fr.dr, s.fr.mode, s.fr.defers, s.cs with
  | none, .returning, [], [] => match P.funcs[s.fr.fn]? with
    | some fn => resA P fn s.fr.tm s.h
    | none => none
  | _, _, _, _ => none

def runA (K : Hook) (f : FuncId) : Nat → S → Option (AV × H)
  | 0, _ => none
  | n + 1, s => match s.fr.mode, s.fr.defers, s.cs with
    | .returning, [], [] => match Nat.beq s.fr.fn f, s.fr.kind, doneA P s with
      | true, .normal, some v => some (v, s.h)
      | _, _, _ => none
    | _, _, _ => match stepA P K s with
      | some s => runA K f n s
      | none => none

def callA (K : Hook) (n : Nat) (f : FuncId) (args : List AV) (h : H) : Option (AV × H) :=
  match enterA P f args .normal with
  | some fr => runA P K f n { fr, cs := [], h }
  | none => none

end
end
end Go.AX
