/-
  AX: an evaluator for the machine over a heap of plain values: no capacities, no draws. Definitions alone.
-/
import GoSem.Step
import Derived.Calls
import Derived.Below
import Derived.Laws.Cells
set_option linter.unusedSimpArgs false
set_option linter.unusedVariables false
set_option linter.unusedSectionVars false
set_option linter.defProp false
set_option maxHeartbeats 8000000
open Nat renaming beq→ak,ne_of_beq_eq_false→au,eq_of_beq_eq_true→aw,ble→az,blt→aB,casesOn→aG,le_of_ble_eq_true→aJ,div→aO,le_refl→aP
open List renaming length_cons→al,getElem?_cons_succ→aq,getElem?_append_right→aA,mem_of_getElem?→aD,length_nil→aE,getElem?_append_left→aF,rec→aM
open Array renaming getElem?_setIfInBounds→an,size_setIfInBounds→aH,getElem?_push→aK,ext_getElem?→aL
open Int renaming ofNat→ao,emod→aC
open Bool renaming casesOn→aN
namespace Go.AX
noncomputable section
inductive T(α:Type)where
 |e
 |n(l:T α)(v:Option α)(r:T α)
 |row(xs:List α)
noncomputable def Te{α:Type}(xs:List α):Nat→Option α:=
 aM (motive:=fun _=>Nat→Option α) (fun _=>none) (fun x _ ih k=>aG (motive:=fun _=>Option α) k (some x) ih) xs
noncomputable def zJ{α:Type}(xs:List α):Bool→List α:=
 aM (motive:=fun _=>Bool→List α) (fun _=>[]) (fun x _ ih b=>aN (motive:=fun _=>List α) b (ih true) (x::ih false)) xs
noncomputable def oB{α:Type}(n:Nat):List α→Bool:=
 Nat.rec (motive:=fun _=>List α→Bool) (fun _=>true) (fun _ ih l=>List.casesOn (motive:=fun _=>Bool) l false fun _ t=>ih t) n
def E9{α:Type}(n:Nat)(k:Nat→α):α:=
 match n with
 |0=>k 0
 |m+1=>k (m+1)
noncomputable def kQ{α:Type}(l:List α):Nat:=
 aM (motive:=fun _=>Nat→Nat) (fun n=>n) (fun _ _ ih n=>E9 (n+1) ih) l 0
noncomputable def T.get{α:Type}(t:T α):Nat→Option α:=
 T.rec (motive:=fun _=>Nat→Option α) (fun _=>none)
  (fun _ v _ ihl ihr k=>aG (motive:=fun _=>Option α) k v fun k=>aN (motive:=fun _=>Option α) (ak (Nat.mod k 2) 0) (ihr (aO k 2)) (ihl (aO k 2)))
  (fun xs k=>Te xs k) t
noncomputable def T.opened{α:Type}(t:T α):T α:=
 T.casesOn (motive:=fun _=>T α) t .e (fun l v r=>.n l v r) fun xs=>List.casesOn (motive:=fun _=>T α) xs .e fun x r=>.n (.row (zJ r true)) (some x) (.row (zJ r false))
noncomputable def T.wI{α:Type}(f:Nat):T α→Nat→Option α→T α:=
 Nat.rec (motive:=fun _=>T α→Nat→Option α→T α) (fun t _ _=>t)
  (fun _ ih t k x=>aG (motive:=fun _=>T α) k (T.casesOn (motive:=fun _=>T α) (T.opened t) (.n .e x .e) (fun l _ r=>.n l x r) fun _=>.e) fun k=>
   aN (motive:=fun _=>T α) (ak (Nat.mod k 2) 0)
    (T.casesOn (motive:=fun _=>T α) (T.opened t) (.n .e none (ih .e (aO k 2) x)) (fun l v r=>.n l v (ih r (aO k 2) x)) fun _=>.e)
    (T.casesOn (motive:=fun _=>T α) (T.opened t) (.n (ih .e (aO k 2) x) none .e) (fun l v r=>.n (ih l (aO k 2) x) v r) fun _=>.e)) f
def T.set{α:Type}(t:T α)(k:Nat)(x:Option α):T α:=T.wI (k+1) t k x
def T.fill{α:Type}(t:T α)(k:Nat):List α→T α
 |[]=>t
 |x::l=>(t.set k (some x)).fill (k+1) l
def T.ofRow{α:Type}(l:List α):T α:=
 match oB 300 l with
 |true=>.row l
 |false=>T.fill .e 0 l
inductive ur where
 |exact(c:Nat)
 |iK(i:Nat)
inductive AV where
 |bool(b:Bool)
 |int(k:IntKind)(n:Int)
 |str(s:List Nat)
 |cN
 |ptr(b o:Nat)
 |bh
 |dq
 |slice(b o len:Nat)(cap:ur)
 |dB
 |map(b:Nat)
 |func(f:FuncId)(first captured:List AV)
 |yield(l:Nat)
 |nilFunc
 |iface(t:TypeId)(v:AV)
 |nilIface
 |agg(cs:List AV)
 |tuple(vs:List AV)
def jd:AV:=.tuple []
def AV.cells:AV→List AV
 | .agg cs=>cs
 |v=>[v]
def AV.one:AV→Bool
 | .agg _=>false
 | .tuple _=>false
 |_=>true
def dN:List AV→Bool
 |[]=>true
 |v::l=>match v.one with
  |true=>dN l
  |false=>false
inductive Nl where
 |call(f:FuncId)(args captured:List AV)
 |collected(r:Nat)
structure fC where
 state:LoopState
 pending:Option Code
 fn:FuncId
 nt:Nat
 tm:T AV
 params:List Tmp
 assign:Code
 body:Code
 defers:Nat
structure EK where
 sz:Nat
 ty:Nat
inductive iI where
 |cells(n:Nat)(cs:T AV)(esz:EK)(ro:Bool)
 |map(es:List (AV×AV×Nat))(clock:Nat)
 |xO(es:List (AV×AV×Nat))(clock:Nat)
 |jW(s:List Nat)(pos:Nat)
 |mapIter(m:Option Nat)(since:Nat)(seen:List Nat)(uw:Nat)
 |loop(l:fC)
 |deferred(calls:Option (List Nl))
structure H where
 t:T iI
 nx:Nat
 g:Nat
structure mL where
 v:AV
 recovered:Bool
inductive zK where
 |run
 |returning
 |panicking(chain:List mL)
inductive iL where
 |code(c:Code)
 |inBlock(id:Nat)
 |inLoop(body:Code)
 |inScope(body:Code)
 |ops(ops:Array Oper)(l:List Oper)
 |inRangeFunc(l:Nat)
 |endRangeFunc(l:Nat)
 |beginRound
structure qi where
 ops:Array Oper
 rem:List (Nat×Oper)
 early:List (Nat×Oper×Nat)
 wait:Bool
structure bY where
 fn:FuncId
 nt:Nat
 tm:T AV
 todo:List iL
 defers:List Nl
 mode:zK
 kind:CallKind
 roundOf:Option Nat
 dr:Option qi:=none
structure S where
 fr:bY
 cs:List bY
 h:H
structure lI where
 call:FuncId→List AV→H→Option (AV×H)
 ext:FuncId→List AV→H→Option (AV×H)
def jX:lI:=⟨fun _ _ _=>none,fun _ _ _=>none⟩
inductive R where
 |val(v:AV)(h:H)
 |skip(h:H)
 |enter(f:FuncId)(args:List AV)(h:H)
 |ext(f:FuncId)(args:List AV)(h:H)
 |round(l:Nat)(args:List AV)(h:H)
 |defer(d:Nl)(h:H)
 |recover(h:H)
 |panic(v:AV)(h:H)
 |fail
def bV(k:IntKind)(n:Int):Int:=
 match k with
 | .u8=>aC n 256
 | .u16=>aC n 65536
 | .u32=>aC n 4294967296
 | .u64=>aC n 18446744073709551616
 | .i8=>let m:=aC n 256;if m<128 then m else m-256
 | .i16=>let m:=aC n 65536;if m<32768 then m else m-65536
 | .i32=>let m:=aC n 4294967296;if m<2147483648 then m else m-4294967296
 | .i64=>let m:=aC n 18446744073709551616;if m<9223372036854775808 then m else m-18446744073709551616
def fU{α:Type}(n:Int)(k:Int→α):α:=
 match n with
 | .ofNat m=>match m with
  |0=>k 0
  |m+1=>k (.ofNat (m+1))
 | .negSucc m=>match m with
  |0=>k (.negSucc 0)
  |m+1=>k (.negSucc (m+1))
def IntKind.Tf:IntKind→IntKind→Bool
 | .i8,.i8=>true| .i16,.i16=>true| .i32,.i32=>true| .i64,.i64=>true
 | .u8,.u8=>true| .u16,.u16=>true| .u32,.u32=>true| .u64,.u64=>true
 |_,_=>false
def cL:List Nat→List Nat→Bool
 |[],[]=>true
 |a::x,b::y=>match ak a b with
  |true=>cL x y
  |false=>false
 |_,_=>false
def cE:List Nat→List Nat→Bool
 |_,[]=>false
 |[],_::_=>true
 | a::x,b::y=>match aB a b with
  |true=>true
  |false=>match ak a b with
   |true=>cE x y
   |false=>false
def Nm:IntKind→Nat
 | .i8=>256
 | .u8=>256
 | .i16=>65536
 | .u16=>65536
 | .i32=>4294967296
 | .u32=>4294967296
 | .i64=>18446744073709551616
 | .u64=>18446744073709551616
def low(k:IntKind)(n:Int):Nat:=(aC n (ao (Nm k))).toNat
def qj(op:BinOp)(k:IntKind)(a b:Int):Option AV:=
 match op with
 | .add=>some (fU (bV k (a+b)) (.int k))
 | .sub=>some (fU (bV k (a-b)) (.int k))
 | .mul=>some (fU (bV k (a*b)) (.int k))
 | .quo=>bif b==0 then none else some (fU (bV k (a.tdiv b)) (.int k))
 | .rem=>bif b==0 then none else some (fU (a.tmod b) (.int k))
 | .and=>some (fU (bV k (.ofNat (Nat.land (low k a) (low k b)))) (.int k))
 | .or=>some (fU (bV k (.ofNat (Nat.lor (low k a) (low k b)))) (.int k))
 | .xor=>some (fU (bV k (.ofNat (Nat.xor (low k a) (low k b)))) (.int k))
 | .andNot=>some (fU (bV k (.ofNat (Nat.land (low k a) (Nm k-1-low k b)))) (.int k))
 | .eql=>some (.bool (a==b))
 | .neq=>some (.bool (a != b))
 | .lss=>some (.bool (decide (a<b)))
 | .leq=>some (.bool (decide (a≤b)))
 | .gtr=>some (.bool (decide (a>b)))
 | .geq=>some (.bool (decide (a≥b)))
 |_=>none
def zL(op:BinOp)(k:IntKind)(a y:Int):Option AV:=
 match y with
 | .negSucc _=>none
 | .ofNat y=>
  let n:=min y k.bits
  match op with
  | .shl=>some (fU (bV k (a*ao (2^n))) (.int k))
  | .shr=>some (fU (a.fdiv (ao (2^n))) (.int k))
  |_=>none
def E_(op:BinOp)(x y:List Nat):Option AV:=
 match op with
 | .add=>match az (kQ x+kQ y) 1099511627776 with
  |true=>some (.str (x++y))
  |false=>none
 | .eql=>some (.bool (cL x y))
 | .neq=>some (.bool (!cL x y))
 | .lss=>some (.bool (cE x y))
 | .leq=>some (.bool (cE x y||cL x y))
 | .gtr=>some (.bool (!(cE x y||cL x y)))
 | .geq=>some (.bool (!cE x y))
 |_=>none
def bytesOf(s:ByteArray):List Nat:=s.data.toList.map UInt8.toNat
def Fa:Value→Option AV
 | .bool b=>some (.bool b)
 | .int k n=>some (.int k n)
 | .string s=>some (.str (bytesOf s))
 | .pointer none=>some .cN
 | .slice none 0 0=>some .bh
 | .map none=>some .dB
 | .nilFunc=>some .nilFunc
 | .nilIface=>some .nilIface
 |_=>none
def zM:List Value→Option (List AV)
 |[]=>some []
 | v::l=>match Fa v with
  |none=>none
  |some x=>match zM l with
   |none=>none
   |some y=>some (x::y)
def jY(v:Value):Option AV:=
 match v with
 | .agg cs=>match zM cs.toList with
  |some l=>some (.agg l)
  |none=>none
 | .tuple cs=>match cs.toList with
  |[]=>some jd
  |_=>none
 |v=>Fa v
def H.alloc(h:H)(o:iI):H:={h with t:=h.t.set h.nx (some o),nx:=h.nx+1}
def H.bq(h:H)(t:TypeId)(l:List AV):H:=h.alloc (.cells (kQ l) (T.ofRow l) ⟨0,t+1⟩ false)
def H.loadCells(cs:T AV)(o:Nat):Nat→Option (List AV)
 |0=>some []
 | k+1=>match cs.get o with
  |none=>none
  |some v=>match loadCells cs (o+1) k with
   |none=>none
   |some l=>some (v::l)
def H.my(cs:T AV)(o k:Nat):Option (List AV):=
 match cs with
 | .row xs=>match oB k (xs.drop o)with
  |true=>some ((xs.drop o).take k)
  |false=>none
 |cs=>H.loadCells cs o k
def H.row(h:H)(b o k:Nat):Option (List AV):=
 match h.t.get b with
 |some (.cells _ cs _ _)=>H.my cs o k
 |_=>none
def H.putCells(cs:T AV)(o:Nat):List AV→Option (T AV)
 |[]=>some cs
 |v::l=>match v.one,cs.get o with
  |true,some _=>putCells (cs.set o (some v)) (o+1) l
  |_,_=>none
def H.putRow(cs:T AV)(o:Nat)(l:List AV):Option (T AV):=
 match cs with
 | .row xs=>match oB 300 l&&(az (o+kQ l) (kQ xs)&&dN l)with
  |true=>some (.row (xs.take o++(l++xs.drop (o+kQ l))))
  |false=>H.putCells cs o l
 |cs=>H.putCells cs o l
def H.put(h:H)(b o:Nat)(l:List AV):Option H:=
 match h.t.get b with
 | some (.cells n cs esz false)=>match H.putRow cs o l with
  |some cs=>some {h with t:=h.t.set b (some (.cells n cs esz false))}
  |none=>match dN l&&az (o+kQ l) n with
   |true=>some {h with t:=h.t.set b (some (.cells n (T.fill cs o l) esz false))}
   |false=>none
 |_=>none
section
variable(P:Program)
def Fb(t:TypeId):Bool:=
 match P.underlying t with
 |some (.struct _)=>true
 |some (.array _ _)=>true
 |_=>false
def eQ(t:TypeId):Bool:=(P.underlying t).isSome
def dJ(h:H)(t:TypeId)(b o:Nat):Option AV:=
 match Fb P t with
 |true=>match h.row b o (P.cellsOf t)with
  |some l=>some (.agg l)
  |none=>none
 |false=>match h.t.get b with
  |some (.cells _ cs _ _)=>cs.get o
  |_=>none
def eT(h:H)(t:TypeId)(b o:Nat)(v:AV):Option H:=
 match ak v.cells.length (P.cellsOf t)with
 |true=>h.put b o v.cells
 |false=>none
def dv(t:TypeId):Option AV:=
 match P.info? t with
 | some i=>match i.zero with
  |some v=>match jY v with
   |some (.tuple _)=>none
   |r=>r
  |none=>none
 |none=>none
def xP(t:TypeId)(cs:List AV)(off:Nat):Option AV:=
 match Fb P t with
 |true=>some (.agg ((cs.drop off).take (P.cellsOf t)))
 |false=>cs[off]?
def tH(cs:List AV)(off:Nat)(new:List AV):List AV:=cs.take off++new++cs.drop (off+new.length)
def sV(place:Nat→Option (Nat×Nat))(cells:List AV):List (Nat×AV)→Option (List AV)
 |[]=>some cells
 | (i,v)::rest=>match place i with
  |none=>none
  |some (off,size)=>match ak v.cells.length size&&az (off+v.cells.length) cells.length with
   |true=>sV place (tH cells off v.cells) rest
   |false=>none
def kS(l:List AV):Nat→List AV
 |0=>[]
 |n+1=>l++kS l n
def eqFields(eq:TypeId→AV→AV→Option Bool)(xs ys:List AV):List Field→Option Bool
 |[]=>some true
 | f::fs=>match f.name== "_" with
  |true=>none
  | false=>match xP P f.type xs f.offset,xP P f.type ys f.offset with
   |some x,some y=>match eq f.type x y with
    |some true=>eqFields eq xs ys fs
    |some false=>some false
    |none=>none
   |_,_=>none
def sM:Nat→TypeId→AV→AV→Option Bool
 |0,_,_,_=>none
 | d +1,t,x,y=>
  match P.underlying t,x,y with
  |some .bool,.bool a,.bool b=>some (a==b)
  |some (.int _),.int k a,.int k' b=>match IntKind.Tf k k' with|true=>some (a==b)|false=>none
  |some .string,.str a,.str b=>some (cL a b)
  |some (.pointer _),.cN,.cN=>some true
  | some (.pointer e),.ptr b o,.ptr c p=>match ak b c,ak o p with
   |true,true=>match eQ P e with
    |true=>some true
    |false=>none
   |true,false=>match eQ P e&&az 1 (P.cellsOf e)with
    |true=>some false
    |false=>none
   |_,_=>none
  |some (.pointer _),.cN,.ptr _ _=>some false
  |some (.pointer _),.ptr _ _,.cN=>some false
  |some (.interface _),.nilIface,.nilIface=>some true
  |some (.interface _),.nilIface,.iface _ _=>some false
  |some (.interface _),.iface _ _,.nilIface=>some false
  | some (.interface _),.iface tx vx,.iface ty vy=>match ak tx ty with
   |false=>some false
   | true=>match P.info? tx with
    |some i=>match i.comparable with
     |true=>sM d tx vx vy
     |false=>none
    |none=>none
  |some (.struct fields),.agg xs,.agg ys=>match P.stoodInHeld t with
   |true=>none
   |false=>eqFields P (sM d) xs ys fields.toList
  |some (.slice _),.bh,.bh=>some true
  |some (.slice _),.bh,.slice _ _ _ _=>some false
  |some (.slice _),.slice _ _ _ _,.bh=>some false
  |some (.slice _),.bh,.dq=>some false
  |some (.slice _),.dq,.bh=>some false
  |some (.map _ _),.dB,.dB=>some true
  |some (.map _ _),.dB,.map _=>some false
  |some (.map _ _),.map _,.dB=>some false
  |some (.func _ _ _),.nilFunc,.nilFunc=>some true
  |some (.func _ _ _),.nilFunc,.func _ _ _=>some false
  |some (.func _ _ _),.func _ _ _,.nilFunc=>some false
  |_,_,_=>none
def ux:Operand→Bool
 | .const _=>true
 |_=>false
def jZ(t:TypeId)(x y:Operand)(a b:AV):Bool:=
 match a,b with
 | .nilIface,.nilIface=>ux x||ux y
 | .agg _,.agg _=> !P.eqGuardType P.depth t
 |_,_=>true
def jR(op:BinOp)(t:TypeId)(x y:Operand)(a b:AV):Option AV:=
 match a,b with
 | .int k m,.int k' n=>match op with
  | .shl=>zL .shl k m n
  | .shr=>zL .shr k m n
  |op=>match IntKind.Tf k k' with
   |true=>qj op k m n
   |false=>none
 | .str s,.str u=>E_ op s u
 | a,b=>match op with
  | .eql=>match jZ P t x y a b with
   |true=>match sM P 12 t a b with
    |some r=>some (.bool r)
    |none=>none
   |false=>none
  | .neq=>match jZ P t x y a b with
   |true=>match sM P 12 t a b with
    |some r=>some (.bool !r)
    |none=>none
   |false=>none
  |_=>none
def zk:IntKind→Int
 | .u8=>255
 | .u16=>65535
 | .u32=>4294967295
 | .u64=>18446744073709551615
 |_=> -1
def unA(op:UnOp)(x:AV):Option AV:=
 match op,x with
 | .neg,.int k n=>some (fU (bV k (0-n)) (.int k))
 | .xor,.int k n=>qj .xor k (zk k) n
 | .not,.bool b=>some (.bool !b)
 |_,_=>none
def CA(x:AV)(hi:Nat):Option Nat:=
 match x with
 | .int _ (.ofNat i)=>match az i hi with
  |true=>some i
  |false=>none
 |_=>none
def j0(x:Option AV)(hi dflt:Nat):Option Nat:=
 match x with
 |some v=>CA v hi
 |none=>some dflt
def uy(s:List Nat)(lo hi:Option AV):Option AV:=
 match j0 hi (kQ s) (kQ s)with
 |none=>none
 |some h=>match j0 lo h 0 with
  |none=>none
  |some l=>some (.str ((s.take h).drop l))
def nD(b o len c size:Nat)(lo hi mx:Option AV):Option AV:=
 match mx.isSome&&hi.isNone with
 |true=>none
 |false=>match j0 mx c c with
 |none=>none
 | some m=>match j0 hi m len with
  |none=>none
  | some h=>match j0 lo h 0 with
   |none=>none
   |some l=>match ak m l with
    |true=>some (.slice b o (h-l) (.exact (m-l)))
    |false=>some (.slice b (o+l*size) (h-l) (.exact (m-l)))
def jz(b o len i size:Nat)(lo hi mx:Option AV):Option AV:=
 match mx with
 | some mx=>match CA mx len,hi with
  | some m,some hi=>match CA hi m with
   |none=>none
   | some h=>match j0 lo h 0 with
    |none=>none
    |some l=>match ak m l with
     |true=>some (.slice b o (h-l) (.exact (m-l)))
     |false=>some (.slice b (o+l*size) (h-l) (.exact (m-l)))
  |_,_=>none
 | none=>match j0 hi len len with
  |none=>none
  | some h=>match j0 lo h 0 with
   |none=>none
   | some l=>match ak l 0 with
    |true=>some (.slice b o h (.iK i))
    |false=>match az (l+1) len with
     |true=>some (.slice b (o+l*size) (h-l) (.iK (i+l)))
     |false=>some .dq
def dF(t:TypeId)(x:AV)(lo hi mx:Option AV):Option AV:=
 match P.underlying t,x with
 |some .string,.str s=>match mx with
  |none=>uy s lo hi
  |some _=>none
 |some (.slice e),.bh=>match eQ P e,nD 0 0 0 0 0 lo hi mx with
  |true,some _=>some .bh
  |_,_=>none
 |some (.slice e),.dq=>match eQ P e,mx,j0 hi 0 0,j0 lo 0 0 with
  |true,none,some _,some _=>some .dq
  |_,_,_,_=>none
 |some (.slice e),.slice b o len (.exact c)=>match eQ P e with
  |true=>nD b o len c (P.cellsOf e) lo hi mx
  |false=>none
 |some (.slice e),.slice b o len (.iK i)=>match eQ P e with
  |true=>jz b o len i (P.cellsOf e) lo hi mx
  |false=>none
 |some (.array n e),.ptr b o=>match eQ P e with
  |true=>nD b o n n (P.cellsOf e) lo hi mx
  |false=>none
 | some (.pointer a),.ptr b o=>match P.underlying a with
  |some (.array n e)=>match eQ P e with
   |true=>nD b o n n (P.cellsOf e) lo hi mx
   |false=>none
  |_=>none
 |_,_=>none
def qE(t:TypeId)(x:AV)(h:H):Option Nat:=
 match P.underlying t,x with
 |some .string,.str s=>some (kQ s)
 |some (.array n _),_=>some n
 |some (.pointer a),_=>match P.underlying a with
  |some (.array n _)=>some n
  |_=>none
 |some (.slice _),.bh=>some 0
 |some (.slice _),.dq=>some 0
 |some (.slice _),.slice _ _ len _=>some len
 |some (.map _ _),.dB=>some 0
 |some (.map _ _),.map r=>match h.t.get r with
  |some (.map es _)=>some es.length
  |_=>none
 |_,_=>none
def O7(t:TypeId)(x:AV):Option Nat:=
 match P.underlying t,x with
 |some (.array n _),_=>some n
 |some (.slice _),.bh=>some 0
 |some (.slice _),.slice _ _ _ (.exact c)=>some c
 |_,_=>none
def qm(h:H)(size n:Nat):AV→Option (List AV)
 | .bh=>some []
 | .dq=>some []
 | .slice b o _ _=>h.row b o (n*size)
 | .str s=>some ((s.take n).map fun b=>.int .u8 (ao b))
 |_=>none
def hZ:AV→Option Nat
 | .bh=>some 0
 | .dq=>some 0
 | .slice _ _ n _=>some n
 | .str s=>some (kQ s)
 |_=>none
def small(n:Nat):Bool:=az n 4194304
def H.grown(h:H)(old:Option Nat)(esz:EK)(l:List AV):H:=
 let t:=match old with
  |some b=>h.t.set b none
  |none=>h.t
 {h with t:=t.set h.nx (some (.cells (kQ l) (T.ofRow l) esz false)),nx:=h.nx+1}
def kG(k:EK)(size:Nat)(elem:TypeId):EK:=
 match ak k.ty (elem+1)with
 |true=>⟨size,elem+1⟩
 |false=>⟨size,0⟩
def du (elem:TypeId)(size:Nat)(s:AV)(n:Nat)(new:List AV)(h:H):R:=
  match ak (kQ new) (n*size)with
   |false=>.fail
   | true =>match s with
    | .bh=>match n with
      |0=>.val .bh h
      | _=>match small n with
        |true=>.val (.slice h.nx 0 n (.iK 0)) (h.grown none ⟨size,elem+1⟩ new)
        |false=>.fail
    | .dq=>match n with
      |0=>.val .dq h
      |_=>.fail
    | .slice b o len (.exact c)=>match az (len+n) c with
      | true=>match h.put b (o+len*size) new with
        |some h=>.val (.slice b o (len+n) (.exact c)) h
        |none=>.fail
      | false=>match small (len+n),h.row b o (len*size)with
        |true,some old=>.val (.slice h.nx 0 (len+n) (.iK 0)) (h.grown none ⟨size,elem+1⟩ (old++new))
        |_,_=>.fail
    | .slice b o len (.iK i)=>match n with
      |0=>.val s h
      | _ =>match h.t.get b,ak o (i*size)with
        | some (.cells e cs esz false),true=>match ak esz.sz size with
         |false=>.fail
         |true=>match az (o+(len+n)*size) e with
          | true=>match h.put b (o+len*size) new with
            |some h=>.val (.slice b o (len+n) (.iK i)) h
            |none=>.fail
          | false=>match small (len+n),H.my cs o (len*size)with
            |true,some old=>.val (.slice h.nx 0 (len+n) (.iK 0)) (h.grown (some b) (kG esz size elem) (old++new))
            |_,_=>.fail
        |_,_=>.fail
    |_=>.fail
def lJ(elem:TypeId)(info:TypeInfo):Bool:=
 small (info.bytes+1)&&eQ P elem&& !(ak info.bytes 0||ak info.size 0|| !(match info.zero with|some z=>ak z.cells.size info.size|none=>false))
def lz(elem:TypeId)(s x:AV)(h:H):R:=
 match P.info? elem with
 |none=>.fail
 | some info=>match hZ x,lJ P elem info with
  |some n,true=>match qm h info.size n x with
   |none=>.fail
   |some new=>du elem info.size s n new h
  |_,_=>.fail
def r9(elem:TypeId)(s x:AV)(h:H):R:=
 match P.info? elem,x with
 |some info,.int _ (.ofNat n)=>match dv P elem,lJ P elem info&&small n with
  |some z,true=>du elem info.size s n (kS z.cells n) h
  |_,_=>.fail
 |_,_=>.fail
def zN(elem:TypeId)(d x:AV)(h:H):R:=
 match hZ d,hZ x with
 | some dl,some n=>
  let n:=Nat.min n dl
  match qm h (P.cellsOf elem) n x with
  |none=>.fail
  | some l=>match eQ P elem,d with
   |true,.bh=>.val (.int .i64 (ao n)) h
   |true,.dq=>.val (.int .i64 (ao n)) h
   |true,.slice b o _ _=>match h.put b o l with
    |some h=>.val (.int .i64 (ao n)) h
    |none=>.fail
   |_,_=>.fail
 |_,_=>.fail
def O8(t:TypeId)(a b:AV):Option Bool:=sM P 4 t a b
def r_(kv:TypeId→AV→Bool)(cs:List AV):List Field→Bool
 |[]=>true
 | f::fs=>match f.name== "_",eQ P f.type,xP P f.type cs f.offset with
  |false,true,some v=>match kv f.type v with
   |true=>r_ kv cs fs
   |false=>false
  |_,_,_=>false
def yU:Nat→TypeId→AV→Bool
 |0,_,_=>false
 |d+1,t,k=>match P.underlying t,k with
  |some (.int _),.int _ _=>true
  |some .string,.str _=>true
  |some .bool,.bool _=>true
  |some (.struct fs),.agg cs=>r_ P (yU d) cs fs.toList
  |_,_=>false
def Gx:AV→AV→Bool
 | .bool a,.bool b=>a==b
 | .int j a,.int k b=>IntKind.Tf j k&&a==b
 | .str a,.str b=>cL a b
 |_,_=>false
def kH:List AV→List AV→Bool
 |[],[]=>true
 |a::l,b::r=>Gx a b&&kH l r
 |_,_=>false
def Gy:AV→AV→Bool
 | .agg a,.agg b=>kH a b
 |a,b=>Gx a b
def nE(t:TypeId)(k:AV):List (AV×AV×Nat)→Nat→Option (Option (Nat×AV))
 |[],_=>some none
 |e::es,i=>match O8 P t k e.1 with
  |some true=>some (some (i,e.2.1))
  |some false=>nE t k es (i+1)
  |none=>none
def lA(t:TypeId)(x k:AV)(ok:Bool)(h:H):Option AV:=
 match P.underlying t with
 | some (.map kt elem)=>match yU P 4 kt k with
  |false=>none
  | true=>
   let es:Option (List (AV×AV×Nat)):=match x with
    | .dB=>some []
    | .map r=>match h.t.get r with
     |some (.map es _)=>some es
     |_=>none
    |_=>none
   match es with
   |none=>none
   | some es=>match nE P kt k es 0 with
    |none=>none
    |some (some (_,v))=>some (match ok with|true=>.tuple [v,.bool true]|false=>v)
    |some none=>match dv P elem with
     |some z=>some (match ok with|true=>.tuple [z,.bool false]|false=>z)
     |none=>none
 |_=>none
def jF(v:AV):List (AV×AV×Nat)→Nat→List (AV×AV×Nat)
 |[],_=>[]
 |e::es,0=>(e.1,v,e.2.2)::es
 |e::es,i+1=>e::jF v es i
def sameAt(k:AV)(es:List (AV×AV×Nat))(i:Nat):Bool:=
 match es[i]? with
 |some e=>Gy e.1 k
 |none=>false
def lB(t:TypeId)(x k v:AV)(h:H):Option H:=
 match P.underlying t,x with
 | some (.map kt _),.map r=>match yU P 4 kt k,h.t.get r with
  | true,some (.map es clock)=>match nE P kt k es 0 with
   |none=>none
   |some (some (i,_))=>match sameAt k es i with
    |true=>some {h with t:=h.t.set r (some (.map (jF v es i) clock))}
    |false=>none
   |some none=>some {h with t:=h.t.set r (some (.map (es++[(k,v,clock)]) (clock+1)))}
  |_,_=>none
 |_,_=>none
def sf(t:TypeId)(x k:AV)(h:H):Option H:=
 match P.underlying t,x with
 |some (.map kt _),.dB=>match yU P 4 kt k with
  |true=>some h
  |false=>none
 | some (.map kt _),.map r=>match yU P 4 kt k,h.t.get r with
  |true,some (.map es clock)=>match nE P kt k es 0 with
   |none=>none
   |some (some (i,_))=>some {h with t:=h.t.set r (some (.map (es.eraseIdx i) clock))}
   |some none=>some h
  |_,_=>none
 |_,_=>none
def JE(t:TypeId)(x:AV)(h:H):Option H:=
 match P.underlying t,x with
 |some (.map _ _),.dB=>some h
 |some (.map _ _),.map r=>match h.t.get r with
  |some (.map _ clock)=>some {h with t:=h.t.set r (some (.map [] clock))}
  |_=>none
 |some (.slice _),.bh=>some h
 |some (.slice _),.dq=>some h
 | some (.slice e),.slice b o len _=>match len with
  |0=>some h
  |n+1=>match dv P e with
   |some z=>h.put b o (kS z.cells (n+1))
   |none=>none
 |_,_=>none
def mE(t:TypeId)(x k:AV)(h:H):R:=
 match P.underlying t,x with
 | some (.map kt elem),.map r=>match yU P 4 kt k,h.t.get r with
  | true,some (.map es clock)=>match nE P kt k es 0 with
   |none=>.fail
   |some (some (i,v))=>match es[i]?,sameAt k es i with
    |some e,true=>.val (.tuple [v,.int .i64 (ao e.2.2)]) h
    |_,_=>.fail
   |some none=>match dv P elem with
    |some z=>.val (.tuple [z,.int .i64 (ao clock)]) {h with t:=h.t.set r (some (.map (es++[(k,z,clock)]) (clock+1)))}
    |none=>.fail
  |_,_=>.fail
 |_,_=>.fail
def uz(born:Int):List (AV×AV×Nat)→Nat→Option Nat
 |[],_=>none
 |e::es,i=>match(ao e.2.2==born)with
  |true=>some i
  |false=>uz born es (i+1)
def qF(x Dm v:AV)(h:H):Option H:=
 match x,Dm with
 | .map r,.int _ born=>match h.t.get r with
  |some (.map es clock)=>match uz born es 0 with
   |some i=>some {h with t:=h.t.set r (some (.map (jF v es i) clock))}
   |none=>none
  |_=>none
 |_,_=>none
def mapOf:Option iI→Option (List (AV×AV×Nat)×Nat)
 |some (.map es c)=>some (es,c)
 |some (.xO es c)=>some (es,c)
 |_=>none
def nT(t:TypeId)(x:AV)(h:H):R:=
 match P.underlying t,x with
 |some .string,.str s=>.val (.ptr h.nx 0) (h.alloc (.jW s 0))
 |some (.map _ _),.dB=>.val (.ptr h.nx 0) (h.alloc (.mapIter none 0 [] 0))
 |some (.map _ _),.map m=>match mapOf (h.t.get m)with
  |some (_,clock)=>.val (.ptr h.nx 0) (h.alloc (.mapIter (some m) clock [] clock))
  |none=>.fail
 |_,_=>.fail
def iM(l:List Nat)(x:Nat):Bool:=match l with
 |[]=>true
 |y::l=>match ak x y with
  |true=>false
  |false=>iM l x
def Dn(x:AV)(isString:Bool)(h:H):R:=
 match x with
 | .ptr r 0=>match h.t.get r,isString with
  | some (.jW s pos),true=>match s[pos]? with
   |some b=>match aB b 128 with
    |true=>.val (.tuple [.bool true,.int .i64 (ao pos),.int .i32 (ao b)]) {h with t:=h.t.set r (some (.jW s (pos+1)))}
    |false=>.fail
   |none=>.val (.tuple [.bool false]) h
  |some (.mapIter none _ _ _),false=>.val (.tuple [.bool false]) h
  | some (.mapIter (some m) since seen last),false=>match h.t.get m with
   | some (.map es clock)=>
    match !seen.isEmpty&& !es.isEmpty&&es.all (fun e=>az last e.2.2)with
    |true=>.fail
    | false=>match es.filter (fun e=>iM seen e.2.2)with
     |[]=>.val (.tuple [.bool false]) h
     |[e]=>match aB e.2.2 since with
      |true=>.val (.tuple [.bool true,e.1,e.2.1]) {h with t:=h.t.set r (some (.mapIter (some m) since (seen++[e.2.2]) clock))}
      |false=>.fail
     |_=>.fail
   |_=>.fail
  |_,_=>.fail
 |_=>.fail
def wJ:List Nat→Option Nat
 |[]=>none
 |x::l=>match l with
  |[]=>some x
  |_::_=>wJ l
def mF(b:Nat):List (AV×AV×Nat)→Option AV
 |[]=>none
 |e::es=>match ak e.2.2 b with
  |true=>some (.tuple [e.1,e.2.1])
  |false=>mF b es
def nU(x:AV)(h:H):Option AV:=
 match x with
 | .ptr r 0=>match h.t.get r with
  | some (.mapIter (some m) _ seen uw)=>match wJ seen,mapOf (h.t.get m)with
   |some Dm,some (es,clock)=>match ak clock uw with
    |true=>mF Dm es
    |false=>none
   |_,_=>none
  |_=>none
 |_=>none
def bP(tm:T AV):Operand→Option AV
 | .tmp t=>match tm.get t with
  |some v=>some v
  |none=>some jd
 | .const v=>jY v
 | .global _=>none
 | .func f=>some (.func f [] [])
def mg(tm:T AV)(h:H)(x:Operand):Option AV:=
 match x with
 | .global g=>match aB g h.g with
  |true=>some (.ptr g 0)
  |false=>none
 |x=>bP tm x
def fD(tm:T AV):List Operand→Option (List AV)
 |[]=>some []
 | x::l=>match bP tm x with
  |none=>none
  |some v=>match fD tm l with
   |none=>none
   |some vs=>some (v::vs)
def mh(tm:T AV):List (Nat×Operand)→Option (List (Nat×AV))
 |[]=>some []
 | (i,x)::l=>match bP tm x with
  |none=>none
  |some v=>match mh tm l with
   |none=>none
   |some vs=>some ((i,v)::vs)
def kI(tm:T AV):Option Operand→Option (Option AV)
 |none=>some none
 |some x=>match bP tm x with
  |none=>none
  |some v=>some (some v)
def nF(f:FuncId):Bool:=
 match P.funcs[f]? with
 |some fn=>fn.body.isSome&& !(fn.name== "runtime.NumGoroutine")
 |none=>false
def je(f:AV)(args:List AV)(h:H):R:=
 match f with
 | .func f first captured=>match nF P f with
  |true=>.enter f (first ++args++captured) h
  |false=>.ext f (first ++args++captured) h
 | .yield l=>.round l args h
 |_=>.fail
def eM(h:H):Option AV→R
 |some v=>.val v h
 |none=>.fail
def O9:Option H→R
 |some h=>.skip h
 |none=>.fail
def placeOf(fields:List Field)(i:Nat):Option (Nat×Nat):=
 match fields[i]? with
 |some f=>some (f.offset,P.cellsOf f.type)
 |none=>none
def wK(t:TypeId)(parts:List (Nat×AV)):Option AV:=
 match dv P t,P.underlying t with
 |some z,some (.struct fields)=>
  match fields.toList.all (fun f=>eQ P f.type)with
  |false=>none
  |true=>match sV (placeOf P fields.toList) z.cells parts with
  |some l=>some (.agg l)
  |none=>none
 |some z,some (.array _ elem)=>
  let size:=P.cellsOf elem
  match eQ P elem with
  |false=>none
  |true=>match sV (fun i=>some (i*size,size)) z.cells parts with
  |some l=>some (.agg l)
  |none=>none
 |_,_=>none
def fV(t:TypeId)(len:Nat)(parts:List (Nat×AV))(h:H):R:=
 match P.underlying t with
 | some (.slice elem)=>
  let size:=P.cellsOf elem
  match eQ P elem,small (len*size),dv P elem with
  | true,true,some z=>match ak z.cells.length size,sV (fun i=>some (i*size,size)) (kS z.cells len) parts with
   |true,some l=>match dN l with
    |true=>.val (.slice h.nx 0 len (.exact len)) (h.bq elem l)
    |false=>.fail
   |_,_=>.fail
  |_,_,_=>.fail
 |_=>.fail
def jG(t:TypeId)(len cap:AV)(h:H):R:=
 match P.underlying t,len,cap with
 | some (.slice elem),.int _ (.ofNat l),.int _ (.ofNat c)=>match P.info? elem,dv P elem,az l c&&small c with
  |some info,some z,true=>match eQ P elem&&small info.bytes&&ak z.cells.length info.size&&az 1 info.size with
   |true=>.val (.slice h.nx 0 l (.exact c)) (h.bq elem (kS z.cells c))
   |false=>.fail
  |_,_,_=>.fail
 |_,_,_=>.fail
def bO(t:TypeId)(x:AV)(i:Nat):Option AV:=
 match P.underlying t,x with
 | some (.struct fields),.ptr b o=>match fields.toList[i]? with
  |some f=>match ak (P.cellsOf f.type) 0 with
   |true=>none
   |false=>some (.ptr b (o+f.offset))
  |none=>none
 |_,_=>none
def wL(t:TypeId)(x:AV)(i:Nat):Option AV:=
 match P.underlying t,x with
 | some (.struct fields),.agg cs=>match fields.toList[i]? with
  |some f=>match eQ P f.type with
   |true=>xP P f.type cs f.offset
   |false=>none
  |none=>none
 |_,_=>none
def eu(t:TypeId)(x ix:AV):Option AV:=
 match ix with
 | .int _ (.ofNat i)=>match P.underlying t,x with
  |some (.array len e),.ptr b o=>match aB i len&&eQ P e with
   |true=>some (.ptr b (o+i*P.cellsOf e))
   |false=>none
  |some (.slice e),.slice b o len _=>match aB i len&&eQ P e with
   |true=>some (.ptr b (o+i*P.cellsOf e))
   |false=>none
  |_,_=>none
 |_=>none
def nV(t:TypeId)(x ix:AV):Option AV:=
 match ix with
 | .int _ (.ofNat i)=>match P.underlying t,x with
  |some (.array len e),.agg cs=>match aB i len&&eQ P e with
   |true=>xP P e cs (i*P.cellsOf e)
   |false=>none
  |some .string,.str s=>match s[i]? with
   |some b=>some (.int .u8 (ao b))
   |none=>none
  |_,_=>none
 |_=>none
def isByte:AV→Bool
 | .int .u8 (.ofNat _)=>true
 |_=>false
def byteOf:AV→Nat
 | .int .u8 (.ofNat n)=>n%256
 |_=>0
noncomputable def nG(l:List AV):Bool:=
 aM (motive:=fun _=>Bool) true (fun x _ ih=>match isByte x with|true=>ih|false=>false) l
def o_(l:List AV):Option (List Nat):=
 match nG l with
 |true=>some (l.map byteOf)
 |false=>none
def gF(src dst:TypeId)(x:AV)(h:H):R:=
 match P.underlying src,P.underlying dst,x with
 |some _,some (.int k),.int _ n=>.val (fU (bV k n) (.int k)) h
 |some _,some .string,.str s=>.val (.str s) h
 |some _,some (.slice e),.str s=>match P.underlying e,small (kQ s)with
  |some (.int .u8),true=>.val (.slice h.nx 0 (kQ s) (.iK 0)) (h.grown none ⟨1,e+1⟩ (s.map fun b=>.int .u8 (ao b)))
  |_,_=>.fail
 |some (.slice e),some .string,.bh=>match P.underlying e with
  |some (.int .u8)=>.val (.str []) h
  |_=>.fail
 |some (.slice e),some .string,.dq=>match P.underlying e with
  |some (.int .u8)=>.val (.str []) h
  |_=>.fail
 | some (.slice e),some .string,.slice b o len _=>match P.underlying e with
  | some (.int .u8)=>match h.row b o len with
   |some l=>match o_ l with
    |some s=>.val (.str s) h
    |none=>.fail
   |none=>.fail
  |_=>.fail
 |_,_,_=>.fail
def iz(t:TypeId)(x:AV)(h:H):R:=
 match x with
 | .cN=>.val .cN h
 | .ptr b o=>match h.t.get b with
  |some (.cells n _ _ _)=>match aB o n&&eQ P t&&az 1 (P.cellsOf t)with
   |true=>.val (.ptr b o) h
   |false=>.fail
  |_=>.fail
 |_=>.fail
def fA(u:TypeId)(x:AV)(h:H):R:=
 match x with
 | .cN=>.val .cN h
 | .ptr b 0=>match h.t.get b with
  |some (.cells n _ ⟨0,ty⟩ _)=>match ak ty (u+1)&&eQ P u&&az 1 (P.cellsOf u)&&az (P.cellsOf u) n with
   |true=>.val (.ptr b 0) h
   |false=>.fail
  |_=>.fail
 |_=>.fail
def kT(x:AV):Option AV:=
 match x with
 | .bh=>some .cN
 | .slice b o len c=>match c with
  | .exact c=>match ak c 0 with
   |true=>none
   |false=>some (.ptr b o)
  | .iK _=>match ak len 0 with
   |true=>none
   |false=>some (.ptr b o)
 |_=>none
def iN(pt:TypeId)(p:AV)(n:Nat)(h:H):R:=
 match n with
 |0=>match p with
  | .cN=>.val (.str []) h
  | .ptr _ _=>.val (.str []) h
  |_=>.fail
 | n +1=>match p,P.underlying pt with
  | .ptr b o,some (.pointer e)=>match h.t.get b with
   | some (.cells m cs esz false)=>match ak esz.ty (e+1)&&ak (P.cellsOf e) 1&&eQ P e&&small (n+1),H.my cs o (n+1)with
    |true,some l=>match o_ l with
     |some s=>.val (.str s) {h with t:=h.t.set b (some (.cells m cs esz true))}
     |none=>.fail
    |_,_=>.fail
   |_=>.fail
  |_,_=>.fail
def Nn(x y:Int):Int:=match Int.decLt y x with|isTrue _=>y|isFalse _=>x
def bQ(b:Builtin)(argTypes:List TypeId)(args:List AV)(h:H):R:=
 match b,argTypes,args with
 | .len,t::_,x::_=>match qE P t x h with
  |some n=>.val (.int .i64 (ao n)) h
  |none=>.fail
 | .cap,t::_,x::_=>match O7 P t x with
  |some n=>.val (.int .i64 (ao n)) h
  |none=>.fail
 | .append,t::u::_,s::x::_=>match P.underlying t,P.underlying u with
  |some (.slice e),some (.int _)=>r9 P e s x h
  |some (.slice e),some _=>lz P e s x h
  |_,_=>.fail
 | .copy,t::_,d::x::_=>match P.underlying t with
  |some (.slice e)=>zN P e d x h
  |_=>.fail
 | .delete,t::_,m::k::_=>match sf P t m k h with
  |some h=>.val jd h
  |none=>.fail
 | .clear,t::_,[x]=>match JE P t x h with
  |some h=>.val jd h
  |none=>.fail
 | .max,_,[.int k x,.int _ y]=>.val (.int k (match Int.decLt x y with|isTrue _=>y|isFalse _=>x)) h
 | .min,_,[.int k x,.int _ y]=>.val (.int k (match Int.decLt y x with|isTrue _=>y|isFalse _=>x)) h
 | .min,_,[.int k x,.int _ y,.int _ z]=>.val (.int k (Nn (Nn x y) z)) h
 | .recover,_,[]=>.recover h
 | .panic,_,[.iface t v]=>.panic (.iface t v) h
 | .unsafeSliceData,_,[x]=>eM h (kT x)
 | .unsafeString,pt::_,[p,.int .i64 (.ofNat n)]=>iN P pt p n h
 |_,_,_=>.fail
def d_(h:H)(a b:AV):Bool:=
 match a with
 | .ptr x o=>match b with
  | .ptr y p=>match ak x y with
   |true=>false
   |false=>match h.t.get x,h.t.get y with
    |some (.cells n _ k false),some (.cells m _ _ false)=>aB o n&&aB p m&&ak k.sz 0
    |_,_=>false
  |_=>false
 |_=>false
def lW(op:BinOp)(t:TypeId)(h:H):R:=
 match P.underlying t with
 |some (.pointer e)=>match eQ P e&&az 1 (P.cellsOf e),op with
  |true,.eql=>.val (.bool false) h
  |true,.neq=>.val (.bool true) h
  |_,_=>.fail
 |_=>.fail
def bF(tm:T AV)(h:H)(o:Op):R:=
 match o with
 | .move x=>eM h (bP tm x)
 | .assign x=>eM h (bP tm x)
 | .pick c a b=>match bP tm c with
  |some (.bool true)=>eM h (bP tm a)
  |some (.bool false)=>eM h (bP tm b)
  |_=>.fail
 | .alloc t=>match dv P t with
  |some z=>.val (.ptr h.nx 0) (h.bq t z.cells)
  |none=>.fail
 | .box t x=>match bP tm x with
  |some v=>match dN v.cells with
   |true=>.val (.ptr h.nx 0) (h.bq t v.cells)
   |false=>.fail
  |none=>.fail
 | .build t parts=>match mh tm parts.toList with
  |some l=>eM h (wK P t l)
  |none=>.fail
 | .buildSlice t len parts=>match mh tm parts.toList with
  |some l=>fV P t len l h
  |none=>.fail
 | .load t x=>match eQ P t,mg tm h x with
  |true,some (.ptr b o)=>eM h (dJ P h t b o)
  |_,_=>.fail
 | .store t x y=>match eQ P t,bP tm x,bP tm y with
  |true,some (.ptr b o),some v=>O9 (eT P h t b o v)
  |_,_,_=>.fail
 | .nilCheck x=>match bP tm x with
  |some .cN=>.fail
  |some .nilIface=>.fail
  |some .nilFunc=>.fail
  |some v=>.val v h
  |none=>.fail
 | .binOp op t x y _=>match bP tm x,bP tm y with
  |some a,some b=>match d_ h a b with
   |true=>lW P op t h
   |false=>eM h (jR P op t x y a b)
  |_,_=>.fail
 | .unOp op _ x=>match bP tm x with
  |some v=>eM h (unA op v)
  |none=>.fail
 | .convert src dst x=>match bP tm x with
  |some v=>match P.underlying src,P.underlying dst with
   |some (.pointer t),some .unsafePointer=>iz P t v h
   |some .unsafePointer,some (.pointer u)=>fA P u v h
   |_,_=>gF P src dst v h
  |none=>.fail
 | .makeInterface t x=>match P.underlying t,bP tm x with
  |some (.interface _),_=>.fail
  |some _,some v=>.val (.iface t v) h
  |_,_=>.fail
 | .makeFunc (.func f) first captured=>match fD tm first.toList,fD tm captured.toList with
  |some a,some b=>.val (.func f a b) h
  |_,_=>.fail
 | .makeMap t r=>match P.underlying t,kI tm r with
  |some (.map _ _),some none=>.val (.map h.nx) (h.alloc (.map [] 0))
  |some (.map _ _),some (some (.int _ _))=>.val (.map h.nx) (h.alloc (.map [] 0))
  |_,_=>.fail
 | .makeSlice t l c=>match bP tm l,bP tm c with
  |some l,some c=>jG P t l c h
  |_,_=>.fail
 | .slice t x lo hi mx=>match bP tm x,kI tm lo,kI tm hi,kI tm mx with
  |some x,some lo,some hi,some mx=>eM h (dF P t x lo hi mx)
  |_,_,_,_=>.fail
 | .fieldAddr t x i=>match mg tm h x with
  |some v=>eM h (bO P t v i)
  |none=>.fail
 | .field t x i=>match bP tm x with
  |some v=>eM h (wL P t v i)
  |none=>.fail
 | .indexAddr t x i=>match mg tm h x,bP tm i with
  |some x,some i=>eM h (eu P t x i)
  |_,_=>.fail
 | .index t x i=>match bP tm x,bP tm i with
  |some x,some i=>eM h (nV P t x i)
  |_,_=>.fail
 | .lookup t x i ok=>match bP tm x,bP tm i with
  |some x,some i=>eM h (lA P t x i ok h)
  |_,_=>.fail
 | .mapUpdate t m k x=>match bP tm m,bP tm k,bP tm x with
  |some m,some k,some x=>O9 (lB P t m k x h)
  |_,_,_=>.fail
 | .insert t m k x=>match bP tm m,bP tm k,bP tm x with
  |some m,some k,some x=>O9 (lB P t m k x h)
  |_,_,_=>.fail
 | .mapEntry t m k=>match bP tm m,bP tm k with
  |some m,some k=>mE P t m k h
  |_,_=>.fail
 | .entryStore _ m s x=>match bP tm m,bP tm s,bP tm x with
  |some m,some s,some x=>O9 (qF m s x h)
  |_,_,_=>.fail
 | .range t x=>match bP tm x with
  |some v=>nT P t v h
  |none=>.fail
 | .next x s=>match bP tm x with
  |some v=>Dn v s h
  |none=>.fail
 | .entry x=>match bP tm x with
  |some v=>eM h (nU v h)
  |none=>.fail
 | .extract x i=>match bP tm x with
  |some (.tuple vs)=>eM h vs[i]?
  |_=>.fail
 | .call {callee,args,argTypes}=>match fD tm args.toList with
  |none=>.fail
  | some args=>match callee with
   | .value f=>match bP tm f with
    |some f=>je P f args h
    |none=>.fail
   | .builtin b=>bQ P b argTypes.toList args h
   | .invoke _ _=>.fail
 | .defer {callee:=.value f,args, .. }=>match bP tm f,fD tm args.toList with
  |some (.func f first captured),some args=>match nF P f with
   |true=>.defer (.call f (first ++args) captured) h
   |false=>.fail
  |_,_=>.fail
 | .panic x=>match bP tm x with
  |some (.iface t v)=>.panic (.iface t v) h
  |_=>.fail
 |_=>.fail
def j6(id:Nat):List iL→Option (List iL)
 | .inBlock id'::k=>match ak id' id with
  |true=>some k
  |false=>j6 id k
 |_::k=>j6 id k
 |[]=>none
def pa(l:Nat):List iL→Option (List iL)
 | .inScope body::k=>match findLabel body l with
  |some rest=>some (.code rest:: .inScope body::k)
  |none=>pa l k
 |_::k=>pa l k
 |[]=>none
def bY.qn(fr:bY)(d:Option Tmp)(v:AV):T AV:=
 match d with
 |some d=>match aB d fr.nt with
  |true=>fr.tm.set d (some v)
  |false=>fr.tm
 |none=>fr.tm
def bY.sg(fr:bY)(v:AV):Option bY:=
 match fr.todo with
 | .ops ops (o::l)::k=>some {fr with tm:=fr.qn o.dst v,todo:=.ops ops l::k}
 | .inRangeFunc l::k=>some {fr with todo:=.endRangeFunc l::k}
 | .beginRound::k=>some {fr with todo:=k}
 |_=>none
def mi(nt:Nat):Option Tmp→Bool
 |none=>true
 |some d=>aB d nt
def bY.Fc(fr:bY)(d:qi)(v:AV):Option bY:=
 match d.wait,d.rem with
 |true,(_,o)::rem=>match mi fr.nt o.dst with
  |true=>some {fr with tm:=fr.qn o.dst v,dr:=some {d with rem,wait:=false}}
  |false=>none
 |_,_=>none
def bY.finish(fr:bY)(v:AV):Option bY:=
 match fr.dr with
 |none=>fr.sg v
 |some d=>fr.Fc d v
def W8(m:zK)(vs:List mL):zK:=
 match m with
 | .panicking chain=>.panicking (vs++chain)
 |_=>.panicking vs
def bY.O_(fr:bY)(vs:List mL):bY:={fr with mode:=W8 fr.mode vs}
def bY.raise(fr:bY)(vs:List mL):Option bY:=
 match fr.dr,fr.mode with
 |none,_=>some (fr.O_ vs)
 |some _,.run=>some {fr with mode:=.panicking vs}
 |_,_=>none
def lX(f:FuncId)(args:List AV)(kind:CallKind):Option bY:=
 match P.funcs[f]? with
 |some fn=>match fn.body with
  |some c=>some {fn:=f,nt:=Nat.max args.length fn.ntmps,tm:=T.fill .e 0 args,todo:=[.code c],defers:=[],mode:=.run,kind,roundOf:=none}
  |none=>none
 |none=>none
def jA(fr:bY)(ops:Array Oper)(o:Oper):Bool:=
 match o.guard with
 |none=>true
 | some (j,want)=>match ops.toList[j]? with
  | some oj=>match oj.dst with
   |some d=>match fr.tm.get d with
    |some (.bool b)=>b==want
    |_=>false
   |none=>false
  |none=>false
def sW(s:S)(v:AV)(h:H):Option S:=
 match s.cs with
 |[]=>none
 | c::cs=>match s.fr.kind with
  | .normal=>match c.finish v with
   |some c=>some {fr:=c,cs,h}
   |none=>none
  | .deferred=>match c.mode with
   | .panicking ({recovered:=true, .. }::_)=>some {fr:={c with mode:=.returning},cs,h}
   |_=>some {fr:=c,cs,h}
  |_=>none
def Gz:Option Code→LoopState
 |none=>.ready
 |some _=>.done
def mM(s:S)(jump:Option Code):Option S:=
 match s.fr.roundOf with
 |none=>match jump with
  |none=>some {s with fr:={s.fr with mode:=.returning}}
  |some .ret=>some {s with fr:={s.fr with mode:=.returning}}
  |_=>none
 | some l=>match s.fr.kind,s.h.t.get l with
  | .normal,some (.loop r)=>
   sW s (.bool jump.isNone) {s.h with t:=s.h.t.set l (some (.loop {r with state:=Gz jump,pending:=jump}))}
  |_,_=>none
def iA(nt:Nat)(tm:T AV):List Tmp→List AV→Option (T AV)
 |[],[]=>some tm
 |t::ts,v::vs=>match aB t nt with
  |true=>iA nt (tm.set t (some v)) ts vs
  |false=>none
 |_,_=>none
def zO(fr:bY)(cs:List bY):Option (AV×List bY):=
 match fr.kind,cs with
 | .normal,_=>some (.nilIface,cs)
 | .deferred,c::rest=>match c.mode with
  | .panicking ({v,recovered:=false}::sX)=>some (v,{c with mode:=.panicking ({v,recovered:=true}::sX)}::rest)
  |_=>some (.nilIface,c::rest)
 |_,_=>none
def gG(K:lI)(s:S):R→Option S
 | .val v h=>match s.fr.finish v with
  |some fr=>some {s with fr,h}
  |none=>none
 | .skip h=>match s.fr.finish jd with
  |some fr=>some {s with fr,h}
  |none=>none
 | .ext f args h=>match K.ext f args h with
  |some (v,h)=>match s.fr.finish v with
   |some fr=>some {s with fr,h}
   |none=>none
  |none=>none
 | .enter f args h=>match K.call f args h with
  |some (v,h)=>match s.fr.finish v with
   |some fr=>some {s with fr,h}
   |none=>none
  |none=>match lX P f args .normal with
   |some fr=>some {fr,cs:=s.fr::s.cs,h}
   |none=>none
 | .round l args h=>match h.t.get l with
  |some (.loop r)=>match iA r.nt r.tm r.params args with
   |some tm=>some {fr:={fn:=r.fn,nt:=r.nt,tm,todo:=[.code r.assign,.beginRound,.code r.body],defers:=[],mode:=.run,kind:=.normal,roundOf:=some l},cs:=s.fr::s.cs,h}
   |none=>none
  |_=>none
 | .defer d h=>match s.fr.roundOf with
  |some _=>none
  |none=>match {s.fr with defers:=d::s.fr.defers:bY}.finish jd with
   |some fr=>some {s with fr,h}
   |none=>none
 | .recover h=>match s.fr.roundOf with
  |some _=>none
  | none=>match zO s.fr s.cs with
   |some (v,cs)=>match s.fr.finish v with
    |some fr=>some {fr,cs,h}
    |none=>none
   |none=>none
 | .panic v h=>match s.fr.raise [{v,recovered:=false}]with
  |some fr=>some {s with fr,h}
  |none=>none
 | .fail=>none
def yV(n:Nat):List Nat→Bool
 |[]=>false
 |m::l=>match ak n m with
  |true=>true
  |false=>yV n l
def cu:List Edge→List Nat
 |[]=>[]
 |e::l=>match Region.binds .any e with
  |true=>e.on::cu l
  |false=>cu l
def kD(i:Nat):List Oper→List (Nat×Oper)
 |[]=>[]
 |o::l=>(i,o)::kD (i+1) l
def tmpsOf:List Operand→List Tmp
 |[]=>[]
 | .tmp t::l=>t::tmpsOf l
 |_::l=>tmpsOf l
def kJ(ops:Array Oper)(j:Nat):Option Tmp:=
 match ops.toList[j]? with
 |some o=>o.dst
 |none=>none
def slotsOf(ops:Array Oper)(o:Oper):List Tmp:=
 match o.guard with
 |none=>tmpsOf o.op.operands.toList
 |some (j,_)=>match kJ ops j with
  |some d=>d::tmpsOf o.op.operands.toList
  |none=>tmpsOf o.op.operands.toList
def iY(tm:T AV):List Tmp→T AV
 |[]=>.e
 |t::l=>(iY tm l).set t (tm.get t)
def cO:Op→Bool
 | .move _=>true
 | .pick _ _ _=>true
 | .load _ _=>true
 | .nilCheck _=>true
 | .binOp _ _ _ _ _=>true
 | .unOp _ _ _=>true
 | .makeInterface _ _=>true
 | .makeFunc _ _ _=>true
 | .slice _ _ _ _ _=>true
 | .fieldAddr _ _ _=>true
 | .field _ _ _=>true
 | .indexAddr _ _ _=>true
 | .index _ _ _=>true
 | .extract _ _=>true
 | .build _ _=>true
 | .call {callee:=.builtin .len, .. }=>true
 | .call {callee:=.builtin .cap, .. }=>true
 | .call {callee:=.builtin .min, .. }=>true
 | .call {callee:=.builtin .max, .. }=>true
 | .lookup _ _ _ _=>true
 |_=>false
mutual
def AV.same:AV→AV→Bool
 | .bool a,.bool b=>a==b
 | .int k a,.int j b=>IntKind.Tf k j&&a==b
 | .str a,.str b=>cL a b
 | .cN,.cN=>true
 | .ptr a b,.ptr c d=>ak a c&&ak b d
 | .bh,.bh=>true
 | .dq,.dq=>true
 | .slice b o l (.exact c),.slice b' o' l' (.exact c')=>ak b b'&&ak o o'&&ak l l'&&ak c c'
 | .slice b o l (.iK c),.slice b' o' l' (.iK c')=>ak b b'&&ak o o'&&ak l l'&&ak c c'
 | .dB,.dB=>true
 | .map a,.map b=>ak a b
 | .func f a b,.func g c d=>ak f g&&AV.kH a c&&AV.kH b d
 | .yield a,.yield b=>ak a b
 | .nilFunc,.nilFunc=>true
 | .iface t x,.iface u y=>ak t u&&AV.same x y
 | .nilIface,.nilIface=>true
 | .agg a,.agg b=>AV.kH a b
 | .tuple a,.tuple b=>AV.kH a b
 |_,_=>false
def AV.kH:List AV→List AV→Bool
 |[],[]=>true
 |a::l,b::m=>AV.same a b&&AV.kH l m
 |_,_=>false
end
def dL(tm:T AV)(ops:Array Oper)(o:Oper):Bool:=
 match o.guard with
 |none=>true
 | some (j,want)=>match kJ ops j with
  |some d=>match tm.get d with
   |some (.bool b)=>b==want
   |_=>false
  |none=>false
def qH(tm:T AV)(h:H)(ops:Array Oper)(o:Oper):R:=
 match dL (iY tm (slotsOf ops o)) ops o with
 |true=>bF P (iY tm (slotsOf ops o)) h o.op
 |false=>.val jd h
def eV:Op→Bool
 | .convert _ _ _=>true
 |_=>false
def eR(tm:T AV)(h:H)(ops:Array Oper)(o:Oper):Option AV:=
 match cO o.op with
 |true=>match qH P tm h ops o with
  | .val v _=>some v
  |_=>none
 | false=>match eV o.op with
  | true=>match qH P tm h ops o with
   | .val v _=>match v with
    | .int k n=>some (.int k n)
    | .str s=>some (.str s)
    | .tuple []=>some jd
    |_=>none
   |_=>none
  |false=>none
def si:List AV→List AV→Bool
 |[],[]=>true
 |x::l,y::m=>AV.same x y&&si l m
 |_,_=>false
def T.same:T AV→T AV→Bool
 | .e,.e=>true
 | .row xs,.row ys=>si xs ys
 | .n l v r,.n l' v' r'=>match v,v' with
  |none,none=>T.same l l'&&T.same r r'
  |some x,some y=>AV.same x y&&(T.same l l'&&T.same r r')
  |_,_=>false
 |_,_=>false
def nW(tm:T AV):Op→Option (TypeId×List AV)
 | .alloc t=>match dv P t with
  |some z=>some (t,z.cells)
  |none=>none
 | .box t x=>match bP tm x with
  |some v=>match dN v.cells with
   |true=>some (t,v.cells)
   |false=>none
  |none=>none
 |_=>none
def cG(o:Oper):Bool:=
 match o.guard,o.op with
 |none,.alloc _=>true
 |none,.box _ _=>true
 |_,_=>false
def sN(o:Oper):Bool:=
 match o.op with
 | .buildSlice _ _ _=>true
 | .makeSlice _ _ _=>true
 |_=>false
def GA(o:Oper):Bool:=cG o||sN o
def GB(t:TypeId)(len:Nat)(parts:List (Nat×AV)):Option (TypeId×List AV×Nat):=
 match P.underlying t with
 | some (.slice elem)=>
  let size:=P.cellsOf elem
  match eQ P elem,small (len*size),dv P elem with
  | true,true,some z=>match ak z.cells.length size,sV (fun i=>some (i*size,size)) (kS z.cells len) parts with
   |true,some l=>match dN l with
    |true=>some (elem,l,len)
    |false=>none
   |_,_=>none
  |_,_,_=>none
 |_=>none
def W9(t:TypeId)(x y:AV):Option (TypeId×List AV×Nat):=
 match P.underlying t,x,y with
 | some (.slice elem),.int _ (.ofNat l),.int _ (.ofNat c)=>match P.info? elem,dv P elem,ak l c&&small c with
  |some info,some z,true=>match eQ P elem&&small info.bytes&&ak z.cells.length info.size&&az 1 info.size with
   |true=>some (elem,kS z.cells c,c)
   |false=>none
  |_,_,_=>none
 |_,_,_=>none
def gH(tm:T AV):Op→Option (TypeId×List AV×Nat)
 | .buildSlice t len parts=>match mh tm parts.toList with
  |some l=>GB P t len l
  |none=>none
 | .makeSlice t l c=>match bP tm l,bP tm c with
  |some x,some y=>W9 P t x y
  |_,_=>none
 |_=>none
def lY(nt:Nat)(tm:T AV)(d:Option Tmp)(v:AV):Bool:=
 match d with
 |none=>true
 | some d=>match aB d nt with
  |false=>false
  |true=>match tm.get d with
   |some u=>AV.same v u
   |none=>false
def h_(t:TypeId)(l:List AV)(o:Option iI):Bool:=
 match o with
 |some (.cells n cs ⟨0,ty⟩ false)=>ak n (kQ l)&&(T.same cs (T.ofRow l)&&ak ty (t+1))
 |_=>false
def qI(nt:Nat)(tm:T AV)(h:H)(ops:Array Oper)(o:Oper)(b:Nat):Bool:=
 match cG o with
 | false=>match sN o with
  |false=>match eR P tm h ops o with
   |none=>false
   |some v=>lY nt tm o.dst v
  | true=>match dL (iY tm (slotsOf ops o)) ops o with
   |false=>false
   | true=>match gH P (iY tm (slotsOf ops o)) o.op with
    |none=>false
    |some (t,l,n)=>match h_ t l (h.t.get b)with
     |false=>false
     |true=>lY nt tm o.dst (.slice b 0 n (.exact n))
 | true=>match nW P (iY tm (slotsOf ops o)) o.op with
  |none=>false
  |some (t,l)=>match h_ t l (h.t.get b)with
   |false=>false
   |true=>lY nt tm o.dst (.ptr b 0)
def jB(nt:Nat)(tm:T AV)(h:H)(ops:Array Oper):List (Nat×Oper×Nat)→Bool
 |[]=>true
 |(_,o,b)::l=>match qI P nt tm h ops o b with
  |true=>jB nt tm h ops l
  |false=>false
def Pa(B:List Nat):List Nat→Bool
 |[]=>false
 |e::l=>match yV e B with
  |true=>true
  |false=>Pa B l
def ib(i:Nat)(B:List Nat):List (Nat×Oper)→Bool
 |[]=>true
 | (j,o)::l=>match ak j i with
  |true=>false
  |false=>match Pa B (cu o.after.toList)with
   |true=>ib i (j::B) l
   |false=>false
def dQ(B:List Nat):List (Nat×Oper×Nat)→List (Nat×Oper×Nat)
 |[]=>[]
 |(j,o,b)::l=>match yV j B with
  |true=>dQ (cu o.after.toList++B) l
  |false=>(j,o,b)::dQ B l
def JF(B:List Nat):List Nat→Bool
 |[]=>true
 |e::l=>match yV e B with
  |true=>JF B l
  |false=>false
def lvOk(lv:Nat)(o:Oper):Bool:=
 match lv with
 |0=>cO o.op||cG o
 |1=>eV o.op||sN o
 |_=>true
def zP(lv:Nat)(done:List Nat):List (Nat×Oper)→Option (Nat×Oper)
 |[]=>none
 |(i,o)::l=>match lvOk lv o&& !yV i done&&JF done (cu o.after.toList)with
  |true=>some (i,o)
  |false=>zP lv done l
def zQ(all:List (Nat×Oper)):Nat→List Nat→List (Nat×Oper)
 |0,_=>[]
 | n+1,done=>match zP 0 done all with
  |some (i,o)=>(i,o)::zQ all n (i::done)
  | none=>match zP 1 done all with
   |some (i,o)=>(i,o)::zQ all n (i::done)
   |none=>match zP 2 done all with
    |some (i,o)=>(i,o)::zQ all n (i::done)
    |none=>[]
def GC(done:List Nat):List (Nat×Oper)→Bool
 |[]=>true
 |(i,o)::l=>match !yV i done&&JF done (cu o.after.toList)with
  |true=>GC (i::done) l
  |false=>false
def CB(o:Oper):Bool:=cO o.op||cG o||eV o.op||sN o
def zR(t:Tmp)(k:Nat)(es:List Nat):List (Nat×Oper)→Bool
 |[]=>true
 | (j,o)::l=>match o.dst with
  |none=>zR t k es l
  | some d=>match ak d t with
   |false=>zR t k es l
   | true=>match ak j k with
    |true=>false
    |false=>match yV j es|| !CB o&&yV k (cu o.after.toList)with
     |true=>zR t k es l
     |false=>false
def zS(k:Nat)(es:List Nat)(all:List (Nat×Oper)):List Tmp→Bool
 |[]=>true
 |t::l=>match zR t k es all with
  |true=>zS k es all l
  |false=>false
def GD(ops:Array Oper)(all:List (Nat×Oper)):List (Nat×Oper)→Bool
 |[]=>true
 |(k,o)::l=>match zS k (cu o.after.toList) all (slotsOf ops o)with
  |true=>GD ops all l
  |false=>false
def sY(ops:Array Oper):Option qi:=
 let all:=kD 0 ops.toList
 let rem:=zQ all ops.toList.length []
 match GC [] rem&&JF (rem.map Prod.fst) (all.map Prod.fst)&&GD ops all all with
 |true=>some {ops,rem,early:=[],wait:=false}
 |false=>none
def ic(tm:T AV)(h:H):List ResultVar→Option (List AV)
 |[]=>some []
 | .tmp t::l=>match ic tm h l with
  |some vs=>some ((tm.get t).getD jd::vs)
  |none=>none
 | .cell a t::l=>match eQ P t,tm.get a with
  |true,some (.ptr b o)=>match dJ P h t b o,ic tm h l with
   |some v,some vs=>some (v::vs)
   |_,_=>none
  |_,_=>none
def Fe(fn:Func)(tm:T AV)(h:H):Option AV:=
 match ic P tm h fn.results.toList with
 |some [v]=>some v
 |some vs=>some (.tuple vs)
 |none=>none
def uA(s:S):Option S:=
 match s.fr.defers with
 | .collected r::ds=>match s.h.t.get r with
  |some (.deferred (some calls))=>some {s with fr:={s.fr with defers:=calls++ds},h:={s.h with t:=s.h.t.set r (some (.deferred none))}}
  |_=>none
 | .call f args captured::ds=>match nF P f with
  |true=>match lX P f (args++captured) .deferred with
   |some fr=>some {fr,cs:={s.fr with defers:=ds}::s.cs,h:=s.h}
   |none=>none
  |false=>none
 | []=>match s.fr.mode with
  | .run=>none
  | .panicking chain=>match s.cs,P.funcs[s.fr.fn]? with
   |c::cs,some _=>match c.raise chain with
    |some fr=>some {fr,cs,h:=s.h}
    |none=>none
   |_,_=>none
  | .returning=>match P.funcs[s.fr.fn]? with
   |some fn=>match Fe P fn s.fr.tm s.h with
    |some v=>sW s v s.h
    |none=>none
   |none=>none
def mN(s:S)(f:Operand)(params:Array Tmp)(assign body:Code)(k:List iL):Option S:=
 match bP s.fr.tm f with
 | some f=>
  let mk (defers:Nat):iI:=.loop {state:=.ready,pending:=none,fn:=s.fr.fn,nt:=s.fr.nt,tm:=s.fr.tm,params:=params.toList,assign,body,defers}
  let go (mark:List Nl) (l:Nat) (h:H):Option S:=
   match je P f [.yield l] h with
   | .enter g args h=>match lX P g args .normal with
    |some fr=>some {fr,cs:={s.fr with todo:=.inRangeFunc l::k,defers:=mark++s.fr.defers}::s.cs,h}
    |none=>none
   |_=>none
  match s.fr.roundOf with
  |some l=>match s.h.t.get l with
   |some (.loop r)=>go [] s.h.nx (s.h.alloc (mk r.defers))
   |_=>none
  |none=>
   let h:=s.h.alloc (.deferred (some []))
   go [.collected s.h.nx] h.nx (h.alloc (mk s.h.nx))
 |none=>none
def to(s:S)(todo:List iL):Option S:=some {s with fr:={s.fr with todo}}
def iO(K:lI)(s:S)(d:qi)(i:Nat)(o:Oper)(rem:List (Nat×Oper)):R→Option S:=
 fun r=>
 let early:=dQ (cu o.after.toList) d.early
 match r with
 | .val v h=>match mi s.fr.nt o.dst with
  |true=>some {s with fr:={s.fr with tm:=s.fr.qn o.dst v,dr:=some {d with rem,early}},h}
  |false=>none
 | .skip h=>match mi s.fr.nt o.dst with
  |true=>some {s with fr:={s.fr with tm:=s.fr.qn o.dst jd,dr:=some {d with rem,early}},h}
  |false=>none
 | .ext f args h=>match K.ext f args h with
  |some (v,h)=>match mi s.fr.nt o.dst with
   |true=>some {s with fr:={s.fr with tm:=s.fr.qn o.dst v,dr:=some {d with rem,early}},h}
   |false=>none
  |none=>none
 | .enter f args h=>match K.call f args h with
  |some (v,h)=>match mi s.fr.nt o.dst with
   |true=>some {s with fr:={s.fr with tm:=s.fr.qn o.dst v,dr:=some {d with rem,early}},h}
   |false=>none
  |none=>match lX P f args .normal with
   |some fr=>some {fr,cs:={s.fr with dr:=some {d with rem:=(i,o)::rem,early,wait:=true}}::s.cs,h}
   |none=>none
 | .round l args h=>match h.t.get l with
  |some (.loop r)=>match iA r.nt r.tm r.params args with
   |some tm=>some {fr:={fn:=r.fn,nt:=r.nt,tm,todo:=[.code r.assign,.beginRound,.code r.body],defers:=[],mode:=.run,kind:=.normal,roundOf:=some l},cs:={s.fr with dr:=some {d with rem:=(i,o)::rem,early,wait:=true}}::s.cs,h}
   |none=>none
  |_=>none
 |_=>none
def xQ(K:lI)(s:S)(d:qi):Option S:=
 match d.wait with
 |true=>none
 | false=>match d.rem with
  |[]=>match jB P s.fr.nt s.fr.tm s.h d.ops d.early with
   |true=>some {s with fr:={s.fr with dr:=none}}
   |false=>none
  | (i, o)::rem=>match cG o with
   |true=>match nW P (iY s.fr.tm (slotsOf d.ops o)) o.op with
    |some (t,l)=>some {s with fr:={s.fr with tm:=s.fr.qn o.dst (.ptr s.h.nx 0),dr:=some {d with rem,early:=(i,o,s.h.nx)::d.early}},h:=s.h.bq t l}
    |none=>none
   | false=>match eR P s.fr.tm s.h d.ops o with
    |some v=>some {s with fr:={s.fr with tm:=s.fr.qn o.dst v,dr:=some {d with rem,early:=(i,o,0)::d.early}}}
    | none=>match cO o.op with
     |true=>none
     | false=>match sN o&& !ib i [i] rem with
      | true=>match dL (iY s.fr.tm (slotsOf d.ops o)) d.ops o with
       |true=>match gH P (iY s.fr.tm (slotsOf d.ops o)) o.op with
        |some (t,l,n)=>some {s with fr:={s.fr with tm:=s.fr.qn o.dst (.slice s.h.nx 0 n (.exact n)),dr:=some {d with rem,early:=(i,o,s.h.nx)::d.early}},h:=s.h.bq t l}
        |none=>none
       |false=>none
      |false=>match ib i [i] rem,jB P s.fr.nt s.fr.tm s.h d.ops d.early with
       |true,true=>iO P K s d i o rem (qH P s.fr.tm s.h d.ops o)
       |_,_=>none
def VD(s:S)(chain:List mL):Option S:=
 match s.fr.defers,s.cs,P.funcs[s.fr.fn]? with
 |[],c::cs,some _=>match c.raise chain with
  |some fr=>some {fr,cs,h:=s.h}
  |none=>none
 |_,_,_=>none
def jN(K:lI)(s:S):Option S:=
 match s.fr.mode with
 | .run=>match s.fr.todo with
  |[]=>mM s none
  | .ops ops l::k=>match l with
   |[]=>to s k
   | o::_=>match jA s.fr ops o with
    |true=>gG P K s (bF P s.fr.tm s.h o.op)
    |false=>match s.fr.finish jd with
     |some fr=>some {s with fr}
     |none=>none
  | .code c::k=>match c with
   | .skip=>to s k
   | .label _=>to s k
   | .seq a b=>to s (.code a:: .code b::k)
   | .region _ ops draw=>match draw with
    |false=>to s (.ops ops ops.toList::k)
    |true=>match P.follows .mixedOrders,sY ops with
     |true,some d=>some {s with fr:={s.fr with todo:=k,dr:=some d}}
     |_,_=>none
   | .cond c a b=>match bP s.fr.tm c with
    |some (.bool true)=>to s (.code a::k)
    |some (.bool false)=>to s (.code b::k)
    |_=>none
   | .block id c=>to s (.code c:: .inBlock id::k)
   | .loop c=>to s (.code c:: .inLoop c::k)
   | .scope c=>to s (.code c:: .inScope c::k)
   | .exit id=>match j6 id k with
    |some k=>to s k
    |none=>mM s (some (.exit id))
   | .goto l=>match pa l k with
    |some k=>to s k
    |none=>mM s (some (.goto l))
   | .ret=>mM s (some .ret)
   | .rangeFunc f params assign body=>mN P s f params assign body k
   | .refuse _=>none
  | .inBlock _::k=>to s k
  | .inScope _::k=>to s k
  | .inLoop c::k=>to s (.code c:: .inLoop c::k)
  | .inRangeFunc _::_=>none
  | .beginRound::k=>match s.fr.roundOf with
   | some l=>match s.h.t.get l with
    |some (.loop r)=>match r.state with
     | .ready=>some {s with fr:={s.fr with todo:=k},h:={s.h with t:=s.h.t.set l (some (.loop {r with state:=.busy}))}}
     |_=>none
    |_=>none
   |none=>none
  | .endRangeFunc l::k=>match s.h.t.get l with
   | some (.loop r)=>match r.state with
    | .busy=>none
    |_=>
     let h:={s.h with t:=s.h.t.set l (some (.loop {r with state:=.exhausted}))}
     match r.pending with
     |some c=>some {s with fr:={s.fr with todo:=.code c::k},h}
     |none=>some {s with fr:={s.fr with todo:=k},h}
   |_=>none
 |_=>uA P s
def dV(K:lI)(s:S):Option S:=
 match s.fr.dr with
 |none=>jN P K s
 |some d=>match s.fr.mode with
  | .run=>xQ P K s d
  | .panicking chain=>VD P s chain
  | .returning=>none
def Pb(s:S):Option AV:=
 match s.fr.dr,s.fr.mode,s.fr.defers,s.cs with
 |none,.returning,[],[]=>match P.funcs[s.fr.fn]? with
  |some fn=>Fe P fn s.fr.tm s.h
  |none=>none
 |_,_,_,_=>none
def No(K:lI)(f:FuncId):Nat→S→Option (AV×H)
 |0,_=>none
 | n+1,s=>match s.fr.mode,s.fr.defers,s.cs with
  | .returning,[],[]=>match ak s.fr.fn f,s.fr.kind,Pb P s with
   |true,.normal,some v=>some (v,s.h)
   |_,_,_=>none
  |_,_,_=>match dV P K s with
   |some s=>No K f n s
   |none=>none
def Lk(K:lI)(n:Nat)(f:FuncId)(args:List AV)(h:H):Option (AV×H):=
 match lX P f args .normal with
 |some fr=>No P K f n {fr,cs:=[],h}
 |none=>none
end
end
end Go.AX
namespace Go.AX
theorem Np{α:Type}(n:Nat)(k:Nat→α):E9 n k=k n:=by cases n<;>rfl
theorem GF{α:Type}:∀(l:List α)(n:Nat),aM (motive:=fun _=>Nat→Nat) (fun n=>n) (fun _ _ ih n=>E9 (n+1) ih) l n=l.length+n
 |[],n=>by simp
 |_::l,n=>by
  show E9 (n+1) _=_;rw[Np,GF l];simp only[al];omega
@[simp] theorem dY{α:Type}(l:List α):kQ l=l.length:=GF l 0
theorem Ll{α:Type}:∀(l:List α)(k:Nat),Te l k=l[k]?
 |[],k=>by simp[Te]
 |x::l,0=>rfl
 |x::l,k+1=>by
  show Te l k=_;rw[Ll l k];simp
theorem GG{α:Type}(x:α)(l:List α):zJ (x::l) true=x::zJ l false:=rfl
theorem GH{α:Type}(x:α)(l:List α):zJ (x::l) false=zJ l true:=rfl
theorem uB{α:Type}:∀(l:List α)(k:Nat),(zJ l true)[k]? =l[2*k]? ∧(zJ l false)[k]? =l[2*k+1]?
 |[],k=>by simp[zJ]
 | x::l,k=>by
  refine⟨?_,?_⟩
  ·rw[GG]
   cases k with
   |zero=>rfl
   |succ k=>rw[aq,(uB l k).2,show 2*(k+1)=(2*k+1)+1 by omega,aq]
  ·rw[GH,(uB l k).1,aq]
@[simp] theorem T.W_{α:Type}(k:Nat):(T.e:T α).get k=none:=rfl
@[simp] theorem T.pd{α:Type}(l:List α)(k:Nat):(T.row l).get k=l[k]? :=Ll l k
@[simp] theorem T.get_n0{α:Type}(l:T α)(v:Option α)(r:T α):(T.n l v r).get 0=v:=rfl
@[simp] theorem T.GI{α:Type}(l:T α)(v:Option α)(r:T α)(k:Nat):(T.n l v r).get (k+1)=match ak (k%2) 0 with
   |true=>l.get (k/2)
   |false=>r.get (k/2):=by
 show Bool.rec (motive:=fun _=>Option α) _ _ (ak (k%2) 0)=_;cases ak (k%2) 0<;>rfl
theorem T.JG{α:Type}(t:T α)(k:Nat):t.opened.get k=t.get k:=by
 cases t with
 |e=>rfl
 |n l v r=>rfl
 | row xs=>
  cases xs with
  |nil=>simp[T.opened]
  | cons x xs=>
   show(T.n (.row (zJ xs true)) (some x) (.row (zJ xs false))).get k=_;cases k with
   |zero=>simp
   |succ k=>
    rw[T.GI,T.pd (x::xs),aq];cases hk:ak (k%2) 0 with
    |true=>have:=aw hk;simp only[T.pd];rw[(uB xs _).1];congr 1;omega
    |false=>have:=au hk;simp only[T.pd];rw[(uB xs _).2];congr 1;omega
theorem T.Ff{α:Type}(t:T α):t.opened= .e∨∃l v r,t.opened= .n l v r:=by
 cases t with
 |e=>exact .inl rfl
 |n l v r=>exact .inr ⟨_,_,_,rfl⟩
 |row xs=>
  cases xs with
  |nil=>exact .inl rfl
  |cons x xs=>exact .inr ⟨_,_,_,rfl⟩
theorem T.GJ{α:Type}(f:Nat)(t:T α)(k:Nat)(x:Option α):T.wI (f+1) t k x=T.wI (f+1) t.opened k x:=by
 have e:t.opened.opened=t.opened:=by
  cases t with
  |e=>rfl
  |n l v r=>rfl
  |row xs=>cases xs<;>rfl
 unfold T.wI;show aG (motive:=fun _=>T α) k _ _=aG (motive:=fun _=>T α) k _ _;rw[e]
theorem T.Lm{α:Type}(f:Nat)(x:Option α):T.wI (f+1) .e 0 x= .n .e x .e:=rfl
theorem T.Ln{α:Type}(f:Nat)(l:T α)(v:Option α)(r:T α)(x:Option α):T.wI (f+1) (.n l v r) 0 x= .n l x r:=rfl
theorem T.Pc{α:Type}(f k:Nat)(x:Option α):T.wI (f+1) .e (k+1) x=match ak (k%2) 0 with
   |true=>.n (wI f .e (k/2) x) none .e
   |false=>.n .e none (wI f .e (k/2) x):=by
 show Bool.rec (motive:=fun _=>T α) _ _ (ak (k%2) 0)=_;cases ak (k%2) 0<;>rfl
theorem T.Pd{α:Type}(f k:Nat)(l:T α)(v:Option α)(r:T α)(x:Option α):T.wI (f+1) (.n l v r) (k+1) x=match ak (k%2) 0 with
   |true=>.n (wI f l (k/2) x) v r
   |false=>.n l v (wI f r (k/2) x):=by
 show Bool.rec (motive:=fun _=>T α) _ _ (ak (k%2) 0)=_;cases ak (k%2) 0<;>rfl
theorem T.uC{α:Type}:∀(f:Nat)(t:T α)(k k':Nat)(x:Option α),k<f→
  (T.wI f t k x).get k'=if k'=k then x else t.get k'
 |0,_,_,_,_,h=>absurd h (Nat.not_lt_zero _)
 | f +1,t,k,k',x,h=>by
  rw[T.GJ,←T.JG t k'];rcases T.Ff t with e|⟨l,v,r,e⟩
  ·rw [e]
   cases k with
   |zero=>
    cases k' with
    |zero=>simp[T.Lm]
    |succ k'=>simp only[T.Lm,T.GI];cases ak (k'%2) 0<;>simp
   | succ k=>
    have ih:=fun j=>T.uC f (.e:T α) (k/2) j x (by omega);cases k' with
    |zero=>simp only[T.Pc];cases ak (k%2) 0<;>simp
    | succ k'=>
     simp only[T.Pc];cases hk:ak (k%2) 0<;>cases CC:ak (k'%2) 0<;>simp only[T.GI,T.W_,CC,ih]<;>
      (try(have:=aw hk))<;>(try(have:=aw CC))<;>
      (try(have:=au hk))<;>(try(have:=au CC))<;>
      (repeat' split)<;>first|rfl|omega|(exfalso;omega)|simp_all
  ·rw [e]
   cases k with
   |zero=>
    cases k' with
    |zero=>simp[T.Ln]
    |succ k'=>simp only[T.Ln,T.GI];simp
   | succ k=>
    have ihl:=fun j=>T.uC f l (k/2) j x (by omega);have ihr:=fun j=>T.uC f r (k/2) j x (by omega);cases k' with
    |zero=>simp only[T.Pd];cases ak (k%2) 0<;>simp
    | succ k'=>
     simp only[T.Pd];cases hk:ak (k%2) 0<;>cases CC:ak (k'%2) 0<;>simp only[T.GI,CC,ihl,ihr]<;>
      (try(have:=aw hk))<;>(try(have:=aw CC))<;>
      (try(have:=au hk))<;>(try(have:=au CC))<;>
      (repeat' split)<;>first|rfl|omega|(exfalso;omega)|simp_all
theorem T.bS{α:Type}(t:T α)(k k':Nat)(x:Option α):(t.set k x).get k'=if k'=k then x else t.get k':=
 T.uC (k+1) t k k' x (Nat.lt_succ_self k)
@[simp] theorem T.get_e{α:Type}(k:Nat):(T.e:T α).get k=none:=rfl
theorem T.GK{α:Type}:∀(l:List α)(t:T α)(k j:Nat),
  (t.fill k l).get j=if k≤j∧j<k+l.length then l[j-k]? else t.get j
 |[],t,k,j=>by simp only[T.fill,aE];rw[if_neg (by omega)]
 | x::l,t,k,j=>by
  simp only[T.fill,T.GK l,T.bS,al];by_cases h:j=k
  ·subst h;rw[if_neg (by omega),if_pos rfl,if_pos (by omega)];simp
  ·by_cases h2:k+1≤j∧j<k+1+l.length
   ·rw[if_pos h2,if_pos (by omega),show j-k=(j-(k+1))+1 by omega];simp
   ·rw[if_neg h2,if_neg h,if_neg (by omega)]
theorem T.sj{α:Type}(l:List α)(j:Nat):(T.fill .e 0 l).get j=l[j]? :=by
 rw[T.GK];split
 ·simp
 ·rename_i h;rw[T.get_e,List.getElem?_eq_none (by omega)]
theorem T.eG{α:Type}(l:List α)(j:Nat):(T.ofRow l).get j=l[j]? :=by
 unfold T.ofRow;split
 ·exact T.pd l j
 ·exact T.sj l j
theorem sZ:∀(k o:Nat)(xs:List AV),H.loadCells (.row xs) o k=match oB k (xs.drop o)with
  |true=>some ((xs.drop o).take k)
  |false=>none
 |0,o,xs=>rfl
 | k+1,o,xs=>by
  simp only[H.loadCells,T.pd,sZ k (o+1) xs];cases h:xs.drop o with
  |nil=>
   have :xs[o]? =none:=by have:=congrArg (·[0]?) h;simpa using this
   rw[this];rfl
  |cons y ys=>
   have h1:xs[o]? =some y:=by have:=congrArg (·[0]?) h;simpa using this
   have h2:xs.drop (o+1)=ys:=by rw[←List.drop_drop,h];rfl
   rw[h1,h2];show _=match oB k ys with|true=>_|false=>_
   cases oB k ys<;>rfl
@[simp] theorem ie(cs:T AV)(o k:Nat):H.my cs o k=H.loadCells cs o k:=by
 unfold H.my;split
 ·exact(sZ _ _ _).symm
 ·rfl
def nH:List AV→Option (List Nat)
 |[]=>some []
 | .int .u8 (.ofNat n)::l=>match nH l with
  |some s=>some (n%256::s)
  |none=>none
 |_=>none
theorem JH(x:AV)(l:List AV)(h:isByte x=false):nH (x::l)=none:=by
 unfold nH;split
 ·rename_i e;cases e
 ·rename_i e;cases e;cases h
 ·rfl
theorem Dp:∀l:List AV,o_ l=nH l
 |[]=>rfl
 | x::l=>by
  have ih:=Dp l;unfold o_ at ih ⊢;have e:nG (x::l)=match isByte x with|true=>nG l|false=>false:=rfl
  rw[e];cases hx:isByte x with
  |false=>rw[JH x l hx]
  | true=>
   simp only;unfold isByte at hx;split at hx
   ·rename_i n
    simp only[nH];rw[←ih];cases nG l<;>rfl
   ·cases hx
def bH{α β:Type}(R:α→β→Prop):List α→List β→Prop
 |[],[]=>True
 |a::l,b::l'=>R a b∧bH R l l'
 |[],_::_=>False
 |_::_,[]=>False
section
variable{α β:Type}{R:α→β→Prop}
@[simp] theorem bH.nil:bH R [] []:=trivial
@[simp] theorem bH.Pe{a:α}{b:β}{l:List α}{l':List β}:bH R (a::l) (b::l')↔R a b∧bH R l l':=Iff.rfl
theorem bH.ct{l':List β}:bH R [] l'↔l'=[]:=by cases l'<;>simp[bH]
theorem bH.bM{a:α}{l:List α}{l':List β}:bH R (a::l) l'↔∃b r,l'=b::r∧R a b∧bH R l r:=by
 cases l' with
 |nil=>simp[bH]
 |cons b r=>simp only[bH.Pe,List.cons.injEq];exact⟨fun h=>⟨b,r,⟨rfl,rfl⟩,h⟩,fun⟨_,_,⟨h1,h2⟩,h⟩=>by subst h1;subst h2;exact h⟩
theorem bH.length:∀{l:List α}{l':List β},bH R l l'→l.length=l'.length
 |[],[],_=>rfl
 |_::_,_::_,h=>by simp[bH.length h.2]
 |[],_::_,h=>h.elim
 |_::_,[],h=>h.elim
theorem bH.mono{R':α→β→Prop}(hr:∀a b,R a b→R' a b):∀{l:List α}{l':List β},bH R l l'→bH R' l l'
 |[],[],_=>trivial
 |_::_,_::_,h=>⟨hr _ _ h.1,bH.mono hr h.2⟩
 |[],_::_,h=>h.elim
 |_::_,[],h=>h.elim
theorem bH.append:∀{l:List α}{l':List β}{r:List α}{r':List β},bH R l l'→bH R r r'→bH R (l++r) (l'++r')
 |[],[],_,_,_,h=>h
 |_::_,_::_,_,_,h,h'=>⟨h.1,bH.append h.2 h'⟩
 |[],_::_,_,_,h,_=>h.elim
 |_::_,[],_,_,h,_=>h.elim
theorem bH.get:∀{l:List α}{l':List β},bH R l l'→∀{i:Nat}{a:α},l[i]? =some a→∃b,l'[i]? =some b∧R a b
 |[],[],_,_,_,h=>by simp at h
 |_::_,b::_,h,0,_,hi=>by simp at hi;subst hi;exact⟨b,rfl,h.1⟩
 |_::_,_::_,h,i+1,_,hi=>by simp at hi;simpa using bH.get h.2 hi
 |[],_::_,h,_,_,_=>h.elim
 |_::_,[],h,_,_,_=>h.elim
theorem bH.get':∀{l:List α}{l':List β},bH R l l'→∀{i:Nat}{b:β},l'[i]? =some b→∃a,l[i]? =some a∧R a b
 |[],[],_,_,_,h=>by simp at h
 |a::_,_::_,h,0,_,hi=>by simp at hi;subst hi;exact⟨a,rfl,h.1⟩
 |_::_,_::_,h,i+1,_,hi=>by simp at hi;simpa using bH.get' h.2 hi
 |[],_::_,h,_,_,_=>h.elim
 |_::_,[],h,_,_,_=>h.elim
theorem bH.bG:∀{l:List α}{l':List β},l.length=l'.length→(∀(i:Nat)(a:α)(b:β),l[i]? =some a→l'[i]? =some b→R a b)→bH R l l'
 |[],[],_,_=>trivial
 |a::l,b::l',h,hr=>⟨hr 0 a b rfl rfl,bH.bG (by simpa using h) (fun i x y hx hy=>hr (i+1) x y (by simpa using hx) (by simpa using hy))⟩
 |[],_::_,h,_=>by simp at h
 |_::_,[],h,_=>by simp at h
theorem bH.take{l:List α}{l':List β}(h:bH R l l')(n:Nat):bH R (l.take n) (l'.take n):=by
 induction n generalizing l l' with
 |zero=>simp
 |succ n ih=>cases l<;>cases l'<;>simp_all[bH]
theorem bH.drop{l:List α}{l':List β}(h:bH R l l')(n:Nat):bH R (l.drop n) (l'.drop n):=by
 induction n generalizing l l' with
 |zero=>simpa using h
 |succ n ih=>cases l<;>cases l'<;>simp_all[bH]
theorem bH.qJ{γ:Type}{f:γ→α}:∀{l:List γ}{l':List β},bH R (l.map f) l'↔bH (fun c b=>R (f c) b) l l'
 |[],[]=>by simp
 |_::_,_::_=>by simp[bH.qJ]
 |[],_::_=>by simp[bH]
 |_::_,[]=>by simp[bH]
theorem bH.wM{γ:Type}{f:γ→β}:∀{l:List α}{l':List γ},bH R l (l'.map f)↔bH (fun a c=>R a (f c)) l l'
 |[],[]=>by simp
 |_::_,_::_=>by simp[bH.wM]
 |[],_::_=>by simp[bH]
 |_::_,[]=>by simp[bH]
theorem bH.same{R:α→α→Prop}(h:∀a,R a a):∀l:List α,bH R l l
 |[]=>trivial
 |a::l=>⟨h a,bH.same h l⟩
end
end Go.AX
namespace Go.AX
open Go.RowKit
structure NN where
 n:Nat
 res:Nat→Option (Nat×Nat)
instance:Coe NN Nat:=⟨NN.n⟩
structure Loc where
 B:Nat
 base:Nat
 K:Nat
abbrev cX:=Nat→Option Loc
def cX.le(φ ψ:cX):Prop:=∀b L,φ b=some L→ψ b=some L
def cX.ins(φ:cX)(b:Nat)(L:Loc):cX:=fun x=>if x=b then some L else φ x
theorem cX.le_refl(φ:cX):φ.le φ:=fun _ _ h=>h
theorem cX.le_trans{a b c:cX}(h:a.le b)(k:b.le c):a.le c:=fun x L hx=>k x L (h x L hx)
theorem cX.qK{φ:cX}{b:Nat}(L:Loc)(h:φ b=none):φ.le (φ.ins b L):=fun x M hx=>by
 unfold cX.ins;split
 ·rename_i e;subst e;rw[h]at hx;cases hx
 ·exact hx
theorem cX.cS(φ:cX)(b:Nat)(L:Loc):φ.ins b L b=some L:=by simp[cX.ins]
theorem cX.fO(φ:cX){b x:Nat}(L:Loc)(h:x≠b):φ.ins b L x=φ x:=by simp[cX.ins,h]
mutual
def VR(φ:cX):AV→Value→Prop
 | .bool b,v=>v= .bool b
 | .int k n,v=>v= .int k n
 | .str s,v=>∃b,v= .string b∧bytesOf b=s
 | .cN,v=>v= .pointer none
 | .ptr b o,v=>∃L,φ b=some L∧v= .pointer (some ⟨L.B,L.base+o,none⟩)
 | .bh,v=>v= .slice none 0 0
 | .dq,v=>∃a c,v= .slice (some a) 0 c
 | .slice b o len (.exact c),v=>∃L,φ b=some L∧v= .slice (some ⟨L.B,L.base+o,none⟩) len c
 | .slice b o len (.iK i),v=>∃L,φ b=some L∧v= .slice (some ⟨L.B,L.base+o,none⟩) len (L.K-i)∧i+len≤L.K
 | .dB,v=>v= .map none
 | .map b,v=>∃L,φ b=some L∧v= .map (some L.B)
 | .func f first cap,v=>∃a b,v= .func (.func f) a b∧yW φ first a.toList∧yW φ cap b.toList
 | .yield l,v=>∃L,φ l=some L∧v= .func (.yield L.B) #[] #[]
 | .nilFunc,v=>v= .nilFunc
 | .iface t x,v=>∃y,v= .iface t y∧VR φ x y
 | .nilIface,v=>v= .nilIface
 | .agg cs,v=>∃a,v= .agg a∧yW φ cs a.toList
 | .tuple vs,v=>∃a,v= .tuple a∧yW φ vs a.toList
def yW(φ:cX):List AV→List Value→Prop
 |[],[]=>True
 |x::xs,y::ys=>VR φ x y∧yW φ xs ys
 |[],_::_=>False
 |_::_,[]=>False
end
theorem zl(φ:cX):∀(l:List AV)(l':List Value),yW φ l l'↔bH (VR φ) l l'
 |[],[]=>by simp[yW]
 |x::xs,y::ys=>by simp[yW,zl φ xs ys]
 |[],_::_=>by simp[yW,bH]
 |_::_,[]=>by simp[yW,bH]
mutual
theorem VR.mono{φ ψ:cX}(h:φ.le ψ):∀(a:AV)(v:Value),VR φ a v→VR ψ a v
 | .bool _,_,hv=>by simpa[VR]using hv
 | .int _ _,_,hv=>by simpa[VR]using hv
 | .str _,_,hv=>by simpa[VR]using hv
 | .cN,_,hv=>by simpa[VR]using hv
 | .ptr b o,_,hv=>by
  simp only[VR]at hv ⊢;obtain⟨L,h1,h2⟩:=hv;exact⟨L,h _ _ h1,h2⟩
 | .bh,_,hv=>by simpa[VR]using hv
 | .dq,_,hv=>by simpa[VR]using hv
 | .slice b o len (.exact c),_,hv=>by
  simp only[VR]at hv ⊢;obtain⟨L,h1,h2⟩:=hv;exact⟨L,h _ _ h1,h2⟩
 | .slice b o len (.iK i),_,hv=>by
  simp only[VR]at hv ⊢;obtain⟨L,h1,h2⟩:=hv;exact⟨L,h _ _ h1,h2⟩
 | .dB,_,hv=>by simpa[VR]using hv
 | .map b,_,hv=>by
  simp only[VR]at hv ⊢;obtain⟨L,h1,h2⟩:=hv;exact⟨L,h _ _ h1,h2⟩
 | .func f first cap,_,hv=>by
  simp only[VR]at hv ⊢;obtain⟨a,b,h1,h2,h3⟩:=hv;exact⟨a,b,h1,yW.mono h first _ h2,yW.mono h cap _ h3⟩
 | .yield l,_,hv=>by
  simp only[VR]at hv ⊢;obtain⟨L,h1,h2⟩:=hv;exact⟨L,h _ _ h1,h2⟩
 | .nilFunc,_,hv=>by simpa[VR]using hv
 | .iface t x,_,hv=>by
  simp only[VR]at hv ⊢;obtain⟨y,h1,h2⟩:=hv;exact⟨y,h1,VR.mono h x _ h2⟩
 | .nilIface,_,hv=>by simpa[VR]using hv
 | .agg cs,_,hv=>by
  simp only[VR]at hv ⊢;obtain⟨a,h1,h2⟩:=hv;exact⟨a,h1,yW.mono h cs _ h2⟩
 | .tuple cs,_,hv=>by
  simp only[VR]at hv ⊢;obtain⟨a,h1,h2⟩:=hv;exact⟨a,h1,yW.mono h cs _ h2⟩
theorem yW.mono{φ ψ:cX}(h:φ.le ψ):∀(l:List AV)(l':List Value),yW φ l l'→yW ψ l l'
 |[],[],_=>by simp[yW]
 |x::xs,y::ys,hv=>by
  simp only[yW]at hv ⊢;exact⟨VR.mono h x y hv.1,yW.mono h xs ys hv.2⟩
 |[],_::_,hv=>by simp[yW]at hv
 |_::_,[],hv=>by simp[yW]at hv
end
section
variable{φ:cX}
theorem VR.le{ψ:cX}{a:AV}{v:Value}(hv:VR φ a v)(h:φ.le ψ):VR ψ a v:=VR.mono h a v hv
theorem yW.le{ψ:cX}{l:List AV}{l':List Value}(hv:bH (VR φ) l l')(h:φ.le ψ):bH (VR ψ) l l':=hv.mono fun a v=>VR.mono h a v
@[simp] theorem fa{b:Bool}{v:Value}:VR φ (.bool b) v↔v= .bool b:=by simp[VR]
@[simp] theorem db{k:IntKind}{n:Int}{v:Value}:VR φ (.int k n) v↔v= .int k n:=by simp[VR]
@[simp] theorem fE{s:List Nat}{v:Value}:VR φ (.str s) v↔∃b,v= .string b∧bytesOf b=s:=by simp[VR]
@[simp] theorem mG{v:Value}:VR φ .cN v↔v= .pointer none:=by simp[VR]
@[simp] theorem dS{b o:Nat}{v:Value}:VR φ (.ptr b o) v↔∃L,φ b=some L∧v= .pointer (some ⟨L.B,L.base+o,none⟩):=by simp[VR]
@[simp] theorem eX{v:Value}:VR φ .bh v↔v= .slice none 0 0:=by simp[VR]
@[simp] theorem iZ{v:Value}:VR φ .dq v↔∃a c,v= .slice (some a) 0 c:=by simp[VR]
@[simp] theorem dT{b o len c:Nat}{v:Value}:VR φ (.slice b o len (.exact c)) v↔∃L,φ b=some L∧v= .slice (some ⟨L.B,L.base+o,none⟩) len c:=by simp[VR]
@[simp] theorem dU{b o len i:Nat}{v:Value}:VR φ (.slice b o len (.iK i)) v↔∃L,φ b=some L∧v= .slice (some ⟨L.B,L.base+o,none⟩) len (L.K-i)∧i+len≤L.K:=by simp[VR]
@[simp] theorem oE{v:Value}:VR φ .dB v↔v= .map none:=by simp[VR]
@[simp] theorem nX{b:Nat}{v:Value}:VR φ (.map b) v↔∃L,φ b=some L∧v= .map (some L.B):=by simp[VR]
@[simp] theorem uD{f:FuncId}{first cap:List AV}{v:Value}:VR φ (.func f first cap) v↔∃a b,v= .func (.func f) a b∧bH (VR φ) first a.toList∧bH (VR φ) cap b.toList:=by simp[VR,zl]
@[simp] theorem GL{l:Nat}{v:Value}:VR φ (.yield l) v↔∃L,φ l=some L∧v= .func (.yield L.B) #[] #[]:=by simp[VR]
@[simp] theorem Xa{v:Value}:VR φ .nilFunc v↔v= .nilFunc:=by simp[VR]
@[simp] theorem uE{t:TypeId}{x:AV}{v:Value}:VR φ (.iface t x) v↔∃y,v= .iface t y∧VR φ x y:=by simp[VR]
@[simp] theorem GM{v:Value}:VR φ .nilIface v↔v= .nilIface:=by simp[VR]
@[simp] theorem mO{cs:List AV}{v:Value}:VR φ (.agg cs) v↔∃a,v= .agg a∧bH (VR φ) cs a.toList:=by simp[VR,zl]
@[simp] theorem mP{cs:List AV}{v:Value}:VR φ (.tuple cs) v↔∃a,v= .tuple a∧bH (VR φ) cs a.toList:=by simp[VR,zl]
theorem mQ:VR φ jd undef:=by simp[jd,undef]
theorem VR.one{a:AV}{v:Value}(h:VR φ a v)(ho:a.one=true):v.oneCell'=true:=by
 cases a with
 |agg cs=>simp[AV.one]at ho
 |tuple cs=>simp[AV.one]at ho
 |slice b o len c=>cases c<;>simp at h<;>obtain⟨L,h1,h2⟩:=h<;>first|(subst h2;rfl)|(rw[h2.1];rfl)
 |bool b=>simp at h;subst h;rfl
 |int k n=>simp at h;subst h;rfl
 |str s=>simp at h;obtain⟨b,rfl,_⟩:=h;rfl
 |cN=>simp at h;subst h;rfl
 |ptr b o=>simp at h;obtain⟨L,_,rfl⟩:=h;rfl
 |bh=>simp at h;subst h;rfl
 |dq=>simp at h;obtain⟨a,c,rfl⟩:=h;rfl
 |dB=>simp at h;subst h;rfl
 |map b=>simp at h;obtain⟨L,_,rfl⟩:=h;rfl
 |func f a b=>simp at h;obtain⟨x,y,rfl,_⟩:=h;rfl
 |yield l=>simp at h;obtain⟨L,_,rfl⟩:=h;rfl
 |nilFunc=>simp at h;subst h;rfl
 |iface t x=>simp at h;obtain⟨y,rfl,_⟩:=h;rfl
 |nilIface=>simp at h;subst h;rfl
theorem VR.Nq{a:AV}{v:Value}(h:VR φ a v)(ho:a.one=true):a.cells=[a]∧v.cells= #[v]:=by
 have hv:=h.one ho;constructor
 ·cases a<;>simp_all[AV.one,AV.cells]
 ·cases v<;>simp_all[Value.oneCell',Value.cells]
theorem VR.cells{a:AV}{v:Value}(h:VR φ a v):bH (VR φ) a.cells v.cells.toList:=by
 cases a with
 |agg cs=>simp at h;obtain⟨x,rfl,hx⟩:=h;exact hx
 |tuple cs=>have h':=h;simp at h;obtain⟨x,rfl,hx⟩:=h;exact⟨h',trivial⟩
 |_=>
  obtain⟨h1,h2⟩:=h.Nq rfl;rw[h1,h2];exact⟨h,trivial⟩
end
def DR(φ:cX):Nl→Deferred→Prop
 | .call f args cap,d=>∃a b,d={target:=.fn (.func f) b,args:=a}∧bH (VR φ) args a.toList∧bH (VR φ) cap b.toList
 | .collected r,d=>∃L,φ r=some L∧d={target:=.collected L.B,args:= #[]}
theorem DR.le{φ ψ:cX}(h:φ.le ψ):∀{a:Nl}{d:Deferred},DR φ a d→DR ψ a d
 | .call _ _ _,_,⟨a,b,e,x,y⟩=>⟨a,b,e,yW.le x h,yW.le y h⟩
 | .collected _,_,⟨L,e,x⟩=>⟨L,h _ _ e,x⟩
def TR(φ:cX)(nt:Nat)(tm:T AV)(tmps:Array Value):Prop:=
 tmps.size=nt∧∀i,VR φ ((tm.get i).getD jd) (tmps.getD i undef)
theorem TR.le{φ ψ:cX}{nt:Nat}{tm:T AV}{tmps:Array Value}(h:TR φ nt tm tmps)(hl:φ.le ψ):TR ψ nt tm tmps:=
 ⟨h.1,fun i=>(h.2 i).le hl⟩
def nA(φ:cX)(e:AV×AV×Nat)(m:MapEntry):Prop:=VR φ e.1 m.key∧VR φ e.2.1 m.val∧m.born=e.2.2
def OR(φ:cX)(N:NN)(L:Loc)(w:World):iI→Prop
 | .cells n cs esz ro=>∃c t frz,w.heap[L.B]? =some (.cells c t frz)∧L.base+n≤c.size∧
   (∀i v,cs.get i=some v→i<n∧v.one=true∧∃cv,c[L.base+i]? =some cv∧VR φ v cv)∧
   (ro=false→N≤L.B∧∀i,i<c.size→¬(frz.1≤i∧i<frz.2))∧
   (esz.sz≠0→c.size=L.base+L.K*esz.sz∧L.K≤9223372036854775807)∧(esz.sz=0→L.base=0)∧(esz.ty≠0→t+1=esz.ty)∧(esz.sz=0→ro=false→frz=(0,0))
 | .map es clock=>N≤L.B∧∃dc,w.heap[L.B]? =some (.map dc clock)∧bH (nA φ) es dc.toList
 | .xO es clock=>∃dc,w.heap[L.B]? =some (.map dc clock)∧bH (nA φ) es dc.toList
 | .jW s pos=>(N≤L.B∧L.base=0)∧∃b,w.heap[L.B]? =some (.stringIter b pos)∧bytesOf b=s
 | .mapIter m since seen uw=>(N≤L.B∧L.base=0)∧∃m',w.heap[L.B]? =some (.mapIter m' since seen.toArray uw)∧
   (match m with|none=>m'=none|some x=>∃M,φ x=some M∧m'=some M.B)
 | .loop l=>N≤L.B∧∃tmps D,w.heap[L.B]? =some (.loop {state:=l.state,pending:=l.pending,fn:=l.fn,tmps,params:=l.params.toArray,assign:=l.assign,body:=l.body,defers:=D})∧
   TR φ l.nt l.tm tmps∧∃M,φ l.defers=some M∧D=M.B
 | .deferred calls=>N≤L.B∧∃c,w.heap[L.B]? =some (.deferred c)∧(match calls with|none=>c=none|some l=>∃l',c=some l'∧bH (DR φ) l l')
theorem OR.le{φ ψ:cX}(h:φ.le ψ){N:NN}{L:Loc}{w:World}:∀{o:iI},OR φ N L w o→OR ψ N L w o
 | .cells ..,⟨c,t,frz,h1,h2,h3,h4,h5⟩=>⟨c,t,frz,h1,h2,fun i v hv=>let⟨a,b,cv,d,e⟩:=h3 i v hv;⟨a,b,cv,d,e.le h⟩,h4,h5⟩
 | .map ..,⟨hN,dc,h1,h2⟩=>⟨hN,dc,h1,h2.mono fun _ _ e=>⟨e.1.le h,e.2.1.le h,e.2.2⟩⟩
 | .xO ..,⟨dc,h1,h2⟩=>⟨dc,h1,h2.mono fun _ _ e=>⟨e.1.le h,e.2.1.le h,e.2.2⟩⟩
 | .jW ..,x=>x
 | .mapIter m ..,⟨hN,m',h1,h2⟩=>⟨hN,m',h1,by
   cases m with
   |none=>exact h2
   |some x=>obtain⟨M,a,b⟩:=h2;exact⟨M,h _ _ a,b⟩⟩
 | .loop l,⟨hN,tmps,D,h1,h2,M,h3,h4⟩=>⟨hN,tmps,D,h1,h2.le h,M,h _ _ h3,h4⟩
 | .deferred c,⟨hN,x,h1,h2⟩=>⟨hN,x,h1,by
   cases c with
   |none=>exact h2
   |some l=>obtain⟨l',a,b⟩:=h2;exact⟨l',a,b.mono fun _ _=>DR.le h⟩⟩
theorem OR.congr{φ:cX}{N:NN}{L:Loc}{w w':World}(hw:w'.heap[L.B]? =w.heap[L.B]?):∀{o:iI},OR φ N L w o→OR φ N L w' o
 | .cells ..,⟨c,t,frz,h1,h⟩=>⟨c,t,frz,hw.trans h1,h⟩
 | .map ..,⟨hN,dc,h1,h2⟩=>⟨hN,dc,hw.trans h1,h2⟩
 | .xO ..,⟨dc,h1,h2⟩=>⟨dc,hw.trans h1,h2⟩
 | .jW ..,⟨hN,b,h1,h2⟩=>⟨hN,b,hw.trans h1,h2⟩
 | .mapIter ..,⟨hN,m',h1,h2⟩=>⟨hN,m',hw.trans h1,h2⟩
 | .loop _,⟨hN,tmps,D,h1,h2⟩=>⟨hN,tmps,D,hw.trans h1,h2⟩
 | .deferred _,⟨hN,x,h1,h2⟩=>⟨hN,x,hw.trans h1,h2⟩
theorem OR.lt{φ:cX}{N:NN}{L:Loc}{w:World}{o:iI}(h:OR φ N L w o):L.B<w.heap.size:=by
 have :∃x,w.heap[L.B]? =some x:=by
  cases o with
  |cells n cs esz ro=>obtain⟨c,t,frz,h1,_⟩:=h;exact⟨_,h1⟩
  |map es c=>obtain⟨_,dc,h1,_⟩:=h;exact⟨_,h1⟩
  |xO es c=>obtain⟨dc,h1,_⟩:=h;exact⟨_,h1⟩
  |jW s p=>obtain⟨_,b,h1,_⟩:=h;exact⟨_,h1⟩
  |mapIter m s se st=>obtain⟨_,m',h1,_⟩:=h;exact⟨_,h1⟩
  |loop l=>obtain⟨_,tmps,D,h1,_⟩:=h;exact⟨_,h1⟩
  |deferred c=>obtain⟨_,x,h1,_⟩:=h;exact⟨_,h1⟩
 obtain⟨x,hx⟩:=this;exact(Array.getElem?_eq_some_iff.1 hx).1
structure HR(N:NN)(φ:cX)(h:H)(w:World):Prop where
 obj:∀b o,h.t.get b=some o→N.res b=none→∃L,φ b=some L∧OR φ N L w o
 inj:∀b o b' o' L L',h.t.get b=some o→h.t.get b'=some o'→φ b=some L→φ b'=some L'→L.B=L'.B→b=b'
 lt:∀b,h.nx≤b→φ b=none
 res:∀b,N.res b≠none→φ b=none∧b<h.nx
 CD:∀g,g<h.g→φ g=some ⟨g,0,0⟩
section
variable{N:NN}{φ:cX}{h:H}{w w':World}
theorem HR.get(hr:HR N φ h w){b:Nat}{o:iI}{L:Loc}(hb:h.t.get b=some o)(hL:φ b=some L):OR φ N L w o:=by
 have hn:N.res b=none:=by
  cases hq:N.res b with
  |none=>rfl
  |some q=>rw[(hr.res b (by rw[hq];simp)).1]at hL;cases hL
 obtain⟨L',h1,h2⟩:=hr.obj b o hb hn;rw[hL]at h1;cases h1;exact h2
theorem HR.mapOf(hr:HR N φ h w){m:Nat}{es:List (AV×AV×Nat)}{clock:Nat}(hm:mapOf (h.t.get m)=some (es,clock)){M:Loc}(hM:φ m=some M):
  ∃dc,w.heap[M.B]? =some (.map dc clock)∧bH (nA φ) es dc.toList:=by
 cases hb:h.t.get m with
 |none=>rw[hb]at hm;cases hm
 | some o=>
  rw[hb]at hm;cases o with
  |map e c=>
   cases hm;obtain⟨_,dc,g1,g2⟩:=hr.get hb hM;exact⟨dc,g1,g2⟩
  |xO e c=>
   cases hm;obtain⟨dc,g1,g2⟩:=hr.get hb hM;exact⟨dc,g1,g2⟩
  |_=>cases hm
theorem HR.Lp(hr:HR N φ h w){b:Nat}{L:Loc}(hL:φ b=some L):N.res b=none:=by
 cases hq:N.res b with
 |none=>rfl
 |some q=>rw[(hr.res b (by rw[hq];simp)).1]at hL;cases hL
theorem HR.zm(hr:HR N φ h w)(e:w'.heap=w.heap):HR N φ h w':=
 ⟨fun b o hb hn=>let⟨L,h1,h2⟩:=hr.obj b o hb hn;⟨L,h1,h2.congr (by rw[e])⟩,hr.inj,hr.lt,hr.res,hr.CD⟩
theorem HR.add(hr:HR N φ h w)(L:Loc)(o:iI)(zU:∀b o L0,h.t.get b=some o→φ b=some L0→L0.B≠L.B)
  (uF:∀b o L0,h.t.get b=some o→φ b=some L0→w'.heap[L0.B]? =w.heap[L0.B]?)(ho:OR (φ.ins h.nx L) N L w' o):
  HR N (φ.ins h.nx L) (h.alloc o) w'∧φ.le (φ.ins h.nx L):=by
 have hle:φ.le (φ.ins h.nx L):=cX.qK L (hr.lt _ (aP _));refine⟨⟨?_,?_,?_,?_,fun g hg=>hle _ _ (hr.CD g hg)⟩,hle⟩
 ·intro b o' hb hn
  simp only[H.alloc,T.bS]at hb;split at hb
  ·rename_i e;subst e;cases hb;exact⟨L,cX.cS _ _ _,ho⟩
  ·obtain⟨M,h1,h2⟩:=hr.obj b o' hb hn
   exact⟨M,hle _ _ h1,(h2.le hle).congr (uF b o' M hb h1)⟩
 ·intro b o1 b' o2 L1 L2 hb mz h1 h2 e
  simp only[H.alloc,T.bS]at hb mz;split at hb<;>split at mz
  ·rename_i x y;rw[x,y]
  ·rename_i x y;subst x;rw[cX.cS]at h1;cases h1
   rw[cX.fO _ _ y]at h2;exact absurd e.symm (zU _ _ _ mz h2)
  ·rename_i x y;subst y;rw[cX.cS]at h2;cases h2
   rw[cX.fO _ _ x]at h1;exact absurd e (zU _ _ _ hb h1)
  ·rename_i x y;rw[cX.fO _ _ x]at h1;rw[cX.fO _ _ y]at h2
   exact hr.inj b o1 b' o2 L1 L2 hb mz h1 h2 e
 ·intro b hb
  have mz:h.nx+1≤b:=hb;rw[cX.fO _ _ (by omega)];exact hr.lt b (by omega)
 ·intro b hb
  obtain⟨h1,h2⟩:=hr.res b hb;exact⟨by rw[cX.fO _ _ (by omega)];exact h1,Nat.lt_succ_of_lt h2⟩
theorem HR.push(hr:HR N φ h w)(O:Obj)(base K:Nat)(o:iI)(hw:w'.heap=w.heap.push O)(ho:OR (φ.ins h.nx ⟨w.heap.size,base,K⟩) N ⟨w.heap.size,base,K⟩ w' o):
  HR N (φ.ins h.nx ⟨w.heap.size,base,K⟩) (h.alloc o) w'∧φ.le (φ.ins h.nx ⟨w.heap.size,base,K⟩):=by
 refine hr.add _ o (fun b o L0 hb hL=>?_) (fun b o L0 hb hL=>?_) ho
 ·have:=(hr.get hb hL).lt;show L0.B≠w.heap.size;omega
 ·have:=(hr.get hb hL).lt
  rw[hw,aK,if_neg (by omega)]
theorem HR.set(hr:HR N φ h w){b:Nat}{o:iI}{L:Loc}(hb:h.t.get b=some o)(hL:φ b=some L)(o':iI)
  (uF:∀k,k≠L.B→w'.heap[k]? =w.heap[k]?)(ho:OR φ N L w' o'):HR N φ {h with t:=h.t.set b (some o')} w':=by
 refine⟨?_,?_,hr.lt,hr.res,hr.CD⟩
 ·intro x ox hx hn
  simp only[T.bS]at hx;split at hx
  ·rename_i e;subst e;cases hx;exact⟨L,hL,ho⟩
  ·rename_i e
   obtain⟨M,h1,h2⟩:=hr.obj x ox hx hn;exact⟨M,h1,h2.congr (uF _ (fun e'=>e (hr.inj x ox b o M L hx hb h1 hL e')))⟩
 ·intro x ox y oy L1 L2 hx hy h1 h2 e
  simp only[T.bS]at hx hy;have gx:∃o1,h.t.get x=some o1:=by
   by_cases q:x=b
   ·subst q;exact⟨_,hb⟩
   ·rw[if_neg q]at hx;exact⟨_,hx⟩
  have gy:∃o1,h.t.get y=some o1:=by
   by_cases q:y=b
   ·subst q;exact⟨_,hb⟩
   ·rw[if_neg q]at hy;exact⟨_,hy⟩
  obtain⟨o1,gx⟩:=gx;obtain⟨o2,gy⟩:=gy;exact hr.inj x o1 y o2 L1 L2 gx gy h1 h2 e
theorem HR.drop(hr:HR N φ h w)(b:Nat):HR N φ {h with t:=h.t.set b none} w:=by
 refine⟨?_,?_,hr.lt,hr.res,hr.CD⟩
 ·intro x ox hx hn
  simp only[T.bS]at hx;split at hx
  ·cases hx
  ·exact hr.obj x ox hx hn
 ·intro x ox y oy L1 L2 hx hy h1 h2 e
  simp only[T.bS]at hx hy;split at hx
  ·cases hx
  ·split at hy
   ·cases hy
   ·exact hr.inj x ox y oy L1 L2 hx hy h1 h2 e
end
def PR(φ:cX)(p:mL)(e:PanicEntry):Prop:=e.recovered=p.recovered∧e.goexit=false∧VR φ p.v e.v
def MR(φ:cX):zK→FrameMode→Prop
 | .run,m=>m= .run
 | .returning,m=>m= .returning
 | .panicking l,m=>∃l',m= .panicking l'∧bH (PR φ) l l'
def IR(φ:cX):iL→Item→Prop
 | .code c,i=>i= .code c
 | .inBlock id,i=>i= .inBlock id
 | .inLoop c,i=>i= .inLoop c
 | .inScope c,i=>i= .inScope c
 | .ops ops l,i=>∃idx,i= .inRegion ops idx∧idx.map (fun j=>ops[j]?)=l.map some
 | .inRangeFunc l,i=>∃L,φ l=some L∧i= .inRangeFunc L.B
 | .endRangeFunc l,i=>∃L,φ l=some L∧i= .endRangeFunc L.B
 | .beginRound,i=>i= .beginRound
def Pf(φ:cX):Option Nat→Option Nat→Prop
 |none,r=>r=none
 |some l,r=>∃L,φ l=some L∧r=some L.B
structure FR(φ:cX)(a:bY)(fr:Frame):Prop where
 fn:fr.fn=a.fn
 tm:TR φ a.nt a.tm fr.tmps
 todo:bH (IR φ) a.todo fr.todo
 defers:bH (DR φ) a.defers fr.defers
 mode:MR φ a.mode fr.mode
 kind:fr.kind=a.kind
 round:Pf φ a.roundOf fr.roundOf
theorem PR.le{φ ψ:cX}(h:φ.le ψ){p:mL}{e:PanicEntry}(x:PR φ p e):PR ψ p e:=⟨x.1,x.2.1,x.2.2.le h⟩
theorem MR.le{φ ψ:cX}(h:φ.le ψ):∀{a:zK}{m:FrameMode},MR φ a m→MR ψ a m
 | .run,_,x=>x
 | .returning,_,x=>x
 | .panicking _,_,⟨l',e,x⟩=>⟨l',e,x.mono fun _ _=>PR.le h⟩
theorem IR.le{φ ψ:cX}(h:φ.le ψ):∀{a:iL}{i:Item},IR φ a i→IR ψ a i
 | .code _,_,x=>x
 | .inBlock _,_,x=>x
 | .inLoop _,_,x=>x
 | .inScope _,_,x=>x
 | .ops ..,_,x=>x
 | .inRangeFunc _,_,⟨L,e,x⟩=>⟨L,h _ _ e,x⟩
 | .endRangeFunc _,_,⟨L,e,x⟩=>⟨L,h _ _ e,x⟩
 | .beginRound,_,x=>x
theorem Pf.le{φ ψ:cX}(h:φ.le ψ):∀{a:Option Nat}{r:Option Nat},Pf φ a r→Pf ψ a r
 |none,_,x=>x
 |some _,_,⟨L,e,x⟩=>⟨L,h _ _ e,x⟩
theorem FR.le{φ ψ:cX}(h:φ.le ψ){a:bY}{fr:Frame}(x:FR φ a fr):FR ψ a fr:=
 ⟨x.fn,x.tm.le h,x.todo.mono fun _ _=>IR.le h,x.defers.mono fun _ _=>DR.le h,x.mode.le h,x.kind,x.round.le h⟩
def JI(ops:Array Oper)(idx:List Nat):Prop:=
 ∀i o,ops[i]? =some o→∀e,e∈cu o.after.toList→e∈idx→i∈idx
structure DW(d:qi)(idx:List Nat):Prop where
 stat:GD d.ops (kD 0 d.ops.toList) (kD 0 d.ops.toList)=true
 nodup:idx.Nodup
 closed:∀pre sO,idx=pre++sO→JI d.ops sO
 rem:∀p,p∈d.rem→p.1∈idx∧d.ops[p.1]? =some p.2
 early:∀p,p∈d.early→d.ops[p.1]? =some p.2.1
 all:∀i,i∈idx→(∃o,(i,o)∈d.rem)∨∃o b,(i,o,b)∈d.early
 wait:d.wait=true→∃i o rem post,d.rem=(i,o)::rem∧idx=i::post∧∀p,p∈rem→p.1≠i
def isE(ops:Array Oper)(j:Nat):Bool:=
 match ops[j]? with
 |some o=>CB o
 |none=>false
def TX(φ:cX)(ops:Array Oper)(idx:List Nat)(nt:Nat)(tm:T AV)(tmps:Array Value):Prop:=
 tmps.size=nt∧∀t,(∀j,j∈idx→isE ops j=true→kJ ops j≠some t)→VR φ ((tm.get t).getD jd) (tmps.getD t undef)
def Nr(N:NN)(k:Nat)(d:qi)(idx:List Nat):Prop:=
 ∀p,p∈d.early→p.1∈idx→GA p.2.1=true→N.res p.2.2=some (k,p.1)
structure DFR(N:NN)(k:Nat)(φ:cX)(d:qi)(a:bY)(fr:Frame)(idx:List Nat)(ck:List Item):Prop where
 fn:fr.fn=a.fn
 here:fr.todo= .inRegion d.ops idx::ck
 tm:TX φ d.ops idx a.nt a.tm fr.tmps
 todo:bH (IR φ) a.todo ck
 dw:DW d idx
 lag:Nr N k d idx
 defers:bH (DR φ) a.defers fr.defers
 mode:MR φ a.mode fr.mode
 kind:fr.kind=a.kind
 round:Pf φ a.roundOf fr.roundOf
theorem TX.le{φ ψ:cX}{ops:Array Oper}{idx:List Nat}{nt:Nat}{tm:T AV}{tmps:Array Value}(h:TX φ ops idx nt tm tmps)(hl:φ.le ψ):TX ψ ops idx nt tm tmps:=
 ⟨h.1,fun i hi=>(h.2 i hi).le hl⟩
theorem DFR.le{N:NN}{k:Nat}{φ ψ:cX}(h:φ.le ψ){d:qi}{a:bY}{fr:Frame}{idx:List Nat}{ck:List Item}(x:DFR N k φ d a fr idx ck):DFR N k ψ d a fr idx ck:=
 ⟨x.fn,x.here,x.tm.le h,x.todo.mono fun _ _=>IR.le h,x.dw,x.lag,x.defers.mono fun _ _=>DR.le h,x.mode.le h,x.kind,x.round.le h⟩
def F2(N:NN)(k:Nat)(φ:cX)(a:bY)(fr:Frame):Prop:=
 match a.dr with
 |none=>FR φ a fr
 |some d=>∃idx ck,DFR N k φ d a fr idx ck
theorem F2.un{N:NN}{k:Nat}{φ:cX}{a:bY}{fr:Frame}(hd:a.dr=none)(h:F2 N k φ a fr):FR φ a fr:=by
 unfold F2 at h;rw[hd]at h;exact h
theorem F2.mk{N:NN}{k:Nat}{φ:cX}{a:bY}{fr:Frame}(hd:a.dr=none)(h:FR φ a fr):F2 N k φ a fr:=by
 unfold F2;rw[hd];exact h
theorem F2.jd{N:NN}{k:Nat}{φ:cX}{a:bY}{fr:Frame}{d:qi}(hd:a.dr=some d)(h:F2 N k φ a fr):∃idx ck,DFR N k φ d a fr idx ck:=by
 unfold F2 at h;rw[hd]at h;exact h
theorem F2.Lq{N:NN}{k:Nat}{φ:cX}{a:bY}{fr:Frame}{d:qi}(hd:a.dr=some d){idx:List Nat}{ck:List Item}(h:DFR N k φ d a fr idx ck):F2 N k φ a fr:=by
 unfold F2;rw[hd];exact⟨idx,ck,h⟩
theorem F2.le{N:NN}{k:Nat}{φ ψ:cX}(h:φ.le ψ){a:bY}{fr:Frame}(x:F2 N k φ a fr):F2 N k ψ a fr:=by
 cases hd:a.dr with
 |none=>exact .mk hd ((x.un hd).le h)
 |some d=>obtain⟨idx,ck,y⟩:=x.jd hd;exact .Lq hd (y.le h)
theorem F2.res{N N':NN}{k:Nat}{φ:cX}(h:∀b i,N.res b=some (k,i)→N'.res b=some (k,i)){a:bY}{fr:Frame}(x:F2 N k φ a fr):F2 N' k φ a fr:=by
 cases hd:a.dr with
 |none=>exact .mk hd (x.un hd)
 |some d=>
  obtain⟨idx,ck,y⟩:=x.jd hd;exact .Lq hd ⟨y.fn,y.here,y.tm,y.todo,y.dw,fun p h1 h2 h3=>h _ _ (y.lag p h1 h2 h3),y.defers,y.mode,y.kind,y.round⟩
def CS(N:NN)(φ:cX):List bY→List Frame→Prop
 |[],cs=>cs=[]
 |a::as,cs=>∃c mS,cs=c::mS∧F2 N as.length φ a c∧CS N φ as mS
theorem CS.le{N:NN}{φ ψ:cX}(h:φ.le ψ):∀{as:List bY}{cs:List Frame},CS N φ as cs→CS N ψ as cs
 |[],_,x=>x
 |_::_,_,⟨c,mS,e,x,y⟩=>⟨c,mS,e,x.le h,y.le h⟩
theorem CS.res{N N':NN}{φ:cX}{k:Nat}(h:∀b j i,j<k→N.res b=some (j,i)→N'.res b=some (j,i)):∀{as:List bY}{cs:List Frame},as.length≤k→CS N φ as cs→CS N' φ as cs
 |[],_,_,x=>x
 |a::as,_,hk,⟨c,mS,e,x,y⟩=>⟨c,mS,e,x.res fun b i=>h b _ i (by simp only[al]at hk;omega),y.res h (by simp only[al]at hk;omega)⟩
structure eN(P:Program)(K:lI):Prop where
 call:∀f args h v h',K.call f args h=some (v,h')→∀(N:NN)(φ:cX)(w:World)(cargs:Array Value),HR N φ h w→N.n≤w.heap.size→bH (VR φ) args cargs.toList→
  Calls P f cargs w fun e w'=>∃gA cv,e= .returned cv∧φ.le gA∧VR gA v cv∧HR N gA h' w'∧Below N.n w w'
 ext:∀f args h v h',K.ext f args h=some (v,h')→∀(N:NN)(φ:cX)(w:World)(cargs:Array Value),HR N φ h w→N.n≤w.heap.size→bH (VR φ) args cargs.toList→
  ∃gA cv w',(callFunc f cargs).run P w= .ok (.value cv) w'∧φ.le gA∧VR gA v cv∧HR N gA h' w'∧Below N.n w w'
theorem fB(P:Program):eN P jX:=⟨fun _ _ _ _ _ h=>(by cases h),fun _ _ _ _ _ h=>(by cases h)⟩
theorem xR{P:Program}{f:FuncId}{cargs:Array Value}{w:World}{Q:Ending→World→Prop}(h:Calls P f cargs w Q)(hq:∀e w',Q e w'→∃cv,e= .returned cv)(c:Frame)(cs:List Frame):
  ∃cv w',Q (.returned cv) w'∧Steps P (lone (Frame.enter P f cargs .normal) (c::cs) w) (lone (c.finish cv) cs w'):=by
 obtain⟨e,w',fr,hQ,hc,_,hl⟩:=h (c::cs);obtain⟨cv,rfl⟩:=hq _ _ hQ;exact⟨cv,w',hQ,Steps.trans hc (Steps.one (step_leave_returned hl))⟩
structure SR(N:NN)(w0:World)(φ:cX)(s:S)(fr:Frame)(cs:List Frame)(w:World):Prop where
 fr:F2 N s.cs.length φ s.fr fr
 cs:CS N φ s.cs cs
 h:HR N φ s.h w
 below:Below N w0 w
 size:N≤w.heap.size
end Go.AX
namespace Go.AX
open Go.RowKit
@[simp] theorem iP(B o n:Nat):(⟨B,o,none⟩:Addr).add n=⟨B,o+n,none⟩:=by
 unfold Addr.add;split
 ·rename_i h;subst h;rfl
 ·rfl
def jg(w:World)(B:Nat)(o:Obj):World:={w with heap:=w.heap.setIfInBounds B o}
theorem eY{w:World}{B:Nat}{o:Obj}(h:B<w.heap.size)(k:Nat):(jg w B o).heap[k]? =if k=B then some o else w.heap[k]? :=by
 simp only[jg,an];by_cases e:B=k
 ·subst e;simp[h]
 ·rw[if_neg e,if_neg (fun x=>e x.symm)]
theorem kU{w:World}{B:Nat}{o:Obj}:(jg w B o).heap.size=w.heap.size:=by simp[jg]
theorem Ns{w:World}{B:Nat}{o o':Obj}:jg (jg w B o) B o'=jg w B o':=by
 simp[jg]
theorem Dq{w:World}{B:Nat}{o:Obj}(h:w.heap[B]? =some o):jg w B o=w:=by
 obtain⟨fW,e⟩:=Array.getElem?_eq_some_iff.1 h;have :w.heap.setIfInBounds B o=w.heap:=by
  apply aL;intro k;rw[an];split
  ·rename_i q;subst q;exact h.symm
  ·rfl
 unfold jg;rw[this]
theorem fF{N:Nat}{w:World}{B:Nat}(o:Obj)(h:N≤B):Below N w (jg w B o):=
 ⟨rfl,rfl,rfl,by rw[kU];exact aP _,fun k hk=>by
  simp only[jg,an];rw[if_neg (by omega)]⟩
theorem setCell_eq{w:World}{B off:Nat}{c:Array Value}{t:TypeId}{frz:Nat×Nat}(h:w.heap[B]? =some (.cells c t frz))(v:Value):
  w.setCell ⟨B,off,none⟩ v=jg w B (.cells (c.setIfInBounds off v) t frz):=by
 obtain⟨fW,e⟩:=Array.getElem?_eq_some_iff.1 h;have :(w.heap.modify B fun
   | .cells c elem frozen=>.cells (if(none:Option Nat).isSome then c else c.setIfInBounds off v) elem frozen
   |o=>o)=w.heap.setIfInBounds B (.cells (c.setIfInBounds off v) t frz):=by
  apply aL;intro k;rw[an,Array.getElem?_modify];by_cases q:B=k
  ·subst q;rw[if_pos rfl,if_pos rfl,if_pos fW,h];simp
  ·rw[if_neg q,if_neg q]
 unfold World.setCell jg;exact congrArg (fun x=>({w with heap:=x}:World)) this
theorem uG{w:World}{B off:Nat}{c:Array Value}{t:TypeId}{frz:Nat×Nat}(h:w.heap[B]? =some (.cells c t frz)):
  w.cell? ⟨B,off,none⟩=c[off]? :=by
 simp[World.cell?,h]
theorem Nt{w:World}{B off:Nat}{c:Array Value}{t:TypeId}{frz:Nat×Nat}(h:w.heap[B]? =some (.cells c t frz)):
  w.frozen? ⟨B,off,none⟩=(frz.1≤off&&off<frz.2):=by
 simp[World.frozen?,h]
theorem mT(P:Program){B base:Nat}{t:TypeId}{frz:Nat×Nat}:∀(vs:List Value)(i:Nat)(w:World)(c:Array Value),
  w.heap[B]? =some (.cells c t frz)→(∀j,j<vs.length→base+i+j<c.size∧¬(frz.1≤base+i+j∧base+i+j<frz.2))→
  (∀v,v∈vs→v.oneCell'=true)→
  ∃c',(storeCells ⟨B,base,none⟩ vs i).run P w= .ok () (jg w B (.cells c' t frz))∧c'.size=c.size∧
   ∀k,c'[k]? =if base+i≤k∧k<base+i+vs.length then vs[k-(base+i)]? else c[k]?
 |[],i,w,c,h,_,_=>by
  refine⟨c,?_,rfl,fun k=>?_⟩
  ·rw[Dq h];rfl
  ·rw[if_neg (by simp only[aE];omega)]
 | v::vs,i,w,c,h,hb,ho=>by
  have h0:=hb 0 (by simp);simp only[Nat.add_zero]at h0;have fW:B<w.heap.size:=(Array.getElem?_eq_some_iff.1 h).1;have jV:(store ((⟨B,base,none⟩:Addr).add i) v).run P w= .ok () (jg w B (.cells (c.setIfInBounds (base+i) v) t frz)):=by
   rw[iP,run_store P w _ v .plain (ho v (by simp)),uG h,Array.getElem?_eq_getElem h0.1,Nt h];have :(decide (frz.1≤base+i)&&decide (base+i<frz.2))=false:=by
    simp only[Bool.and_eq_false_iff,decide_eq_false_iff_not];omega
   simp only[this,if_false,Bool.false_eq_true,setCell_eq h]
  have h1:(jg w B (.cells (c.setIfInBounds (base+i) v) t frz)).heap[B]? =some (.cells (c.setIfInBounds (base+i) v) t frz):=by
   rw[eY fW,if_pos rfl]
  obtain⟨c',hr,hs,hc⟩:=mT P vs (i+1) _ _ h1
   (fun j hj=>by have:=hb (j+1) (by simp;omega);simp only[aH];rw[show base+(i+1)+j=base+i+(j+1)by omega];exact this)
   (fun x hx=>ho x (by simp[hx]))
  refine⟨c',?_,by rw[hs,aH],fun k=>?_⟩
  ·simp only[storeCells,Sem.run_bind,jV,Result.andThen_ok,hr,Ns]
  ·rw[hc k]
   by_cases q:base+(i+1)≤k∧k<base+(i+1)+vs.length
   ·rw[if_pos q,if_pos (by simp only[al];omega),show k-(base+i)=(k-(base+(i+1)))+1 by omega];simp
   ·rw[if_neg q,an]
    by_cases e:base+i=k
    ·subst e;rw[if_pos rfl,if_pos h0.1,if_pos (by simp only[al];omega)];simp
    ·rw[if_neg e,if_neg (by simp only[al];omega)]
theorem pf:∀{l:List AV}{cs mS:T AV}{o:Nat},H.putCells cs o l=some mS→
  (∀i,mS.get i=if o≤i∧i<o+l.length then l[i-o]? else cs.get i)∧(∀i,o≤i→i<o+l.length→cs.get i≠none)∧(∀a,a∈l→a.one=true)
 |[],cs,mS,o,h=>by
  simp only[H.putCells,Option.some.injEq]at h;subst h;exact⟨fun i=>by rw[if_neg (by simp only[aE];omega)],fun i h1 h2=>by simp at h2;omega,by simp⟩
 | v ::l,cs,mS,o,h=>by
  simp only[H.putCells]at h;split at h
  ·rename_i u j7 Fg
   obtain⟨h1,h2,h3⟩:=pf h;refine⟨fun i=>?_,fun i hi hj=>?_,fun a ha=>?_⟩
   ·rw[h1 i]
    by_cases q:o+1≤i∧i<o+1+l.length
    ·rw[if_pos q,if_pos (by simp only[al];omega),show i-o=(i-(o+1))+1 by omega];simp
    ·rw[if_neg q,T.bS]
     by_cases e:i=o
     ·subst e;rw[if_pos rfl,if_pos (by simp only[al];omega)];simp
     ·rw[if_neg e,if_neg (by simp only[al];omega)]
   ·by_cases e:i=o
    ·subst e;rw[Fg];simp
    ·have:=h2 i (by omega) (by simp only[al]at hj;omega)
     rw[T.bS,if_neg e]at this;exact this
   ·rcases List.mem_cons.1 ha with rfl|ha
    ·exact j7
    ·exact h3 a ha
  ·cases h
theorem jH:∀{l:List AV},dN l=true→∀a,a∈l→a.one=true
 |[],_,a,ha=>by cases ha
 | v::l,h,a,ha=>by
  simp only[dN]at h;split at h
  ·rename_i hv
   rcases List.mem_cons.1 ha with rfl|ha
   ·exact hv
   ·exact jH h a ha
  ·cases h
theorem T.xS:∀(l:List AV)(cs:T AV)(o i:Nat),(T.fill cs o l).get i=if o≤i∧i<o+l.length then l[i-o]? else cs.get i
 |[],cs,o,i=>by simp only[T.fill,aE];rw[if_neg (by omega)]
 | v::l,cs,o,i=>by
  simp only[T.fill,T.xS l,T.bS,al];by_cases e:i=o
  ·subst e;rw[if_neg (by omega),if_pos rfl,if_pos (by omega)];simp
  ·by_cases q:o+1≤i∧i<o+1+l.length
   ·rw[if_pos q,if_pos (by omega),show i-o=(i-(o+1))+1 by omega];simp
   ·rw[if_neg q,if_neg e,if_neg (by omega)]
theorem JJ{l:List AV}{cs mS:T AV}{o:Nat}(h:H.putRow cs o l=some mS):
  (∀i,mS.get i=if o≤i∧i<o+l.length then l[i-o]? else cs.get i)∧(∀i,o≤i→i<o+l.length→cs.get i≠none)∧(∀a,a∈l→a.one=true):=by
 unfold H.putRow at h;split at h
 ·rename_i xs
  split at h
  ·rename_i hc
   cases h;simp only[Bool.and_eq_true,dY]at hc;obtain⟨_,h2,h3⟩:=hc;have h2:=aJ h2;refine⟨fun i=>?_,fun i hi hj=>?_,jH h3⟩
   ·simp only[T.pd,dY]
    split
    ·rename_i q
     rw[aA (by simp;omega),aF (by simp;omega)];congr 1;simp;omega
    ·rename_i q
     by_cases q1:i<o
     ·rw[aF (by simp;omega),List.getElem?_take,if_pos q1]
     ·rw[aA (by simp;omega),aA (by simp;omega),List.getElem?_drop]
      congr 1;simp;omega
   ·rw[T.pd,List.getElem?_eq_getElem (by omega)];simp
  ·exact pf h
 ·exact pf h
section
variable{P:Program}{N:NN}{φ:cX}{h h':H}{w:World}
theorem lC{L:Loc}{n:Nat}{cs:T AV}{esz:EK}{ro:Bool}(ho:OR φ N L w (.cells n cs esz ro)):
  ∀(k o:Nat)(l:List AV),H.loadCells cs o k=some l→
   ∃cl:List Value,bH (VR φ) l cl∧cl.length=k∧(∀j v,cl[j]? =some v→w.cell? ⟨L.B,L.base+o+j,none⟩=some v)∧(∀a,a∈l→a.one=true)
 |0,o,l,hl=>by
  simp only[H.loadCells,Option.some.injEq]at hl;subst hl;exact⟨[],trivial,rfl,by simp,by simp⟩
 | k +1,o,l,hl=>by
  simp only[H.loadCells]at hl;split at hl
  ·cases hl
  ·rename_i v hv
   split at hl
   ·cases hl
   ·rename_i l' Tg
    cases hl;obtain⟨cl,h1,h2,h3,h4⟩:=lC ho k (o+1) l' Tg;obtain⟨c,t,frz,g1,g2,g3,g4,g5⟩:=ho;obtain⟨g6,g7,cv,g8,g9⟩:=g3 o v hv;refine⟨cv::cl,⟨g9,h1⟩,by simp[h2],fun j x hj=>?_,fun a ha=>?_⟩
    ·cases j with
     |zero=>simp only[List.getElem?_cons_zero,Option.some.injEq]at hj;subst hj;rw[Nat.add_zero,uG g1,g8]
     |succ j=>
      simp only[aq]at hj;have:=h3 j x hj;rwa[show L.base+(o+1)+j=L.base+o+(j+1)by omega]at this
    ·rcases List.mem_cons.1 ha with rfl|ha
     ·exact g7
     ·exact h4 a ha
theorem oF{cs:T AV}:∀{k o:Nat}{l:List AV},H.loadCells cs o k=some l→l.length=k
 |0,_,_,h=>by simp only[H.loadCells,Option.some.injEq]at h;subst h;rfl
 | k+1,o,l,h=>by
  simp only[H.loadCells]at h;split at h
  ·cases h
  ·split at h
   ·cases h
   ·rename_i l' Tg;cases h;simp[oF Tg]
theorem uH(hr:HR N φ h w){b o k:Nat}{L0:Loc}(Fh:φ b=some L0){l:List AV}(hl:h.row b o k=some l):
  ∃L cl,φ b=some L∧(loadCells ⟨L.B,L.base+o,none⟩ k).run P w= .ok cl.toArray w∧bH (VR φ) l cl∧cl.length=k∧(∀a,a∈l→a.one=true):=by
 unfold H.row at hl;split at hl
 ·rename_i n cs esz ro hb
  obtain⟨L,hL,ho⟩:=hr.obj _ _ hb (hr.Lp Fh);obtain⟨cl,h1,h2,h3,h4⟩:=lC ho k o l ((ie _ _ _).symm.trans hl);refine⟨L,cl,hL,?_,h1,h2,h4⟩;have:=run_loadCells_list (P:=P) w ⟨L.B,L.base+o,none⟩ cl (fun j v hj=>by rw[iP];exact h3 j v hj);rw[h2]at this;exact this
 ·cases hl
theorem Pg(hr:HR N φ h w){b o n:Nat}{L0:Loc}(Fh:φ b=some L0){cs:T AV}{esz:EK}{ro:Bool}{v:AV}(hb:h.t.get b=some (.cells n cs esz ro))(hv:cs.get o=some v):
  ∃L cv,φ b=some L∧w.cell? ⟨L.B,L.base+o,none⟩=some cv∧VR φ v cv∧v.one=true:=by
 obtain⟨L,hL,c,t,frz,g1,g2,g3,g4,g5⟩:=hr.obj _ _ hb (hr.Lp Fh);obtain⟨g6,g7,cv,g8,g9⟩:=g3 o v hv;exact⟨L,cv,hL,by rw[uG g1,g8],g9,g7⟩
theorem uI(hr:HR N φ h w){b o:Nat}{L0:Loc}(Fh:φ b=some L0){l:List AV}{cl:List Value}(hp:h.put b o l=some h')(hl:bH (VR φ) l cl):
  ∃L w',φ b=some L∧(storeCells ⟨L.B,L.base+o,none⟩ cl).run P w= .ok () w'∧HR N φ h' w'∧Below N w w'∧h'.nx=h.nx∧w'.heap.size=w.heap.size:=by
 have key:∀(n:Nat)(cs mS:T AV)(esz:EK),h.t.get b=some (.cells n cs esz false)→h'={h with t:=h.t.set b (some (.cells n mS esz false))}→
   (∀i,mS.get i=if o≤i∧i<o+l.length then l[i-o]? else cs.get i)→(∀i,o≤i→i<o+l.length→i<n)→(∀a,a∈l→a.one=true)→
   ∃L w',φ b=some L∧(storeCells ⟨L.B,L.base+o,none⟩ cl).run P w= .ok () w'∧HR N φ h' w'∧Below N w w'∧h'.nx=h.nx∧w'.heap.size=w.heap.size:=by
  intro n cs mS esz hb e p1 p2 p3;subst e;obtain⟨L,hL,ho⟩:=hr.obj _ _ hb (hr.Lp Fh);have ho':=ho;obtain⟨c,t,frz,g1,g2,g3,g4,g5⟩:=ho;obtain⟨hN,Ph⟩:=g4 rfl;have hlen:=hl.length;have fW:=ho'.lt;have tI:∀j,j<cl.length→o+j<n:=fun j hj=>p2 (o+j) (by omega) (by omega);obtain⟨c',r1,r2,r3⟩:=mT P (B:=L.B) (base:=L.base+o) (t:=t) (frz:=frz) cl 0 w c g1
   (fun j hj=>by have:=tI j hj;exact⟨by omega,Ph _ (by omega)⟩)
   (fun v hv=>by
    obtain⟨i,hi⟩:=List.getElem?_of_mem hv;obtain⟨a,ha,hR⟩:=hl.get' hi;exact hR.one (p3 a (aD ha)))
  refine⟨L,_,hL,r1,?_,fF _ hN,rfl,kU⟩;refine hr.set hb hL _ (fun k hk=>by rw[eY fW,if_neg hk]) ?_;refine⟨c',t,frz,by rw[eY fW,if_pos rfl],by rw[r2];exact g2,fun i v hi=>?_,fun _=>⟨hN,by rw[r2];exact Ph⟩,⟨fun he=>by rw[r2];exact g5.1 he,g5.2⟩⟩;rw[p1 i]at hi;split at hi
  ·rename_i q
   obtain⟨cv,zV,hR⟩:=hl.get hi;refine⟨by have:=tI (i-o) (by omega);omega,p3 v (aD hi),cv,?_,hR⟩;rw[r3,if_pos (by omega),show L.base+i-(L.base+o+0)=i-o by omega];exact zV
  ·rename_i q
   obtain⟨q1,q2,cv,q3,q4⟩:=g3 i v hi;refine⟨q1,q2,cv,?_,q4⟩;rw[r3,if_neg (by omega)];exact q3
 unfold H.put at hp;split at hp
 ·rename_i n cs esz hb
  split at hp
  ·rename_i mS gI
   cases hp;obtain⟨p1,p2,p3⟩:=JJ gI;refine key n cs mS esz hb rfl p1 (fun i h1 h2=>?_) p3;have:=p2 i h1 h2;obtain⟨L,hL,c,t,frz,g1,g2,g3,g4⟩:=hr.obj _ _ hb (hr.Lp Fh);cases hg:cs.get i with
   |none=>exact absurd hg this
   |some v=>exact(g3 _ _ hg).1
  ·split at hp
   ·rename_i hq
    cases hp;rw[Bool.and_eq_true,dY]at hq;have h2:=aJ hq.2;exact key n cs _ esz hb rfl (fun i=>T.xS l cs o i) (fun i _ h=>by omega) (jH hq.1)
   ·cases hp
 ·cases hp
theorem fc{N:Nat}{w:World}(O:Obj)(h:N≤w.heap.size):Below N w {w with heap:=w.heap.push O}:=
 ⟨rfl,rfl,rfl,by simp,fun k hk=>by show(w.heap.push O)[k]? =_;rw[aK,if_neg (by omega)]⟩
theorem ph(hr:HR N φ h w)(hN:N≤w.heap.size){l:List AV}{cl:List Value}(hl:bH (VR φ) l cl)(ho:∀a,a∈l→a.one=true)(t:TypeId):
  HR N (φ.ins h.nx ⟨w.heap.size,0,0⟩) (h.bq t l) {w with heap:=w.heap.push (.cells cl.toArray t)}∧φ.le (φ.ins h.nx ⟨w.heap.size,0,0⟩):=by
 have hle:φ.le (φ.ins h.nx ⟨w.heap.size,0,0⟩):=cX.qK _ (hr.lt _ (aP _));refine hr.push (.cells cl.toArray t) 0 0 _ rfl ?_;refine⟨cl.toArray,t,(0,0),by simp,by simp[hl.length],fun i v hi=>?_,fun _=>⟨hN,by simp⟩,⟨fun e=>absurd rfl e,fun _=>rfl,fun _=>rfl,fun _ _=>rfl⟩⟩;rw[T.eG]at hi;obtain⟨cv,zV,hR⟩:=hl.get hi;have OU:=(List.getElem?_eq_some_iff.1 hi).1;exact⟨by rw[dY];exact OU,ho v (aD hi),cv,by simpa using zV,hR.le hle⟩
end
end Go.AX
