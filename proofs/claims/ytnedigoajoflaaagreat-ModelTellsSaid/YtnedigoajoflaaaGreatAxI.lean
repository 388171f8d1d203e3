/-
  AX: a world at its whole, as a heap of the evaluator's; arguments that are slices of numbers.
-/
import Derived.Test.YtnedigoajoflaaaGreatAxH
import Derived.ProofKit
import Derived.OpenShut
import Derived.ChangeSlices
import Derived.OpenVars
import Derived.ChangeStays
import Derived.ChangeBook
import Derived.ChangeArms
import Derived.Deep.Slices
set_option linter.unusedSimpArgs false
set_option linter.unusedVariables false
set_option linter.unusedSectionVars false
set_option linter.defProp false
set_option maxHeartbeats 8000000
open Bool renaming and_eq_true→ak,or_true→aC
open List renaming mem_cons_of_mem→al,getElem?_append_right→an,getElem?_append_left→aq,flatMap_cons→au,getElem?_eq_none→aw,mem_append_right→az,mem_append_left→aB
open Option renaming isNone_iff_eq_none→ao
open Nat renaming eq_of_beq_eq_true→aA,add_mul→aD
namespace Go.AX
noncomputable section
open Go Go.RowKit
def Qn(n:Nat):Value→Option AV
 | .bool b=>some (.bool b)
 | .int k m=>some (.int k m)
 | .string s=>some (.str (bytesOf s))
 | .pointer none=>some .cN
 | .pointer (some ⟨B,o,none⟩)=>if B<n then some (.ptr B o)else none
 | .slice none 0 0=>some .bh
 | .slice (some ⟨B,o,none⟩) len c=>if B<n then some (.slice B o len (.exact c))else none
 | .map none=>some .dB
 |_=>none
def lg(n:Nat):cX:=fun b=>if b<n then some ⟨b,0,0⟩else none
theorem Qo{n:Nat}{v:Value}{a:AV}(h:Qn n v=some a):VR (lg n) a v∧a.one=true:=by
  unfold Qn at h;split at h;all_goals first
    |(cases h;done)
    |(cases h;exact⟨by simp,rfl⟩)
    | (split at h
       · rename_i hb
         cases h;refine⟨?_,rfl⟩;first
         |(rw[dS];exact⟨⟨_,0,0⟩,by unfold lg;rw[if_pos hb],by simp⟩)
         |(rw[dT];exact⟨⟨_,0,0⟩,by unfold lg;rw[if_pos hb],by simp⟩)
       ·cases h)
def BP{α:Type}(t:T α)(k:Nat):List (Option α)→T α
 |[]=>t
 |x::l=>BP (t.set k x) (k+1) l
theorem Ez{α:Type}:∀(l:List (Option α))(t:T α)(k j:Nat),(BP t k l).get j=if k≤j∧j<k+l.length then(l[j-k]?).join else t.get j
 |[],t,k,j=>by simp only[BP,List.length_nil];rw[if_neg (by omega)]
 | x::l,t,k,j=>by
  simp only[BP,Ez l,T.bS,List.length_cons];by_cases e:j=k
  ·subst e;rw[if_neg (by omega),if_pos rfl,if_pos (by omega)];simp
  ·by_cases q:k+1≤j∧j<k+1+l.length
   ·rw[if_pos q,if_pos (by omega),show j-k=(j-(k+1))+1 by omega];simp
   ·rw[if_neg q,if_neg e,if_neg (by omega)]
theorem tX{α:Type}(l:List (Option α))(j:Nat):(BP (.e:T α) 0 l).get j=(l[j]?).join:=by
 rw[Ez];by_cases q:j<l.length
 ·rw[if_pos ⟨Nat.zero_le _,by omega⟩];simp
 ·rw[if_neg (by omega),aw (by omega)];rfl
theorem tD{P:Program}{K:Type}{enc:TypeId×Value→K}{W W':World}(hl:laidOutB P=true)(hb:Below W.heap.size W W'):∀{ts:List TypeId}{vs:List Value}{ds:List (DataW K)}{ps:List MemPlace},
  (∀t,t∈ts→P.readableRec t=true∧t<P.types.size)→DataW.TrodAll enc P W 0 (fun _=>true) true ts vs ds ps→(∀p,p∈ps→p.block<W.heap.size)→∀sp:Nat→Bool,(∀p,p∈ps→sp p.block=true)→DataW.TrodAll enc P W' 0 sp true ts vs ds ps
 |[],[],[],_,_,h,_,_,_=>h
 | t::ts,v::vs,d::ds,ps,ht,h,fW,sp,SW=>by
  obtain⟨p,q,⟨fuel,h1⟩,h2,rfl⟩:=h;have ht':=ht t List.mem_cons_self;refine⟨p,q,⟨fuel,DataW.trod_stays (kids_book hl ht'.1) (book_sized ht'.1) (fun h=>by cases h) ⟨ht'.2,book_self t⟩ h1 (fun x hx=>hb.same (fW x (aB _ hx))) (fun x hx=>SW x (aB _ hx))⟩,
   tD hl hb (fun t h=>ht t (al _ h)) h2 (fun x hx=>fW x (az _ hx)) sp (fun x hx=>SW x (az _ hx)),rfl⟩
 |[],[],_::_,_,_,h,_,_,_=>h.elim
 |[],_::_,_,_,_,h,_,_,_=>h.elim
 |_::_,[],_,_,_,h,_,_,_=>h.elim
 |_::_,_::_,[],_,_,h,_,_,_=>h.elim
theorem XJ{k:IntKind}(hk:k.signed=false){z:Int}(h:(Lit.int k z).wf=true):∃n:Nat,z=Int.ofNat n∧n<Nm k:=by
 cases k<;>simp[IntKind.signed]at hk<;>simp[Lit.wf,IntKind.min,IntKind.max,IntKind.signed,IntKind.bits]at h<;>
  exact⟨z.toNat,(Int.toNat_of_nonneg h.1).symm,by simp only[Nm];omega⟩
end
end Go.AX
namespace Go.AX
noncomputable section
open Go.RowKit
def isRF:Code→Bool
 | .rangeFunc _ _ _ _=>true
 |_=>false
def rfOp:Code→Operand
 | .rangeFunc f _ _ _=>f
 |_=>.const (.bool false)
def rfPs:Code→Array Tmp
 | .rangeFunc _ ps _ _=>ps
 |_=> #[]
def H.obj(h:H)(l:Nat)(o:iI):H:={h with t:=h.t.set l (some o)}
section
variable{P:Program}{h:H}
theorem Mc(l b:Nat)(o:iI):(h.obj l o).t.get b=if b=l then some o else h.t.get b:=by unfold H.obj;exact T.bS _ _ _ _
theorem cF{l b:Nat}(hb:b≠l)(o:iI):(h.obj l o).t.get b=h.t.get b:=by rw[Mc,if_neg hb]
theorem kg(l:Nat)(o:iI):(h.obj l o).t.get l=some o:=by rw[Mc,if_pos rfl]
theorem BQ(l:Nat)(o:iI):(h.obj l o).nx=h.nx:=id rfl
theorem iw.obj{h h':H}{S:List Nat}(ho:iw h h' S){l:Nat}(hb:l∈S∨h.nx≤l)(o:iI):iw h (h'.obj l o) S:=
 ⟨ho.1,fun b mz hs=>by rw[cF (by rintro rfl;rcases hb with q|q;exact hs q;omega)];exact ho.2 b mz hs⟩
theorem xf(o:iI)(b:Nat):(h.alloc o).t.get b=if b=h.nx then some o else h.t.get b:=by unfold H.alloc;exact T.bS _ _ _ _
theorem Qp(o:iI):(h.alloc o).nx=h.nx+1:=id rfl
theorem iw.alloc{h h':H}{S:List Nat}(ho:iw h h' S)(o:iI):iw h (h'.alloc o) S:=
 ⟨Nat.le_succ_of_le ho.1,fun b hb hs=>by rw[xf,if_neg (by have:=ho.1;omega)];exact ho.2 b hb hs⟩
theorem Md{fn nt:Nat}{ro:Option Nat}{c:Code}{rp:List Nat}{ds:List Nat}{tm:T AV}{Q:KQ}(hc:isRF (bL c rp)=true){f:Operand}{ps:Array Tmp}(hf:rfOp (bL c rp)=f)(hp:rfPs (bL c rp)=ps)
  (hw:rfW P fn nt ro f ps (bL c (0::rp)) (bL c (1::rp)) ds tm h Q):bB P fn nt ro (bL c rp) ds tm h Q:=by
 rw[ij,ij]at hw;revert hc hf hp hw;generalize bL c rp=c;intro hc hf hp hw;cases c<;>first|(cases hc;done)|(simp only[gi,jK]at hw;cases hf;cases hp;exact hw)
def yF(fn nt:Nat)(tm:T AV)(ps:List Tmp)(a b:Code)(d:Nat)(st:LoopState):fC:={state:=st,pending:=none,fn,nt,tm,params:=ps,assign:=a,body:=b,defers:=d}
def pX(h:H)(fn nt:Nat)(tm:T AV)(ps:List Tmp)(a b:Code):H:=(h.alloc (.deferred (some []))).alloc (.loop (yF fn nt tm ps a b h.nx .ready))
theorem jt(fn nt:Nat)(tm:T AV)(ps:List Tmp)(a b:Code):(pX h fn nt tm ps a b).nx=h.nx+2:=id rfl
theorem fR(fn nt:Nat)(tm:T AV)(ps:List Tmp)(a b:Code)(c:Nat):(pX h fn nt tm ps a b).t.get c=if c=h.nx+1 then some (.loop (yF fn nt tm ps a b h.nx .ready))else if c=h.nx then some (.deferred (some []))else h.t.get c:=by
 unfold pX;rw[xf,Qp];split
 ·rfl
 ·rw[xf]
theorem zy{fn nt:Nat}{f:Operand}{ps:Array Tmp}{a b:Code}{ds:List Nat}{tm:T AV}{Q:KQ}{g:Nat}{cap:List AV}(he:bP tm f=some (.func g [] cap))
  (hcf:∀(args:List AV)(h:H),je P (.func g [] cap) args h= .enter g (args++cap) h)
  (hp:bW P (.enter g ([.yield (h.nx+1)]++cap) (pX h fn nt tm ps.toList a b)) fun _ h'=>h'.t.get (h.nx+1)=some (.loop (yF fn nt tm ps.toList a b h.nx .ready))∧
   Q .norm (h.nx::ds) tm (h'.obj (h.nx+1) (.loop (yF fn nt tm ps.toList a b h.nx .exhausted)))):rfW P fn nt none f ps a b ds tm h Q:=by
 unfold rfW;rw[he];simp only;rw[hcf];unfold AY;simp only;refine bW.mono P hp ?_;rintro _ h' ⟨hl,hq⟩;unfold Hz;rw[hl];exact hq
def AsgK(P:Program)(l:Nat)(r:fC)(Q:AV→H→Prop):KQ:=fun o ds tm h=>
 match o with
 | .norm=>ds=[]∧∃r',h.t.get l=some (.loop r')∧r'.state= .ready∧bB P r.fn r.nt (some l) r.body [] tm {h with t:=h.t.set l (some (.loop {r' with state:=.busy}))} (js l Q)
 |_=>False
theorem vB{l:Nat}{r:fC}{Q:AV→H→Prop}{tm:T AV}(hl:h.t.get l=some (.loop r))(jV:r.state= .ready)(hw:bB P r.fn r.nt (some l) r.body [] tm (h.obj l (.loop {r with state:=.busy})) (js l Q)):
  AsgK P l r Q .norm [] tm h:=⟨rfl,r,hl,jV,hw⟩
theorem ju{l:Nat}{r:fC}{Q:AV→H→Prop}{ds:List Nat}{tm:T AV}(hl:h.t.get l=some (.loop {r with state:=.busy}))(jV:r.state= .ready)(hpe:r.pending=none)(hq:Q (.bool true) (h.obj l (.loop r))):js l Q .norm ds tm h:=by
 unfold js;rw[hl];have :({r with state:=.ready,pending:=none}:fC)=r:=by cases r;simp only at jV hpe;subst jV;subst hpe;rfl
 simp only;rw[this];exact hq
theorem pJ{l:Nat}{args:List AV}{r:fC}{tm:T AV}{Q:AV→H→Prop}(hl:h.t.get l=some (.loop r))(hp:iA r.nt r.tm r.params args=some tm)
  (hw:bB P r.fn r.nt (some l) r.assign [] tm h (AsgK P l r Q)):bW P (.round l args h) Q:=HC hl hp hw
end
end
end Go.AX
namespace Go.AX
noncomputable section
open Go.RowKit
section
variable{P:Program}{nt:Nat}{ops:Array Oper}
def cU(P:Program)(nt:Nat)(ops:Array Oper)(i:Nat)(l:List Oper)(early:List (Nat×Oper×Nat))(tm:T AV)(h:H)(Q:T AV→H→Prop):Prop:=mo P nt ops (kD i l) early tm h Q
def dK(P:Program)(nt:Nat)(ops:Array Oper)(i:Nat)(d:Option Tmp)(l:List Oper)(early:List (Nat×Oper×Nat))(tm:T AV)(Q:T AV→H→Prop)(v:AV)(h:H):Prop:=cU P nt ops i l early (m_ nt tm d v) h Q
theorem Qq(i:Nat)(d:Option Tmp)(l:List Oper)(early:List (Nat×Oper×Nat))(tm:T AV)(Q:T AV→H→Prop)(v:AV)(h:H):dK P nt ops i d l early tm Q v h=cU P nt ops i l early (m_ nt tm d v) h Q:=id rfl
def gX(b:Option Bool)(p q:Prop):Prop:=
 match b with
 |some true=>p
 |some false=>q
 |none=>False
theorem Me(p q:Prop):gX (some true) p q=p:=id rfl
theorem Ik(p q:Prop):gX (some false) p q=q:=id rfl
theorem hX{tm:T AV}{g:Option (Nat×Bool)}(hg:g=none){p q:Prop}(hp:p):lN tm ops g p q:=by subst hg;exact hp
theorem ng{tm:T AV}{g:Option (Nat×Bool)}{x:Nat×Bool}(hg:g=some x){p q:Prop}(hp:gX (gJ tm ops x) p q):lN tm ops g p q:=by
 subst hg;obtain⟨j,w⟩:=x;unfold lN;unfold gJ gX at hp;simp only at hp ⊢;cases hd:kJ ops j with
 |none=>rw[hd]at hp;exact hp
 | some d=>
  rw[hd]at hp;simp only at hp ⊢;cases hv:tm.get d with
  |none=>rw[hv]at hp;exact hp
  | some v=>
   rw[hv]at hp;cases v with
   |bool b=>
    simp only at hp ⊢;cases hx:(b==w)with
    |true=>rw[hx]at hp;rw[AU];exact hp
    |false=>rw[hx]at hp;rw[wX];exact hp
   |tuple l=>cases l with
    |nil=>exact hp
    |cons _ _=>exact hp
   |_=>exact hp
def nh(nt:Nat)(tm:T AV)(d:Option Tmp)(v:AV):Prop:=
 match d with
 |none=>True
 |some d=>d<nt∧tm.get d=some v
theorem BR(tm:T AV)(v:AV):nh nt tm none v=True:=id rfl
theorem BS(tm:T AV)(d:Tmp)(v:AV):nh nt tm (some d) v=(d<nt∧tm.get d=some v):=id rfl
theorem BT{tm:T AV}{d:Option Tmp}{v:AV}(h:nh nt tm d v):lY nt tm d v=true:=by
 cases d with
 |none=>rfl
 |some d=>
  obtain⟨h1,h2⟩:=h;have :Nat.blt d nt=true:=by rw[Nat.blt_eq];exact h1
  simp only[lY,this,h2,AV.w_]
def sK(nt:Nat)(tm:T AV)(d:Option Tmp)(v:AV)(_:H):Prop:=nh nt tm d v
theorem Qr(tm:T AV)(d:Option Tmp)(v:AV)(h:H):sK nt tm d v h=nh nt tm d v:=id rfl
def gO(tm:T AV)(ops:Array Oper)(g:Option (Nat×Bool)):Prop:=
 match g with
 |none=>True
 |some g=>gJ tm ops g=some true
def fX(x:Option (TypeId×List AV×Nat))(p:TypeId→List AV→Nat→Prop):Prop:=
 match x with
 |some (t,l,n)=>p t l n
 |none=>False
theorem Mf(t:TypeId)(l:List AV)(n:Nat)(p:TypeId→List AV→Nat→Prop):fX (some (t,l,n)) p=p t l n:=id rfl
theorem Mg(tm:T AV)(ops:Array Oper):gO tm ops none=True:=id rfl
theorem Mh(tm:T AV)(ops:Array Oper)(g:Nat×Bool):gO tm ops (some g)=(gJ tm ops g=some true):=id rfl
def obf(x:Option (List (Nat×AV)))(f:List (Nat×AV)→Option (TypeId×List AV×Nat)):Option (TypeId×List AV×Nat):=
 match x with
 |some l=>f l
 |none=>none
theorem Il(l:List (Nat×AV))(f:List (Nat×AV)→Option (TypeId×List AV×Nat)):obf (some l) f=f l:=id rfl
theorem EA(tm:T AV)(t:TypeId)(n:Nat)(ps:Array (Nat×Operand)):gH P tm (.buildSlice t n ps)=obf (mh tm ps.toList) fun l=>GB P t n l:=by
 unfold obf gH;rfl
def Mi(x:Option (TypeId×List AV))(n:Nat):Option (TypeId×List AV×Nat):=
 match x with
 |some (e,l)=>match dN l with
  |true=>some (e,l,n)
  |false=>none
 |none=>none
theorem Im{e:TypeId}{l:List AV}{n:Nat}(hl:dN l=true):Mi (some (e,l)) n=some (e,l,n):=by unfold Mi;simp only[hl]
theorem Qs(t:TypeId)(n:Nat)(parts:List (Nat×AV)):GB P t n parts=Mi (iF P t n (parts.map fun p=>(p.1,p.2.cells))) n:=by
 have h:=BJ (P:=P) (h:=⟨.e,0,0⟩) t n parts;unfold GB iF Mi;cases P.underlying t with
 |none=>rfl
 | some d=>cases d with
  | slice elem=>
   simp only[vu];cases eQ P elem with
   |false=>rfl
   | true=>cases small (n*P.cellsOf elem)with
    |false=>rfl
    | true=>cases dv P elem with
     |none=>rfl
     | some z=>
      simp only;cases Nat.beq z.cells.length (P.cellsOf elem)with
      |false=>rfl
      |true=>cases yE (fun i=>some (i*P.cellsOf elem,P.cellsOf elem)) (kS z.cells n) (List.map (fun p=>(p.fst,p.snd.cells)) parts)with
       |none=>rfl
       |some l=>rfl
  |_=>rfl
theorem EB{tm:T AV}{ops:Array Oper}{o:Oper}(h:gO tm ops o.guard):dL tm ops o=true:=by
 unfold dL;cases hg:o.guard with
 |none=>rfl
 | some g=>
  rw[hg]at h;have h:gJ tm ops g=some true:=h;unfold gJ at h;obtain⟨j,w⟩:=g;simp only at h ⊢;cases hd:kJ ops j with
  |none=>rw[hd]at h;cases h
  |some d=>
   rw[hd]at h;simp only at h ⊢;split at h
   ·rename_i b hb;rw[hb];exact Option.some.inj h
   ·cases h
   ·cases h
theorem yG{tm:T AV}{ops:Array Oper}{o:Oper}:gH P (iY tm (slotsOf ops o)) o.op=gH P tm o.op:=by
 obtain⟨dst,op,ty,pos,after,guard⟩:=o;cases op with
 |buildSlice t n ps=>
  unfold gH;simp only;rw[pE (tm:=iY tm (slotsOf ops ⟨dst,.buildSlice t n ps,ty,pos,after,guard⟩)) (tm':=tm) (fun t ht=>?_)];rw[mY,if_pos (iR (iQ (by simpa[Op.operands]using ht)))]
 |makeSlice t a b=>
  unfold gH;simp only;rw[jL (tm:=iY tm (slotsOf ops ⟨dst,.makeSlice t a b,ty,pos,after,guard⟩)) (tm':=tm) (x:=a) (fun t ht=>?_),jL (tm:=iY tm (slotsOf ops ⟨dst,.makeSlice t a b,ty,pos,after,guard⟩)) (tm':=tm) (x:=b) (fun t ht=>?_)]
  ·rw[mY,if_pos (iR (iQ (by simp[Op.operands,ht])))]
  ·rw[mY,if_pos (iR (iQ (by simp[Op.operands,ht])))]
 |_=>rfl
def il(P:Program)(nt:Nat)(ops:Array Oper)(tm:T AV)(h:H):List (Nat×Oper×Nat)→Prop
 |[]=>True
 |(_,o,b)::l=>(match cG o with
  |false=>(sN o=true∧gO tm ops o.guard∧fX (gH P tm o.op) (fun t l n=>h_ t l (h.t.get b)=true∧nh nt tm o.dst (.slice b 0 n (.exact n))))∨(cO o.op||dy P o.op)=true∧lN tm ops o.guard (jf P (bF P tm h o.op) (sK nt tm o.dst)) (nh nt tm o.dst jd)
  |true=>∃t z,o.op= .alloc t∧dv P t=some z∧h_ t z.cells (h.t.get b)=true∧nh nt tm o.dst (.ptr b 0))∧il P nt ops tm h l
theorem cK{tm:T AV}{h:H}:il P nt ops tm h []:=trivial
theorem Qt{tm:T AV}{h:H}{i b:Nat}{o:Oper}{l:List (Nat×Oper×Nat)}(ha:cG o=false)(hr:cO o.op=true)(hg:o.guard=none)(hw:jf P (bF P tm h o.op) (sK nt tm o.dst))(hl:il P nt ops tm h l):il P nt ops tm h ((i,o,b)::l):=by
 refine⟨?_,hl⟩;rw[ha];exact .inr ⟨by rw[hr];rfl,hX hg hw⟩
theorem N5{tm:T AV}{h:H}{i b:Nat}{o:Oper}{l:List (Nat×Oper×Nat)}{g:Nat×Bool}(ha:cG o=false)(hr:cO o.op=true)(hg:o.guard=some g)(hw:gX (gJ tm ops g) (jf P (bF P tm h o.op) (sK nt tm o.dst)) (nh nt tm o.dst jd))(hl:il P nt ops tm h l):
  il P nt ops tm h ((i,o,b)::l):=by
 refine⟨?_,hl⟩;rw[ha];exact .inr ⟨by rw[hr];rfl,ng hg hw⟩
theorem Qu{tm:T AV}{h:H}{i b:Nat}{o:Oper}{l:List (Nat×Oper×Nat)}(ha:cG o=false)(_hx:eV o.op=true)(hr:dy P o.op=true)(hg:o.guard=none)(hw:jf P (bF P tm h o.op) (sK nt tm o.dst))(hl:il P nt ops tm h l):il P nt ops tm h ((i,o,b)::l):=by
 refine⟨?_,hl⟩;rw[ha];exact .inr ⟨by rw[hr,aC],hX hg hw⟩
theorem N6{tm:T AV}{h:H}{i b:Nat}{o:Oper}{l:List (Nat×Oper×Nat)}{t:TypeId}{z:AV}(ha:cG o=true)(ho:o.op= .alloc t)(hz:dv P t=some z)(hf:h_ t z.cells (h.t.get b)=true)(hs:nh nt tm o.dst (.ptr b 0))(hl:il P nt ops tm h l):il P nt ops tm h ((i,o,b)::l):=by
 refine⟨?_,hl⟩;rw[ha];exact⟨t,z,ho,hz,hf,hs⟩
theorem N7{tm:T AV}{h:H}{i b:Nat}{o:Oper}{l:List (Nat×Oper×Nat)}(ha:cG o=false)(hf:sN o=true)(hg:gO tm ops o.guard)(hx:fX (gH P tm o.op) (fun t l n=>h_ t l (h.t.get b)=true∧nh nt tm o.dst (.slice b 0 n (.exact n))))(hl:il P nt ops tm h l):il P nt ops tm h ((i,o,b)::l):=by
 refine⟨?_,hl⟩;rw[ha];exact .inl ⟨hf,hg,hx⟩
theorem oQ{tm:T AV}{h:H}:∀{l:List (Nat×Oper×Nat)},il P nt ops tm h l→jB P nt tm h ops l=true
 |[],_=>rfl
 | (i,o,b)::l,⟨h1,h2⟩=>by
  have :qI P nt tm h ops o b=true:=by
   unfold qI;cases ha:cG o with
   | false=>
    rw[ha]at h1;rcases h1 with⟨hf,hg,h1⟩|⟨hk,hw⟩
    ·simp only[hf,pG,EB hg,yG]
     cases hx:gH P tm o.op with
     |none=>rw[hx]at h1;exact absurd h1 id
     |some x=>
      obtain⟨t,l,n⟩:=x;rw[hx]at h1;obtain⟨h1,h2⟩:=h1;simp only[h1];exact BT h2
    have SZ:kf P o=0:=by unfold kf;rw[hk]
    obtain⟨v,hv,hs⟩:=BG (K:=sK nt tm o.dst) SZ hw;simp only[L_ SZ,hv];exact BT hs
   |true=>
    rw[ha]at h1;obtain⟨t,z,ho,hz,hf,hs⟩:=h1;simp only[ho,nW,hz,hf];exact BT hs
  simp only[jB,this];exact oQ h2
section
variable{i:Nat}{o:Oper}{l:List Oper}{early:List (Nat×Oper×Nat)}{tm:T AV}{h:H}{Q:T AV→H→Prop}
theorem XK(he:il P nt ops tm h early)(hq:Q tm h):cU P nt ops i [] early tm h Q:=⟨oQ he,hq⟩
theorem BU(hk:(cO o.op||dy P o.op)=true)(hw:lN tm ops o.guard (jf P (bF P tm h o.op) (dK P nt ops (i+1) o.dst l ((i,o,0)::early) tm Q)) (dK P nt ops (i+1) o.dst l ((i,o,0)::early) tm Q jd h)):
  cU P nt ops i (o::l) early tm h Q:=by
 have SZ:kf P o=0:=by unfold kf;rw[hk]
 obtain⟨v,hv,hK⟩:=BG SZ hw;unfold cU;simp only[kD,mo,tW SZ,hv];exact hK
theorem TO(hk:cO o.op=true)(hg:o.guard=none)(hw:jf P (bF P tm h o.op) (dK P nt ops (i+1) o.dst l ((i,o,0)::early) tm Q)):cU P nt ops i (o::l) early tm h Q:=
 BU (by rw[hk];rfl) (hX hg hw)
theorem TP(_hx:eV o.op=true)(hk:dy P o.op=true)(hg:o.guard=none)(hw:jf P (bF P tm h o.op) (dK P nt ops (i+1) o.dst l ((i,o,0)::early) tm Q)):cU P nt ops i (o::l) early tm h Q:=
 BU (by rw[hk,aC]) (hX hg hw)
theorem Qv{g:Nat×Bool}(hk:cO o.op=true)(hg:o.guard=some g)(hw:gX (gJ tm ops g) (jf P (bF P tm h o.op) (dK P nt ops (i+1) o.dst l ((i,o,0)::early) tm Q)) (dK P nt ops (i+1) o.dst l ((i,o,0)::early) tm Q jd h)):
  cU P nt ops i (o::l) early tm h Q:=BU (by rw[hk];rfl) (ng hg hw)
theorem Io(h1:cO o.op=false)(h2:eV o.op=false)(h3:cG o=false)(h4:ib i [i] (kD (i+1) l)=true)(h5:mi nt o.dst=true)(he:il P nt ops tm h early)
  (hw:lN tm ops o.guard (jf P (bF P tm h o.op) (dK P nt ops (i+1) o.dst l (dQ (cu o.after.toList) early) tm Q)) (dK P nt ops (i+1) o.dst l (dQ (cu o.after.toList) early) tm Q jd h)):
  cU P nt ops i (o::l) early tm h Q:=by
 have Qw:eR P tm h ops o=none:=by unfold eR;rw[h1,h2]
 unfold cU;simp only[kD,mo,h3,Qw,h4,Bool.not_true,Bool.and_false];exact⟨h1,trivial,oQ he,h5,Ie hw⟩
theorem TQ(h1:cO o.op=false)(h2:eV o.op=false)(h3:cG o=false)(h4:ib i [i] (kD (i+1) l)=true)(h5:mi nt o.dst=true)(hg:o.guard=none)(he:il P nt ops tm h early)
  (hw:jf P (bF P tm h o.op) (dK P nt ops (i+1) o.dst l (dQ (cu o.after.toList) early) tm Q)):cU P nt ops i (o::l) early tm h Q:=Io h1 h2 h3 h4 h5 he (hX hg hw)
theorem Qx{g:Nat×Bool}(h1:cO o.op=false)(h2:eV o.op=false)(h3:cG o=false)(h4:ib i [i] (kD (i+1) l)=true)(h5:mi nt o.dst=true)(hg:o.guard=some g)(he:il P nt ops tm h early)
  (hw:gX (gJ tm ops g) (jf P (bF P tm h o.op) (dK P nt ops (i+1) o.dst l (dQ (cu o.after.toList) early) tm Q)) (dK P nt ops (i+1) o.dst l (dQ (cu o.after.toList) early) tm Q jd h)):cU P nt ops i (o::l) early tm h Q:=
 Io h1 h2 h3 h4 h5 he (ng hg hw)
def zF(x:Option AV)(t:TypeId)(o:Option iI):Prop:=
 match x with
 |some z=>h_ t z.cells o=true
 |none=>False
theorem Mj(z:AV)(t:TypeId)(o:Option iI):zF (some z) t o=(h_ t z.cells o=true):=id rfl
theorem bX{t:TypeId}{l:List AV}(hs:T.same (T.ofRow l) (T.ofRow l)=true):h_ t l ((h.bq t l).t.get h.nx)=true:=by
 unfold H.bq H.alloc;simp only[T.bS,if_true,h_,Nat.beq_refl,Bool.true_and,Bool.and_true,hs]
theorem KD{b:Nat}{el:List (Nat×Oper×Nat)}{t:TypeId}(ha:cG o=true)(ho:o.op= .alloc t)(hz:zF (dv P t) t (h.t.get b))(hs:nh nt tm o.dst (.ptr b 0))(hl:il P nt ops tm h el):il P nt ops tm h ((i,o,b)::el):=by
 unfold zF at hz;split at hz
 ·rename_i z hz'
  exact N6 ha ho hz' hz hs hl
 ·exact absurd hz id
theorem Qy{t:TypeId}(ha:cG o=true)(ho:o.op= .alloc t)(hw:jf P (bF P tm h (.alloc t)) (dK P nt ops (i+1) o.dst l ((i,o,h.nx)::early) tm Q)):cU P nt ops i (o::l) early tm h Q:=by
 rw[vf]at hw;unfold cU;cases hz:dv P t with
 |none=>rw[hz]at hw;exact absurd hw id
 |some z=>
  rw[hz]at hw;simp only[kD,mo,ha,ho,nW,hz];exact hw
def Wf(P:Program)(ops:Array Oper):Bool:=
 P.follows .mixedOrders&&match sY ops with
 |some d=>BL (d.rem.map (·.1)) ((kD 0 ops.toList).map (·.1))
 |none=>false
theorem fh{fn:Nat}{ro:Option Nat}{c:Code}{rp:List Nat}{ds:List Nat}{Q:KQ}(hc:Ma (bL c rp)=true){ops:Array Oper}{l:List Oper}(ho:eA (bL c rp)=ops)(hl:ops.toList=l)
  (hs:Wf P ops=true)(hw:cU P nt ops 0 l [] tm h (Q .norm ds)):bB P fn nt ro (bL c rp) ds tm h Q:=by
 unfold Wf at hs;rw[ak]at hs;obtain⟨hm,hs⟩:=hs;split at hs
 ·rename_i d hd
  have PS:d=⟨ops,d.rem,[],false⟩∧d.rem=zQ (kD 0 ops.toList) ops.toList.length []:=by
   unfold sY at hd;simp only at hd;split at hd
   ·cases hd;exact⟨rfl,rfl⟩
   ·cases hd
  have he:d.rem=kD 0 ops.toList:=by
   refine Qm (ops:=ops.toList) (fun p hp=>?_) (fun p hp=>hp) (xe hs);rw[PS.2]at hp;exact oM hp
  rw[he]at PS;rw[PS.1]at hd;subst hl;revert hc ho;generalize bL c rp=c;intro hc ho;cases c with
  | region i TK d=>cases d with
   |true=>
    have ho':TK=ops:=ho;subst ho';simp only[bB,hm,hd];exact hw
   |false=>cases hc
  |_=>cases hc
 ·cases hs
theorem N8{h:H}{d:Nat}(hd:h.t.get d=some (.deferred (some []))):undef h [d]=some (h.obj d (.deferred none)):=by
 simp only[undef,hd];rfl
theorem tY{fn:Func}{rl:List ResultVar}{h:H}{d:Nat}{tm:T AV}{Q:AV→H→Prop}(hd:h.t.get d=some (.deferred (some [])))(hl:fn.results.toList=rl)(hw:Qf P rl tm (h.obj d (.deferred none)) Q):nc P fn Q .ret [d] tm h:=by
 have:=bE (P:=P) (fn:=fn) hl hw;rw[HB]at this ⊢;obtain⟨h2,hu,r⟩:=this;cases hu;exact⟨_,N8 hd,r⟩
end
end
end
end Go.AX
namespace Go.AX
noncomputable section
open Go.RowKit
section
variable{P:Program}{h:H}
theorem ni:∀{l:List AV},dN l=true↔∀v,v∈l→v.one=true
 |[]=>by simp[dN]
 |v::l=>by
  rw[iT,ak,ni];simp
theorem vC{cs:T AV}:∀(k o:Nat)(l:List AV),l.length=k→(∀i,i<k→cs.get (o+i)=l[i]?)→H.loadCells cs o k=some l
 |0,o,l,hl,_=>by rw[List.length_eq_zero_iff.1 hl];rfl
 |k+1,o,[],hl,_=>by simp at hl
 | k+1,o,v::l,hl,hc=>by
  have h0:=hc 0 (by omega);simp only[Nat.add_zero,List.getElem?_cons_zero]at h0;have ih:=vC (cs:=cs) k (o+1) l (by simpa using hl) (fun i hi=>by
   have:=hc (i+1) (by omega);rw[show o+1+i=o+(i+1)by omega,this,List.getElem?_cons_succ])
  simp only[H.loadCells,h0,ih]
theorem gK{b o:Nat}{cs:List AV}(hc:bj h b o cs)(h0:cs≠[]):h.row b o cs.length=some cs:=by
 obtain⟨v,l,rfl⟩:∃v l,cs=v::l:=by cases cs with|nil=>exact absurd rfl h0|cons v l=>exact⟨v,l,rfl⟩
 have h1:=hc 0 (by simp);unfold bj cellAt at hc;unfold cellAt at h1;unfold H.row;cases hb:h.t.get b with
 |none=>rw[hb]at h1;simp at h1
 | some x=>
  cases x with
  |cells n t k ro=>
   rw[hb]at hc;simp only[ie];exact vC _ _ _ rfl hc
  |_=>rw[hb]at h1;simp at h1
theorem br.blk{v:AV}{n:Nat}{cs:List AV}(hs:br h v n cs):∀c,bA v=some c→c<h.nx:=by
 intro c hc;cases hs with
 |none=>cases hc
 |zero=>cases hc
 |cell b o n cap cs hb=>cases hc;exact hb
end
end
end Go.AX
namespace Go.AX
noncomputable section
open Go.RowKit
def oR:List Oper→Nat→Option Oper
 |[],_=>none
 |o::_,0=>some o
 |_::l,n+1=>oR l n
def mr(l:List Oper):List Nat→List (Nat×Oper)
 |[]=>[]
 |n::ns=>match oR l n with
  |some o=>(n,o)::mr l ns
  |none=>[]
theorem EC:∀(l:List Oper)(i:Nat)(p:Nat×Oper),p∈kD i l→i≤p.1∧oR l (p.1-i)=some p.2
 |[],_,_,h=>by cases h
 | o::l,i,p,h=>by
  simp only[kD,List.mem_cons]at h;rcases h with rfl|h
  ·exact⟨Nat.le_refl _,by rw[Nat.sub_self];rfl⟩
  ·obtain⟨h1,h2⟩:=EC l (i+1) p h
   refine⟨by omega,?_⟩;rw[show p.1-i=(p.1-(i+1))+1 by omega];exact h2
theorem ED{l:List Oper}:∀(rem:List (Nat×Oper)),(∀p,p∈rem→oR l p.1=some p.2)→mr l (rem.map (·.1))=rem
 |[],_=>rfl
 |p::rem,h=>by
  have h1:=h p (by simp);have h2:=ED rem (fun q hq=>h q (al _ hq));simp only[List.map_cons,mr,h1,h2]
section
variable{P:Program}{nt:Nat}{ops:Array Oper}
def dh(P:Program)(nt:Nat)(ops:Array Oper)(l:List Oper)(os:List Nat)(early:List (Nat×Oper×Nat))(tm:T AV)(h:H)(Q:T AV→H→Prop):Prop:=mo P nt ops (mr l os) early tm h Q
def pK(P:Program)(nt:Nat)(ops:Array Oper)(l:List Oper)(os:List Nat)(d:Option Tmp)(early:List (Nat×Oper×Nat))(tm:T AV)(Q:T AV→H→Prop)(v:AV)(h:H):Prop:=dh P nt ops l os early (m_ nt tm d v) h Q
theorem Qz(l:List Oper)(os:List Nat)(d:Option Tmp)(early:List (Nat×Oper×Nat))(tm:T AV)(Q:T AV→H→Prop)(v:AV)(h:H):pK P nt ops l os d early tm Q v h=dh P nt ops l os early (m_ nt tm d v) h Q:=id rfl
section
variable{n:Nat}{o:Oper}{l:List Oper}{os:List Nat}{early:List (Nat×Oper×Nat)}{tm:T AV}{h:H}{Q:T AV→H→Prop}
theorem XL(he:il P nt ops tm h early)(hq:Q tm h):dh P nt ops l [] early tm h Q:=⟨oQ he,hq⟩
theorem BV(hn:oR l n=some o)(hk:(cO o.op||dy P o.op)=true)(hw:lN tm ops o.guard (jf P (bF P tm h o.op) (pK P nt ops l os o.dst ((n,o,0)::early) tm Q)) (pK P nt ops l os o.dst ((n,o,0)::early) tm Q jd h)):
  dh P nt ops l (n::os) early tm h Q:=by
 have SZ:kf P o=0:=by unfold kf;rw[hk]
 obtain⟨v,hv,hK⟩:=BG SZ hw;unfold dh;simp only[mr,hn,mo,tW SZ,hv];exact hK
theorem TS(hn:oR l n=some o)(hk:cO o.op=true)(hg:o.guard=none)(hw:jf P (bF P tm h o.op) (pK P nt ops l os o.dst ((n,o,0)::early) tm Q)):dh P nt ops l (n::os) early tm h Q:=
 BV hn (by rw[hk];rfl) (hX hg hw)
theorem TT(hn:oR l n=some o)(_hx:eV o.op=true)(hk:dy P o.op=true)(hg:o.guard=none)(hw:jf P (bF P tm h o.op) (pK P nt ops l os o.dst ((n,o,0)::early) tm Q)):dh P nt ops l (n::os) early tm h Q:=
 BV hn (by rw[hk,aC]) (hX hg hw)
theorem QA{g:Nat×Bool}(hn:oR l n=some o)(hk:cO o.op=true)(hg:o.guard=some g)(hw:gX (gJ tm ops g) (jf P (bF P tm h o.op) (pK P nt ops l os o.dst ((n,o,0)::early) tm Q)) (pK P nt ops l os o.dst ((n,o,0)::early) tm Q jd h)):
  dh P nt ops l (n::os) early tm h Q:=BV hn (by rw[hk];rfl) (ng hg hw)
theorem Ip(hn:oR l n=some o)(h1:cO o.op=false)(h2:eV o.op=false)(h3:cG o=false)(h4:ib n [n] (mr l os)=true)(h5:mi nt o.dst=true)(he:il P nt ops tm h early)
  (hw:lN tm ops o.guard (jf P (bF P tm h o.op) (pK P nt ops l os o.dst (dQ (cu o.after.toList) early) tm Q)) (pK P nt ops l os o.dst (dQ (cu o.after.toList) early) tm Q jd h)):
  dh P nt ops l (n::os) early tm h Q:=by
 have Qw:eR P tm h ops o=none:=by unfold eR;rw[h1,h2]
 unfold dh;simp only[mr,hn,mo,h3,Qw,h4,Bool.not_true,Bool.and_false];exact⟨h1,trivial,oQ he,h5,Ie hw⟩
theorem TU(hn:oR l n=some o)(h1:cO o.op=false)(h2:eV o.op=false)(h3:cG o=false)(h4:ib n [n] (mr l os)=true)(h5:mi nt o.dst=true)(hg:o.guard=none)(he:il P nt ops tm h early)
  (hw:jf P (bF P tm h o.op) (pK P nt ops l os o.dst (dQ (cu o.after.toList) early) tm Q)):dh P nt ops l (n::os) early tm h Q:=Ip hn h1 h2 h3 h4 h5 he (hX hg hw)
theorem QB{g:Nat×Bool}(hn:oR l n=some o)(h1:cO o.op=false)(h2:eV o.op=false)(h3:cG o=false)(h4:ib n [n] (mr l os)=true)(h5:mi nt o.dst=true)(hg:o.guard=some g)(he:il P nt ops tm h early)
  (hw:gX (gJ tm ops g) (jf P (bF P tm h o.op) (pK P nt ops l os o.dst (dQ (cu o.after.toList) early) tm Q)) (pK P nt ops l os o.dst (dQ (cu o.after.toList) early) tm Q jd h)):dh P nt ops l (n::os) early tm h Q:=
 Ip hn h1 h2 h3 h4 h5 he (ng hg hw)
theorem QC{t:TypeId}(hn:oR l n=some o)(ha:cG o=true)(ho:o.op= .alloc t)(hw:jf P (bF P tm h (.alloc t)) (pK P nt ops l os o.dst ((n,o,h.nx)::early) tm Q)):dh P nt ops l (n::os) early tm h Q:=by
 rw[vf]at hw;unfold dh;cases hz:dv P t with
 |none=>rw[hz]at hw;exact absurd hw id
 |some z=>
  rw[hz]at hw;simp only[mr,hn,mo,ha,ho,nW,hz];exact hw
theorem QD(hn:oR l n=some o)(hf:sN o=true)(h3:cG o=false)(h4:ib n [n] (mr l os)=false)(hg:gO tm ops o.guard)
  (hx:fX (gH P tm o.op) fun t r k=>pK P nt ops l os o.dst ((n,o,h.nx)::early) tm Q (.slice h.nx 0 k (.exact k)) (h.bq t r)):dh P nt ops l (n::os) early tm h Q:=by
 obtain⟨-,-,h1,zV⟩:=tP hf;have Qw:eR P tm h ops o=none:=by unfold eR;rw[h1,zV]
 unfold dh;simp only[mr,hn,mo,h3,Qw,hf,h4,Bool.not_false,Bool.and_true,pG,EB hg,yG];refine⟨h1,trivial,?_⟩;cases hq:gH P tm o.op with
 |none=>rw[hq]at hx;exact absurd hx id
 |some x=>
  obtain⟨t,r,k⟩:=x;rw[hq]at hx;exact hx
def lQ(P:Program)(ops:Array Oper)(os:List Nat):Bool:=
 P.follows .mixedOrders&&match sY ops with
 |some d=>BL (d.rem.map (·.1)) os
 |none=>false
theorem cV{fn:Nat}{ro:Option Nat}{c:Code}{rp:List Nat}{ds:List Nat}{Q:KQ}{os:List Nat}(hs:lQ P (eA (bL c rp)) os=true)(hc:Ma (bL c rp)=true){ops:Array Oper}{l:List Oper}(ho:eA (bL c rp)=ops)(hl:ops.toList=l)
  (hw:dh P nt ops l os [] tm h (Q .norm ds)):bB P fn nt ro (bL c rp) ds tm h Q:=by
 unfold lQ at hs;rw[ak,ho]at hs;obtain⟨hm,hs⟩:=hs;split at hs
 ·rename_i d hd
  have PS:d=⟨ops,d.rem,[],false⟩∧d.rem=zQ (kD 0 ops.toList) ops.toList.length []:=by
   unfold sY at hd;simp only at hd;split at hd
   ·cases hd;exact⟨rfl,rfl⟩
   ·cases hd
  have he:d.rem=mr ops.toList os:=by
   rw[←xe hs];refine(ED d.rem (fun p hp=>?_)).symm;rw[PS.2]at hp;have:=EC _ _ _ (oM hp);simpa using this.2
  rw[he]at PS;rw[PS.1]at hd;subst hl;revert hc ho;generalize bL c rp=c;intro hc ho;cases c with
  | region i TK d=>cases d with
   |true=>
    have ho':TK=ops:=ho;subst ho';simp only[bB,hm,hd];exact hw
   |false=>cases hc
  |_=>cases hc
 ·cases hs
end
end
end
end Go.AX
namespace Go.AX
noncomputable section
open Go.RowKit
structure FT(p:Prop):Prop where
 h:p
def st1F(P:Program)(fn nt:Nat)(ro:Option Nat)(c:Code)(rp:List Nat)(ds:List Nat)(tm:T AV)(h:H)(Q:KQ):Code→Prop
 | .skip=>FT (Q .norm ds tm h)
 | .seq _ _=>FT (bB P fn nt ro (bL c (0::rp)) ds tm h (NV (P6 P fn nt ro (bL c (1::rp)) Q) Q))
 | .region _ ops false=>FT (tT P nt ops ops.toList tm h (Q .norm ds))
 | .cond x _ _=>FT (Hy (bP tm x) (bB P fn nt ro (bL c (0::rp)) ds tm h Q) (bB P fn nt ro (bL c (1::rp)) ds tm h Q))
 | .block i _=>FT (bB P fn nt ro (bL c (0::rp)) ds tm h (Kp i Q))
 | .scope _=>FT (bB P fn nt ro (bL c (0::rp)) ds tm h Q)
 | .exit i=>FT (Q (.exit i) ds tm h)
 | .ret=>FT (Q .ret ds tm h)
 |_=>False
theorem gh{P:Program}{fn nt:Nat}{ro:Option Nat}{c:Code}{rp:List Nat}{ds:List Nat}{tm:T AV}{h:H}{Q:KQ}(hw:st1F P fn nt ro c rp ds tm h Q (bL c rp)):bB P fn nt ro (bL c rp) ds tm h Q:=by
 cases e:bL c rp with
 |skip=>rw[e]at hw;rw[←e];exact TI (by rw[e];rfl) hw.h
 |seq a b=>rw[e]at hw;rw[←e];exact XC (by rw[e];rfl) hw.h
 |region i ops d=>
  rw[e]at hw;rw[←e];cases d with
  |false=>exact XE (by rw[e];rfl) (by rw[e];rfl) rfl hw.h
  |true=>exact absurd hw id
 |cond x a b=>rw[e]at hw;rw[←e];exact TH (by rw[e];rfl) (by rw[e];rfl) hw.h
 |block i a=>rw[e]at hw;rw[←e];exact P7 (by rw[e];rfl) (by rw[e];rfl) hw.h
 |scope a=>rw[e]at hw;rw[←e];exact P8 (by rw[e];rfl) hw.h
 |exit i=>rw[e]at hw;rw[←e];exact TJ (by rw[e];rfl) (by rw[e];rfl) hw.h
 |ret=>rw[e]at hw;rw[←e];exact XD (by rw[e];rfl) hw.h
 |_=>rw[e]at hw;exact absurd hw id
def rdB(o:Oper):Bool:=cO o.op&&o.guard.isNone
def cvB(P:Program)(o:Oper):Bool:=eV o.op&&(dy P o.op&&o.guard.isNone)
def xqB(nt:Nat)(o:Oper):Bool:= !cO o.op&&(!eV o.op&&(!cG o&&mi nt o.dst))
def flB(o:Oper):Bool:=sN o&& !cG o
theorem FU{o:Oper}(h:flB o=true):sN o=true∧cG o=false:=by
 unfold flB at h;rw[ak,Bool.not_eq_true']at h;exact h
theorem tZ{o:Oper}(h:rdB o=true):cO o.op=true∧o.guard=none:=by
 unfold rdB at h;rw[ak,ao]at h;exact h
theorem EE{o:Oper}(h:cO o.op=true):cG o=false:=by
 obtain⟨d,op,t,p,a,g⟩:=o;cases op<;>first|(cases h;done)|(cases g<;>rfl)
theorem oi{P:Program}{o:Oper}(h:cvB P o=true):eV o.op=true∧dy P o.op=true∧o.guard=none:=by
 unfold cvB at h;rw[ak,ak,ao]at h;exact h
theorem N9{o:Oper}(h:eV o.op=true):cG o=false:=by
 obtain⟨d,op,t,p,a,g⟩:=o;cases op<;>first|(cases h;done)|(cases g<;>rfl)
theorem jh{nt:Nat}{o:Oper}(h:xqB nt o=true):cO o.op=false∧eV o.op=false∧cG o=false∧mi nt o.dst=true:=by
 unfold xqB at h;simpa using h
section
variable{P:Program}{nt:Nat}{ops:Array Oper}{i n:Nat}{o:Oper}{l:List Oper}{os:List Nat}{early:List (Nat×Oper×Nat)}{tm:T AV}{h:H}{Q:T AV→H→Prop}
theorem eB{b:Nat}(ha:rdB o=true)(hw:jf P (bF P tm h o.op) (sK nt tm o.dst))(hl:il P nt ops tm h early):il P nt ops tm h ((i,o,b)::early):=
 Qt (EE (tZ ha).1) (tZ ha).1 (tZ ha).2 hw hl
theorem eC{b:Nat}{g:Nat×Bool}(ha:cO o.op=true)(hg:o.guard=some g)(hw:gX (gJ tm ops g) (jf P (bF P tm h o.op) (sK nt tm o.dst)) (nh nt tm o.dst jd))(hl:il P nt ops tm h early):il P nt ops tm h ((i,o,b)::early):=
 N5 (EE ha) ha hg hw hl
theorem eD{b:Nat}(_hx:eV o.op=true)(ha:cvB P o=true)(hw:jf P (bF P tm h o.op) (sK nt tm o.dst))(hl:il P nt ops tm h early):il P nt ops tm h ((i,o,b)::early):=
 Qu (N9 (oi ha).1) (oi ha).1 (oi ha).2.1 (oi ha).2.2 hw hl
theorem eE{b:Nat}{t:TypeId}(ha:cG o=true)(ho:o.op= .alloc t)(hz:zF (dv P t) t (h.t.get b))(hs:nh nt tm o.dst (.ptr b 0))(hl:il P nt ops tm h early):il P nt ops tm h ((i,o,b)::early):=
 KD ha ho hz hs hl
theorem fi(hq:Q tm h)(he:il P nt ops tm h early):cU P nt ops i [] early tm h Q:=XK he hq
theorem fj(ha:rdB o=true)(hw:jf P (bF P tm h o.op) (dK P nt ops (i+1) o.dst l ((i,o,0)::early) tm Q)):cU P nt ops i (o::l) early tm h Q:=TO (tZ ha).1 (tZ ha).2 hw
theorem fm{g:Nat×Bool}(hk:cO o.op=true)(hg:o.guard=some g)(hw:gX (gJ tm ops g) (jf P (bF P tm h o.op) (dK P nt ops (i+1) o.dst l ((i,o,0)::early) tm Q)) (dK P nt ops (i+1) o.dst l ((i,o,0)::early) tm Q jd h)):
  cU P nt ops i (o::l) early tm h Q:=Qv hk hg hw
theorem fo(_hx:eV o.op=true)(ha:cvB P o=true)(hw:jf P (bF P tm h o.op) (dK P nt ops (i+1) o.dst l ((i,o,0)::early) tm Q)):cU P nt ops i (o::l) early tm h Q:=TP (oi ha).1 (oi ha).2.1 (oi ha).2.2 hw
theorem fp{t:TypeId}(ha:cG o=true)(ho:o.op= .alloc t)(hw:jf P (bF P tm h (.alloc t)) (dK P nt ops (i+1) o.dst l ((i,o,h.nx)::early) tm Q)):cU P nt ops i (o::l) early tm h Q:=Qy ha ho hw
theorem fq(ha:xqB nt o=true)(h4:ib i [i] (kD (i+1) l)=true)(hg:o.guard=none)(hw:jf P (bF P tm h o.op) (dK P nt ops (i+1) o.dst l (dQ (cu o.after.toList) early) tm Q))(he:il P nt ops tm h early):
  cU P nt ops i (o::l) early tm h Q:=TQ (jh ha).1 (jh ha).2.1 (jh ha).2.2.1 h4 (jh ha).2.2.2 hg he hw
theorem ft{g:Nat×Bool}(ha:xqB nt o=true)(h4:ib i [i] (kD (i+1) l)=true)(hg:o.guard=some g)
  (hw:gX (gJ tm ops g) (jf P (bF P tm h o.op) (dK P nt ops (i+1) o.dst l (dQ (cu o.after.toList) early) tm Q)) (dK P nt ops (i+1) o.dst l (dQ (cu o.after.toList) early) tm Q jd h))(he:il P nt ops tm h early):
  cU P nt ops i (o::l) early tm h Q:=Qx (jh ha).1 (jh ha).2.1 (jh ha).2.2.1 h4 (jh ha).2.2.2 hg he hw
theorem gL(hq:Q tm h)(he:il P nt ops tm h early):dh P nt ops l [] early tm h Q:=XL he hq
theorem gM(hn:oR l n=some o)(ha:rdB o=true)(hw:jf P (bF P tm h o.op) (pK P nt ops l os o.dst ((n,o,0)::early) tm Q)):dh P nt ops l (n::os) early tm h Q:=TS hn (tZ ha).1 (tZ ha).2 hw
theorem gN{g:Nat×Bool}(hn:oR l n=some o)(hk:cO o.op=true)(hg:o.guard=some g)(hw:gX (gJ tm ops g) (jf P (bF P tm h o.op) (pK P nt ops l os o.dst ((n,o,0)::early) tm Q)) (pK P nt ops l os o.dst ((n,o,0)::early) tm Q jd h)):
  dh P nt ops l (n::os) early tm h Q:=QA hn hk hg hw
theorem gP(hn:oR l n=some o)(_hx:eV o.op=true)(ha:cvB P o=true)(hw:jf P (bF P tm h o.op) (pK P nt ops l os o.dst ((n,o,0)::early) tm Q)):dh P nt ops l (n::os) early tm h Q:=TT hn (oi ha).1 (oi ha).2.1 (oi ha).2.2 hw
theorem gQ{t:TypeId}(hn:oR l n=some o)(ha:cG o=true)(ho:o.op= .alloc t)(hw:jf P (bF P tm h (.alloc t)) (pK P nt ops l os o.dst ((n,o,h.nx)::early) tm Q)):dh P nt ops l (n::os) early tm h Q:=QC hn ha ho hw
theorem gR(hn:oR l n=some o)(ha:xqB nt o=true)(h4:ib n [n] (mr l os)=true)(hg:o.guard=none)(hw:jf P (bF P tm h o.op) (pK P nt ops l os o.dst (dQ (cu o.after.toList) early) tm Q))(he:il P nt ops tm h early):
  dh P nt ops l (n::os) early tm h Q:=TU hn (jh ha).1 (jh ha).2.1 (jh ha).2.2.1 h4 (jh ha).2.2.2 hg he hw
theorem gS{g:Nat×Bool}(hn:oR l n=some o)(ha:xqB nt o=true)(h4:ib n [n] (mr l os)=true)(hg:o.guard=some g)
  (hw:gX (gJ tm ops g) (jf P (bF P tm h o.op) (pK P nt ops l os o.dst (dQ (cu o.after.toList) early) tm Q)) (pK P nt ops l os o.dst (dQ (cu o.after.toList) early) tm Q jd h))(he:il P nt ops tm h early):
  dh P nt ops l (n::os) early tm h Q:=QB hn (jh ha).1 (jh ha).2.1 (jh ha).2.2.1 h4 (jh ha).2.2.2 hg he hw
theorem gT(hn:oR l n=some o)(hf:flB o=true)(h4:ib n [n] (mr l os)=false)(hg:gO tm ops o.guard)
  (hx:fX (gH P tm o.op) fun t r k=>pK P nt ops l os o.dst ((n,o,h.nx)::early) tm Q (.slice h.nx 0 k (.exact k)) (h.bq t r)):dh P nt ops l (n::os) early tm h Q:=QD hn (FU hf).1 (FU hf).2 h4 hg hx
theorem eF{b:Nat}(hf:flB o=true)(hg:gO tm ops o.guard)(hx:fX (gH P tm o.op) (fun t l n=>h_ t l (h.t.get b)=true∧nh nt tm o.dst (.slice b 0 n (.exact n))))(hl:il P nt ops tm h early):il P nt ops tm h ((i,o,b)::early):=
 N7 (FU hf).2 (FU hf).1 hg hx hl
theorem xB:((type_of%@Qq)∧(type_of%@Me)∧(type_of%@Ik)∧(type_of%@Qr)∧(type_of%@BS)∧(type_of%@BR)∧(type_of%@Mj)∧(type_of%@Qz)∧(type_of%@Mg)∧(type_of%@Mh)∧(type_of%@Mf)∧(type_of%@Il)∧(type_of%@EA)∧(type_of%@Im)∧(type_of%@Qs)):=
 ⟨@Qq,@Me,@Ik,@Qr,@BS,@BR,@Mj,@Qz,@Mg,@Mh,@Mf,@Il,@EA,@Im,@Qs⟩
theorem g_{o:Op}{d:Option Tmp}{l:List Oper}{b:Bool}(h1:b=true→jf P (bF P tm h o) (LN P nt ops d l tm Q))(h2:b=false→LN P nt ops d l tm Q jd h):gW P (some (b==true)) nt ops o d l tm h Q:=by
 cases b
 ·exact h2 rfl
 ·exact h1 rfl
theorem hP{o:Op}{d:Option Tmp}{l:List Oper}{b:Bool}(h1:b=true→LN P nt ops d l tm Q jd h)(h2:b=false→jf P (bF P tm h o) (LN P nt ops d l tm Q)):gW P (some (b==false)) nt ops o d l tm h Q:=by
 cases b
 ·exact h2 rfl
 ·exact h1 rfl
theorem pL{b:Bool}{p q:Prop}(h1:b=true→p)(h2:b=false→q):gX (some (b==true)) p q:=by
 cases b
 ·exact h2 rfl
 ·exact h1 rfl
theorem pM{b:Bool}{p q:Prop}(h1:b=true→q)(h2:b=false→p):gX (some (b==false)) p q:=by
 cases b
 ·exact h2 rfl
 ·exact h1 rfl
theorem iB{b:Bool}{p q:Prop}(h1:b=true→p)(h2:b=false→q):TB b p q:=⟨h1,h2⟩
end
end
end Go.AX
namespace Go.AX
noncomputable section
open Go Go.RowKit
def fieldsOf(P:Program)(t:TypeId):Array Field:=
 match P.underlying t with
 |some (.struct fs)=>fs
 |_=> #[]
def Mk(fs:Array Field)(i:Nat)(ty:TypeId)(off:Nat):Bool:=
 match fs[i]? with
 |some f=>Nat.beq f.type ty&&Nat.beq f.offset off
 |none=>false
section
variable{P:Program}{K:Type}{enc:TypeId×Value→K}{w:World}{b:Nat}{sp:Nat→Bool}{hd:Bool}
theorem cI{t ty:TypeId}{fs:Array Field}{i off fuel:Nat}{cs:List Value}{x:DataW K×List MemPlace}(hu:P.underlying t=some (.struct fs))(hf:Mk fs i ty off=true)(h:DataW.trod enc P w b sp hd fuel t cs=some x):
  cs.length=P.cellsOf t∧∃n y,DataW.trod enc P w b sp hd n ty ((cs.drop off).take (P.cellsOf ty))=some y:=by
 obtain⟨xs,n,_,_,hl,hlen,hx⟩:=DataW.trod_struct hu h;unfold Mk at hf;split at hf
 ·rename_i f Tj
  rw[ak]at hf;have e1:=aA hf.1;have e2:=aA hf.2;have:=hx i f Tj;rw[e1,e2]at this;have hi:i<fs.size:=(Array.getElem?_eq_some_iff.1 Tj).1;rw[List.getElem?_eq_getElem (by omega)]at this;exact⟨hl,n,_,this⟩
 ·cases hf
theorem nj{t:TypeId}{k:IntKind}(hk:k.signed=false)(ht:P.underlying t=some (.int k)){fuel:Nat}{cs:List Value}{x:DataW K×List MemPlace}(h:DataW.trod enc P w b sp hd fuel t cs=some x):∃m:Nat,cs=[.int k (.ofNat m)]∧m<Nm k:=by
 obtain⟨n,rfl,_,hw⟩:=DataW.trod_int ht h;obtain⟨m,rfl,hm⟩:=XJ hk hw;exact⟨m,rfl,hm⟩
end
theorem yH{α:Type}{p:Nat→α→Prop}:∀n,(∀i,i<n→∃y,p i y)→∃l:List α,l.length=n∧∀i y,l[i]? =some y→p i y
 |0,_=>⟨[],rfl,fun i y h=>by simp at h⟩
 | n+1,h=>by
  obtain⟨l,q1,q2⟩:=yH n (fun i hi=>h i (by omega));obtain⟨y,hy⟩:=h n (by omega);refine⟨l++[y],by simp[q1],fun i z hz=>?_⟩;by_cases q:i<l.length
  ·rw[aq q]at hz;exact q2 i z hz
  ·rw[an (by omega)]at hz
   have hi:i-l.length=0:=by
    rcases Nat.eq_zero_or_pos (i-l.length)with e|e
    ·exact e
    ·rw[aw (by simp;omega)]at hz;cases hz
   rw[hi]at hz;cases hz;rw[show i=n by omega];exact hy
theorem Iq{α β:Type}(f:α→List β)(k:Nat):∀(l:List α),(∀a,a∈l→(f a).length=k)→∀i j x,l[i]? =some x→j<k→(l.flatMap f)[i*k+j]? =(f x)[j]?
 |[],_,i,j,x,h,_=>by simp at h
 |a::l,hf,0,j,x,h,hj=>by
  simp at h;subst h;simp only[au,Nat.zero_mul,Nat.zero_add];rw[aq (by rw[hf a (by simp)];exact hj)]
 |a::l,hf,i+1,j,x,h,hj=>by
  have SV:=hf a (by simp);simp only[au];rw[an (by rw[SV,aD];omega),SV,show(i+1)*k+j-k=i*k+j by rw[aD];omega];exact Iq f k l (fun a ha=>hf a (al _ ha)) i j x (by simpa using h) hj
theorem EF{α β:Type}(f:α→List β)(k:Nat):∀(l:List α),(∀a,a∈l→(f a).length=k)→(l.flatMap f).length=l.length*k
 |[],_=>by simp
 |a::l,hf=>by rw[au,List.length_append,hf a (by simp),EF f k l (fun a ha=>hf a (al _ ha)),List.length_cons,aD];omega
end
end Go.AX
