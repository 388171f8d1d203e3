/-
  AX: slices that read as lists; rows that grow.
-/
import Derived.Test.YtnedigoajoflaaaGreatAxG
set_option linter.unusedSimpArgs false
set_option linter.unusedVariables false
set_option linter.unusedSectionVars false
set_option linter.defProp false
set_option maxHeartbeats 8000000
open List renaming mem_cons_self→ak,mem_cons_of_mem→al,mem_append→aq,map_cons→aw,getElem?_cons_zero→az,getElem?_cons_succ→aA,nil_append→aD,toList_toArray→aF
open Array renaming toList_append→an
open Bool renaming and_eq_true→ao,not_false→au
open Nat renaming beq→aB,zero_add→aC,eq_of_beq_eq_true→aE
open Option renaming isSome_some→aG
namespace Go.AX
noncomputable section
open Go.RowKit
def bj(h:H)(b o:Nat)(cs:List AV):Prop:=∀i,i<cs.length→cellAt h b (o+i)=cs[i]?
inductive br(h:H):AV→Nat→List AV→Prop
 |none:br h .bh 0 []
 |zero:br h .dq 0 []
 |cell (b o n:Nat) (cap:ur) (cs:List AV):b<h.nx→bj h b o cs→br h (.slice b o n cap) n cs
theorem bj.bG{h h':H}{b:Nat}(e:h'.t.get b=h.t.get b){o:Nat}{cs:List AV}(hc:bj h b o cs):bj h' b o cs:=fun i hi=>by
 rw[bo e];exact hc i hi
theorem bj.only{h h':H}{S:List Nat}(ho:iw h h' S){b:Nat}(hb:b<h.nx)(hs:b∉S){o:Nat}{cs:List AV}(hc:bj h b o cs):bj h' b o cs:=hc.bG (ho.2 b hb hs)
def bA:AV→Option Nat
 | .slice b _ _ _=>some b
 |_=>none
theorem br.only{h h':H}{S:List Nat}(ho:iw h h' S){v:AV}{n:Nat}{cs:List AV}(hc:br h v n cs)(hs:∀b,bA v=some b→b∉S):br h' v n cs:=by
 cases hc with
 |none=>exact .none
 |zero=>exact .zero
 |cell b o n cap cs hb hc=>exact .cell b o n cap cs (Nat.lt_of_lt_of_le hb ho.1) (hc.only ho hb (hs b rfl))
inductive bK(size base:Nat)(h:H):AV→Nat→List AV→Prop
 |none:bK size base h .bh 0 []
 |cell (b n:Nat) (cs:List AV) (t:T AV) (ty:Nat):base≤b→b<h.nx→cs.length=n*size→h.t.get b=some (.cells (n*size) t ⟨size,ty⟩ false)→(∀j,t.get j=cs[j]?)→bK size base h (.slice b 0 n (.iK 0)) n cs
theorem tC{t:T AV}{cs:List AV}(ht:∀j,t.get j=cs[j]?):∀(k o:Nat),o+k≤cs.length→H.loadCells t o k=some ((cs.drop o).take k)
 |0,o,_=>by simp[H.loadCells]
 |k+1,o,hk=>by
  have h1:o<cs.length:=by omega
  simp only[H.loadCells,ht,List.getElem?_eq_getElem h1,tC ht k (o+1) (by omega)];rw[List.drop_eq_getElem_cons h1,List.take_succ_cons]
theorem rz{t:T AV}{cs:List AV}(ht:∀j,t.get j=cs[j]?)(k o:Nat)(hk:o+k≤cs.length):H.my t o k=some ((cs.drop o).take k):=by
 rw[ie];exact tC ht k o hk
theorem pD(h:H)(old:Option Nat)(k:EK)(l:List AV)(b:Nat)(hb:b<h.nx):(h.grown old k l).t.get b=if old=some b then none else h.t.get b:=by
 unfold H.grown;cases old with
 |none=>simp only[T.bS];rw[if_neg (by omega),if_neg (by simp)]
 |some c=>
  simp only[T.bS];rw[if_neg (by omega)];by_cases e:b=c
  ·subst e;simp
  ·rw[if_neg e,if_neg (by simpa using fun q=>e q.symm)]
theorem iS(h:H)(old:Option Nat)(k:EK)(l:List AV):(h.grown old k l).t.get h.nx=some (.cells l.length (T.ofRow l) k false):=by
 unfold H.grown;simp only[T.bS,if_true,dY]
theorem sE(h:H)(old:Option Nat)(k:EK)(l:List AV):(h.grown old k l).nx=h.nx+1:=rfl
theorem N3(k:EK)(size:Nat)(e:TypeId):(kG k size e).sz=size:=by unfold kG;split<;>rfl
theorem CX{elem:TypeId}{size base:Nat}{h:H}{v:AV}{n m:Nat}{cs new:List AV}(hg:bK size base h v n cs)(hb:base≤h.nx)(hm:0<m)(hs:0<size)(hl:new.length=m*size)(s_:n+m≤4194304):
  ∃v' h',du elem size v m new h= .val v' h'∧bK size base h' v' (n+m) (cs++new)∧h'.nx=h.nx+1∧(∀b,b<h.nx→bA v≠some b→h'.t.get b=h.t.get b)∧bA v'=some h.nx:=by
 have e1:aB (kQ new) (m*size)=true:=by rw[dY,hl,Nat.beq_refl]
 obtain⟨m,rfl⟩:∃k,m=k+1:=⟨m-1,by omega⟩;cases hg with
 | none=>
  have e2:small (m+1)=true:=by unfold small;rw[Nat.ble_eq];omega
  refine⟨.slice h.nx 0 (m+1) (.iK 0),h.grown none ⟨size,elem+1⟩ new,?_,?_,rfl,fun b hb _=>?_,rfl⟩
  ·unfold du;simp only[e1,e2]
  ·rw[aC,aD]
   refine .cell h.nx (m+1) new (T.ofRow new) (elem+1) hb (Nat.lt_succ_self _) hl ?_ (T.eG new);rw[iS,hl]
  ·rw[pD _ _ _ _ _ hb,if_neg (by simp)]
 | cell b n cs t ty wD sP gI Fg ht=>
  have fW:n*size<(n+(m+1))*size:=Nat.mul_lt_mul_of_pos_right (by omega) hs;have e2:small (n+(m+1))=true:=by unfold small;rw[Nat.ble_eq];omega
  have e3:Nat.ble (0+(n+(m+1))*size) (n*size)=false:=by rw[←Bool.not_eq_true,Nat.ble_eq];omega
  have e4:H.my t 0 (n*size)=some cs:=by rw[rz ht _ _ (by omega),List.drop_zero,←gI,List.take_length]
  refine⟨.slice h.nx 0 (n+(m+1)) (.iK 0),h.grown (some b) (kG ⟨size,ty⟩ size elem) (cs++new),?_,?_,rfl,fun c hc dH=>?_,rfl⟩
  ·unfold du;simp only[e1,e2,e3,e4,Fg,Nat.zero_mul,Nat.beq_refl]
  ·have hlen:(cs++new).length=(n+(m+1))*size:=by rw[List.length_append,gI,hl,←Nat.add_mul]
   refine .cell h.nx _ _ (T.ofRow (cs++new)) (kG ⟨size,ty⟩ size elem).ty hb (Nat.lt_succ_self _) hlen ?_ (T.eG _);rw[iS,hlen];have:=N3 ⟨size,ty⟩ size elem;cases hk:kG ⟨size,ty⟩ size elem with
   |mk a c=>rw[hk]at this;cases this;rfl
  ·rw[pD _ _ _ _ _ hc];exact if_neg dH
theorem bK.slice{size base:Nat}{h:H}{v:AV}{n:Nat}{cs:List AV}(hg:bK size base h v n cs):br h v n cs:=by
 cases hg with
 |none=>exact .none
 |cell b n cs t ty wD sP gI Fg ht=>
  refine .cell b 0 n _ cs sP (fun i hi=>?_);unfold cellAt;rw[Fg,aC];exact ht i
theorem bK.bG{size base:Nat}{h h':H}{v:AV}{n:Nat}{cs:List AV}(hg:bK size base h v n cs)(hx:h.nx≤h'.nx)(he:∀b,bA v=some b→h'.t.get b=h.t.get b):bK size base h' v n cs:=by
 cases hg with
 |none=>exact .none
 |cell b n cs t ty wD sP gI Fg ht=>exact .cell b n cs t ty wD (Nat.lt_of_lt_of_le sP hx) gI (by rw[he b rfl];exact Fg) ht
end
end Go.AX
namespace Go.AX
noncomputable section
open Go.RowKit
section
variable{P:Program}{tm tm':T AV}{h h':H}
theorem jL{x:Operand}(he:∀t,x= .tmp t→tm.get t=tm'.get t):bP tm x=bP tm' x:=by
 cases x with
 |tmp t=>simp only[bP,he t rfl]
 |_=>rfl
theorem Kw{x:Operand}(he:∀t,x= .tmp t→tm.get t=tm'.get t):mg tm h x=mg tm' h x:=by
 cases x with
 |tmp t=>exact jL he
 |_=>rfl
theorem lP:∀{l:List Operand},(∀t,Operand.tmp t∈l→tm.get t=tm'.get t)→fD tm l=fD tm' l
 |[],_=>rfl
 |x::l,he=>by
  simp only[fD,jL (tm:=tm) (tm':=tm') (x:=x) (fun t e=>he t (e▸ak)),lP (l:=l) (fun t ht=>he t (al _ ht))]
theorem pE:∀{l:List (Nat×Operand)},(∀t,Operand.tmp t∈l.map (·.2)→tm.get t=tm'.get t)→mh tm l=mh tm' l
 |[],_=>rfl
 |(i,x)::l,he=>by
  simp only[mh,jL (tm:=tm) (tm':=tm') (x:=x) (fun t e=>he t (e▸ak)),pE (l:=l) (fun t ht=>he t (al _ ht))]
theorem pF{x:Option Operand}(he:∀t,x=some (.tmp t)→tm.get t=tm'.get t):kI tm x=kI tm' x:=by
 cases x with
 |none=>rfl
 |some x=>simp only[kI,jL (tm:=tm) (tm':=tm') (x:=x) (fun t e=>he t (e▸rfl))]
theorem Kx(o:Op)(he:∀t,Operand.tmp t∈o.operands.toList→tm.get t=tm'.get t):bF P tm h o=bF P tm' h o:=by
 have e1:∀x,x∈o.operands.toList→bP tm x=bP tm' x:=fun x hx=>jL fun t ht=>he t (ht▸hx);have e2:∀x,x∈o.operands.toList→mg tm h x=mg tm' h x:=fun x hx=>Kw fun t ht=>he t (ht▸hx);cases o with
 |build t ps=>
  have:=pE (tm:=tm) (tm':=tm') (l:=ps.toList) (fun t ht=>he t (by simpa[Op.operands]using ht));simp only[bF,this]
 |buildSlice t n ps=>
  have:=pE (tm:=tm) (tm':=tm') (l:=ps.toList) (fun t ht=>he t (by simpa[Op.operands]using ht));simp only[bF,this]
 | makeFunc f first cap=>
  cases f with
  |func f=>
   have a:=lP (tm:=tm) (tm':=tm') (l:=first.toList) (fun t ht=>he t (by simp only[Op.operands,an,aq];exact .inl ht));have b:=lP (tm:=tm) (tm':=tm') (l:=cap.toList) (fun t ht=>he t (by simp only[Op.operands,an,aq];exact .inr ht));simp only[bF,a,b]
  |_=>rfl
 |makeMap t r=>
  have a:=pF (tm:=tm) (tm':=tm') (x:=r) (fun t e=>he t (by subst e;simp[Op.operands]));simp only[bF,a]
 |slice t x lo hi mx=>
  have a:=pF (tm:=tm) (tm':=tm') (x:=lo) (fun t e=>he t (by subst e;simp[Op.operands]));have b:=pF (tm:=tm) (tm':=tm') (x:=hi) (fun t e=>he t (by subst e;simp[Op.operands]));have c:=pF (tm:=tm) (tm':=tm') (x:=mx) (fun t e=>he t (by subst e;simp[Op.operands]));simp only[bF,a,b,c,e1 x (by simp[Op.operands])]
 | call c=>
  obtain⟨cl,args,Kg⟩:=c;have a:=lP (tm:=tm) (tm':=tm') (l:=args.toList) (fun t ht=>he t (by
   simp only[Op.operands,Call.operands,an,aq];exact .inr ht))
  cases cl with
  |value f=>simp only[bF,a,e1 f (by simp[Op.operands,Call.operands])]
  |builtin b=>simp only[bF,a]
  |invoke r m=>simp only[bF,a]
 | defer c=>
  obtain⟨cl,args,Kg⟩:=c;have a:=lP (tm:=tm) (tm':=tm') (l:=args.toList) (fun t ht=>he t (by
   simp only[Op.operands,Call.operands,an,aq];exact .inr ht))
  cases cl with
  |value f=>simp only[bF,a,e1 f (by simp[Op.operands,Call.operands])]
  |_=>rfl
 |convert s d x=>simp only[bF,e1 x (by simp[Op.operands])]
 |move x=>simp only[bF,e1 x (by simp[Op.operands])]
 |assign x=>simp only[bF,e1 x (by simp[Op.operands])]
 |pick c a b=>simp only[bF,e1 c (by simp[Op.operands]),e1 a (by simp[Op.operands]),e1 b (by simp[Op.operands])]
 |box t x=>simp only[bF,e1 x (by simp[Op.operands])]
 |load t x=>simp only[bF,e2 x (by simp[Op.operands])]
 |store t x y=>simp only[bF,e1 x (by simp[Op.operands]),e1 y (by simp[Op.operands])]
 |nilCheck x=>simp only[bF,e1 x (by simp[Op.operands])]
 |binOp op t x y u=>simp only[bF,e1 x (by simp[Op.operands]),e1 y (by simp[Op.operands])]
 |unOp op t x=>simp only[bF,e1 x (by simp[Op.operands])]
 |makeInterface t x=>simp only[bF,e1 x (by simp[Op.operands])]
 |makeSlice t x y=>simp only[bF,e1 x (by simp[Op.operands]),e1 y (by simp[Op.operands])]
 |fieldAddr t x i=>simp only[bF,e2 x (by simp[Op.operands])]
 |field t x i=>simp only[bF,e1 x (by simp[Op.operands])]
 |indexAddr t x i=>simp only[bF,e2 x (by simp[Op.operands]),e1 i (by simp[Op.operands])]
 |index t x i=>simp only[bF,e1 x (by simp[Op.operands]),e1 i (by simp[Op.operands])]
 |lookup t x i ok=>simp only[bF,e1 x (by simp[Op.operands]),e1 i (by simp[Op.operands])]
 |mapUpdate t m k x=>simp only[bF,e1 x (by simp[Op.operands]),e1 m (by simp[Op.operands]),e1 k (by simp[Op.operands])]
 |insert t m k x=>simp only[bF,e1 x (by simp[Op.operands]),e1 m (by simp[Op.operands]),e1 k (by simp[Op.operands])]
 |mapEntry t m k=>simp only[bF,e1 m (by simp[Op.operands]),e1 k (by simp[Op.operands])]
 |entryStore t m s x=>simp only[bF,e1 x (by simp[Op.operands]),e1 m (by simp[Op.operands]),e1 s (by simp[Op.operands])]
 |range t x=>simp only[bF,e1 x (by simp[Op.operands])]
 |next x s=>simp only[bF,e1 x (by simp[Op.operands])]
 |entry x=>simp only[bF,e1 x (by simp[Op.operands])]
 |extract x i=>simp only[bF,e1 x (by simp[Op.operands])]
 |panic x=>simp only[bF,e1 x (by simp[Op.operands])]
 |_=>rfl
theorem Ky{ops:Array Oper}{o:Oper}:bF P (iY tm (slotsOf ops o)) h o.op=bF P tm h o.op:=
 Kx _ fun t ht=>by rw[mY,if_pos (iR (iQ ht))]
theorem pG{ops:Array Oper}{o:Oper}:dL (iY tm (slotsOf ops o)) ops o=dL tm ops o:=by
 unfold dL;split
 ·rfl
 ·rename_i j want hg
  split
  ·rename_i d hd
   have :d∈slotsOf ops o:=by unfold slotsOf;rw[hg];simp only[hd];exact ak
   rw[mY,if_pos this]
  ·rfl
theorem vq{ops:Array Oper}{o:Oper}:qH P tm h ops o=match dL tm ops o with|true=>bF P tm h o.op|false=>.val jd h:=by
 unfold qH;rw[pG,Ky];cases dL tm ops o<;>rfl
theorem Kz{op:Op}(hr:cO op=true):(∃v,bF P tm h op= .val v h)∨bF P tm h op= .fail:=by
  have hkey :(∃v h',bF P tm h op= .val v h')∨bF P tm h op= .fail:=by
    have ho:∀x:Option AV,(∃v h',eM h x= .val v h')∨eM h x= .fail:=fun x=>by
      cases x with
      |none=>exact .inr rfl
      |some v=>exact .inl ⟨v,h,rfl⟩
    have yY:∀op t,(∃v h',lW P op t h= .val v h')∨lW P op t h= .fail:=fun op t=>by
      unfold lW;repeat' (first|exact .inr rfl|exact .inl ⟨_,_,rfl⟩|split)
    cases op with
    | call c=>
      obtain⟨callee,args,ts⟩:=c;cases callee with
      | builtin b=>
        have hb:b= .len∨b= .cap∨b= .min∨b= .max:=by cases b<;>simp[cO]at hr<;>simp
        simp only[bF];split
        ·exact .inr rfl
        · unfold bQ
          rcases hb with rfl|rfl|rfl|rfl<;>split<;>first
            |contradiction
            |exact .inr rfl
            |exact .inl ⟨_,_,rfl⟩
            |(split<;>first|exact .inr rfl|exact .inl ⟨_,_,rfl⟩)
      |_=>simp[cO]at hr
    | makeFunc fn a b=>
      cases fn with
      | func f=>
        simp only[bF];split
        ·exact .inl ⟨_,_,rfl⟩
        ·exact .inr rfl
      |_=>exact .inr rfl
    | _=>
      first
      |(simp[cO]at hr;done)
      | (simp only[bF]
         first
         |exact ho _
         | (repeat' split
            all_goals first|exact ho _|exact yY _ _|exact .inr rfl|exact .inl ⟨_,_,rfl⟩))
  rcases hkey with⟨v,h',e⟩|e
  ·have:=Hg hr e;subst this;exact .inl ⟨v,e⟩
  ·exact .inr e
mutual
theorem AV.w_:∀a:AV,AV.same a a=true
 | .bool b=>by simp[AV.same]
 | .int k n=>by simp[AV.same,fZ]
 | .str s=>by simp only[AV.same];exact(eK s s).2 rfl
 | .cN=>rfl
 | .ptr b o=>by simp[AV.same]
 | .bh=>rfl
 | .dq=>rfl
 | .slice b o l (.exact c)=>by simp[AV.same]
 | .slice b o l (.iK c)=>by simp[AV.same]
 | .dB=>rfl
 | .map b=>by simp[AV.same]
 | .func f a c=>by simp[AV.same,AV.nf a,AV.nf c]
 | .yield l=>by simp[AV.same]
 | .nilFunc=>rfl
 | .iface t v=>by simp[AV.same,AV.w_ v]
 | .nilIface=>rfl
 | .agg cs=>by simp[AV.same,AV.nf cs]
 | .tuple cs=>by simp[AV.same,AV.nf cs]
theorem AV.nf:∀l:List AV,AV.kH l l=true
 |[]=>rfl
 |a::l=>by simp[AV.kH,AV.w_ a,AV.nf l]
end
def dy(P:Program):Op→Bool
 | .convert _ d _=>match P.underlying d with
  |some (.int _)=>true
  |some .string=>true
  |_=>false
 |_=>false
theorem BE{o:Op}(hs:dy P o=true){v:AV}(e:bF P tm h o= .val v h'):((∃k n,v= .int k n)∨∃s,v= .str s)∧h'=h∧eV o=true∧cO o=false:=by
 cases o with
 | convert s d x=>
  have hd:(∃k,P.underlying d=some (.int k))∨P.underlying d=some .string:=by
   simp only[dy]at hs;split at hs
   ·rename_i k hk;exact .inl ⟨k,hk⟩
   ·rename_i hk;exact .inr hk
   ·cases hs
  have hv:(∃k n,v= .int k n)∨∃s,v= .str s:=by
   simp only[bF]at e;split at e
   ·rename_i y hy
    have e':gF P s d y h= .val v h':=by
     rcases hd with⟨k,hd⟩|hd<;>rw[hd]at e<;>(split at e<;>first|exact e|(exfalso;rename_i q;cases q;done)|(exfalso;rename_i q _;cases q;done))
    clear e;unfold gF at e';rcases hd with⟨k,hd⟩|hd<;>rw[hd]at e'
    ·split at e'<;>first
      |(simp only[cT]at e';cases e';exact .inl ⟨_,_,rfl⟩)
      |(exfalso;simp_all;done)
    ·split at e'<;>first
      |(cases e';exact .inr ⟨_,rfl⟩)
      |(exfalso;simp_all;done)
      |(repeat' (first|(cases e';exact .inr ⟨_,rfl⟩)|(cases e';done)|split at e'))
   ·cases e
  exact⟨hv,FD e (by rcases hv with q|q;exact .inl q;exact .inr (.inl q)),rfl,rfl⟩
 |_=>simp[dy]at hs
theorem BF{o:Op}(hs:dy P o=true):(∃v h',bF P tm h o= .val v h')∨bF P tm h o= .fail:=by
 cases o with
 | convert s d x=>
  simp only[bF];split
  ·split
   ·unfold iz
    repeat' (first|exact .inr rfl|exact .inl ⟨_,_,rfl⟩|split)
   ·unfold fA
    repeat' (first|exact .inr rfl|exact .inl ⟨_,_,rfl⟩|split)
   ·unfold gF
    repeat' (first|exact .inr rfl|exact .inl ⟨_,_,rfl⟩|split)
  ·exact .inr rfl
 |_=>simp[dy]at hs
def Ia:Op→Bool
 | .assign _=>true
 |_=>false
def kf(P:Program)(o:Oper):Nat:=
 match cO o.op||dy P o.op with
 |true=>0
 | false=>match cG o with
  |true=>1
  | false=>match Ia o.op with
   |true=>2
   |false=>match eV o.op with
    |true=>4
    |false=>3
def FO(d:Option Tmp)(t:Tmp):Bool:=
 match d with
 |none=>true
 |some d=> !aB d t
def sF(ops:Array Oper)(o:Oper):List (Nat×Oper)→Bool
 |[]=>true
 |p::l=>(slotsOf ops o).all (FO p.2.dst)&&(match o.dst with|none=>true|some e=>FO p.2.dst e)&&sF ops o l
def EI(P:Program)(nt:Nat)(tm:T AV)(h:H)(ops:Array Oper)(rem:List (Nat×Oper))(early:List (Nat×Oper×Nat)):Prop:=
 ∀p,p∈early→kf P p.2.1=0∧sF ops p.2.1 rem=true∧∃v,eR P tm h ops p.2.1=some v∧lY nt tm p.2.1.dst v=true
theorem yD{ops:Array Oper}{o:Oper}:∀{l:List (Nat×Oper)},sF ops o l=true→∀p,p∈l→(∀t,t∈slotsOf ops o→p.2.dst≠some t)∧∀e,o.dst=some e→p.2.dst≠some e
 |[],_,p,hp=>absurd hp List.not_mem_nil
 | q::l,h,p,hp=>by
  simp only[sF,ao,List.all_eq_true]at h;have hn:∀{d:Option Tmp}{t:Tmp},FO d t=true→d≠some t:=fun{d t} hd e=>by
   subst e;simp[FO]at hd
  rcases List.mem_cons.1 hp with rfl|hp
  ·refine⟨fun t ht=>hn (h.1.1 t ht),fun e he=>?_⟩
   have:=h.1.2;rw[he]at this;exact hn this
  ·exact yD h.2 p hp
theorem Ib(nt:Nat)(d:Option Tmp)(v:AV){t:Tmp}(ht:d≠some t):(m_ nt tm d v).get t=tm.get t:=by
 cases d with
 |none=>rfl
 |some d=>
  rw[wZ];split
  ·rw[T.bS,if_neg (fun e=>ht (by rw[e]))]
  ·rfl
theorem FP{ops:Array Oper}{o:Oper}(he:∀t,t∈slotsOf ops o→tm'.get t=tm.get t):eR P tm' h ops o=eR P tm h ops o:=by
 have :iY tm' (slotsOf ops o)=iY tm (slotsOf ops o):=by
  have :∀l:List Tmp,(∀t,t∈l→tm'.get t=tm.get t)→iY tm' l=iY tm l:=by
   intro l;induction l with
   |nil=>intro _;rfl
   |cons t l ih=>intro hl;simp only[iY,ih (fun t ht=>hl t (al _ ht)),hl t ak]
  exact this _ he
 unfold eR qH;rw[this]
theorem Ic{nt:Nat}{d:Option Tmp}{v:AV}(he:∀t,d=some t→tm'.get t=tm.get t):lY nt tm' d v=lY nt tm d v:=by
 cases d with
 |none=>rfl
 |some d=>simp only[lY,he d rfl]
theorem EI.put{nt:Nat}{ops:Array Oper}{i:Nat}{o:Oper}{rem:List (Nat×Oper)}{early:List (Nat×Oper×Nat)}(he:EI P nt tm h ops ((i,o)::rem) early)(v:AV):EI P nt (m_ nt tm o.dst v) h ops rem early:=by
 intro p hp;obtain⟨k0,kc,w,hw,hs⟩:=he p hp;have hc:=yD kc (i,o) ak;have kc':sF ops p.2.1 rem=true:=by simp only[sF,ao]at kc;exact kc.2
 refine⟨k0,kc',w,?_,?_⟩
 ·rw[FP (fun t ht=>Ib nt _ v (hc.1 t ht))];exact hw
 ·rw[Ic (fun t ht=>Ib nt _ v (hc.2 t ht))];exact hs
theorem EI.sub{nt:Nat}{ops:Array Oper}{rem:List (Nat×Oper)}{early:List (Nat×Oper×Nat)}{B:List Nat}(he:EI P nt tm h ops rem early):EI P nt tm h ops rem (dQ B early):=fun p hp=>he p (kY hp)
theorem tW{o:Oper}(hk:kf P o=0):cG o=false:=by
 unfold kf at hk;split at hk
 ·rename_i hr
  cases ha:cG o with
  |false=>rfl
  |true=>
   rw[Bool.or_eq_true]at hr;unfold cG at ha;cases ho:o.op<;>rw[ho]at ha hr<;>simp[cO,dy]at ha hr
 ·split at hk
  ·cases hk
  ·split at hk
   ·cases hk
   ·split at hk<;>cases hk
theorem L_{o:Oper}(hk:kf P o=0):sN o=false:=by
 cases hf:sN o with
 |false=>rfl
 |true=>
  rcases LD hf with⟨t,n,ps,Ao⟩|⟨t,n,ps,Ao⟩<;>unfold kf at hk<;>simp[Ao,cO,dy,eV,Ia]at hk<;>split at hk<;>cases hk
theorem EI.early{nt:Nat}{ops:Array Oper}{rem:List (Nat×Oper)}:∀{early:List (Nat×Oper×Nat)},EI P nt tm h ops rem early→jB P nt tm h ops early=true
 |[],_=>rfl
 | (j,o,b)::l,he=>by
  obtain⟨k0,_,v,hv,hs⟩:=he (j,o,b) ak;have :qI P nt tm h ops o b=true:=by
   unfold qI;rw[tW k0,L_ k0];simp only at hv hs ⊢;rw[hv];exact hs
  simp only[jB,this];exact EI.early (fun p hp=>he p (al _ hp))
theorem V6{o:Oper}(hk:kf P o=0):cO o.op=true∨dy P o.op=true:=by
 unfold kf at hk;split at hk
 ·rename_i hr;exact Bool.or_eq_true _ _▸hr
 ·split at hk
  ·cases hk
  ·split at hk
   ·cases hk
   ·split at hk<;>cases hk
theorem BG{ops:Array Oper}{o:Oper}(hk:kf P o=0){K:AV→H→Prop}(hw:lN tm ops o.guard (jf P (bF P tm h o.op) K) (K jd h)):∃v,eR P tm h ops o=some v∧K v h:=by
 have hyes:dL tm ops o=true→jf P (bF P tm h o.op) K→∃v,eR P tm h ops o=some v∧K v h:=by
  intro hd hx;rcases V6 hk with hr|hs
  ·rcases Kz (P:=P) (tm:=tm) (h:=h) hr with⟨v,e⟩|e
   ·rw[e]at hx
    refine⟨v,?_,hx⟩;unfold eR;rw[hr,vq,hd];simp only[e]
   ·rw[e]at hx;exact absurd hx id
  ·rcases BF (P:=P) (tm:=tm) (h:=h) hs with⟨v,h',e⟩|e
   ·obtain⟨hv,hh,hc,hr⟩:=BE hs e
    subst hh;rw[e]at hx;refine⟨v,?_,hx⟩;unfold eR;rw[hr,hc,vq,hd];simp only[e];rcases hv with⟨k,n,rfl⟩|⟨s,rfl⟩<;>rfl
   ·rw[e]at hx;exact absurd hx id
 have TC:dL tm ops o=false→K jd h→∃v,eR P tm h ops o=some v∧K v h:=by
  intro hd hx;refine⟨jd,?_,hx⟩;unfold eR;rw[vq,hd];rcases V6 hk with hr|hs
  ·rw[hr]
  ·have :cO o.op=false∧eV o.op=true:=by
    cases ho:o.op<;>rw[ho]at hs<;>simp[dy]at hs<;>exact⟨rfl,rfl⟩
   rw[this.1,this.2];rfl
 unfold lN at hw;split at hw
 ·rename_i hg;exact hyes (by unfold dL;rw[hg]) hw
 ·rename_i j want hg
  split at hw
  ·rename_i d hd
   split at hw
   ·rename_i b hb
    have e:dL tm ops o=(b==want):=by unfold dL;simp only[hg,hd,hb]
    cases Jx:(b==want)with
    |true=>exact hyes (e.trans Jx) (hw.1 Jx)
    |false=>exact TC (e.trans Jx) (hw.2 Jx)
   ·rename_i hb
    exact TC (by unfold dL;simp only[hg,hd,hb]) hw
   ·exact absurd hw id
  ·exact absurd hw id
theorem Ie{ops:Array Oper}{o:Oper}{K:AV→H→Prop}(hw:lN tm ops o.guard (jf P (bF P tm h o.op) K) (K jd h)):jf P (qH P tm h ops o) K:=by
 rw[vq];unfold lN at hw;split at hw
 ·rename_i hg
  have :dL tm ops o=true:=by unfold dL;rw[hg]
  rw[this];exact hw
 ·rename_i j want hg
  split at hw
  ·rename_i d hd
   split at hw
   ·rename_i b hb
    have e:dL tm ops o=(b==want):=by unfold dL;simp only[hg,hd,hb]
    rw[e];cases Jx:(b==want)with
    |true=>exact hw.1 Jx
    |false=>exact hw.2 Jx
   ·rename_i hb
    have e:dL tm ops o=false:=by unfold dL;simp only[hg,hd,hb]
    rw[e];exact hw
   ·exact absurd hw id
  ·exact absurd hw id
def Ma:Code→Bool
 | .region _ _ true=>true
 |_=>false
end
end
end Go.AX
namespace Go.AX
noncomputable section
open Go.RowKit
section
variable{P:Program}{tm:T AV}{h:H}
def V7(v:AV)(x:Option (List AV)):Option (List AV):=
 match x with
 |some r=>some (v::r)
 |none=>none
theorem BH(v:AV)(r:List AV):V7 v (some r)=some (v::r):=id rfl
theorem Ig:ke []=some []:=id rfl
theorem Er(v:AV)(l:List (Option AV)):ke (some v::l)=V7 v (ke l):=id rfl
def xd(x:Option (List AV)):Option AV:=
 match x with
 |some r=>some (.agg r)
 |none=>none
theorem Es(r:List AV):xd (some r)=some (.agg r):=id rfl
def Kg(h:H)(b o:Nat):Nat→List (Option AV)
 |0=>[]
 |k+1=>cellAt h b o::Kg h b (o+1) k
theorem Qg(b o k:Nat):Kg h b o (k+1)=cellAt h b o::Kg h b (o+1) k:=id rfl
theorem KA(b:Nat):∀(k o:Nat),Kg h b o k=(List.range' o k).map (cellAt h b)
 |0,o=>rfl
 |k+1,o=>by rw[Qg,KA b k (o+1)];rfl
theorem oh{t:TypeId}{k:Nat}(ht:Fb P t=true)(hk:P.cellsOf t=k+1)(b o:Nat):dJ P h t b o=xd (ke (Kg h b o (k+1))):=by
 rw[NX ht hk,KA];unfold xd;cases ke _<;>rfl
theorem sG(b o k:Nat):h.row b o (k+1)=ke (Kg h b o (k+1)):=by rw[HG,KA]
def yE(place:Nat→Option (Nat×Nat))(cells:List AV):List (Nat×List AV)→Option (List AV)
 |[]=>some cells
 | (i,l)::rest=>match place i with
  |none=>none
  |some (off,size)=>match aB l.length size&&Nat.ble (off+l.length) cells.length with
   |true=>yE place (tH cells off l) rest
   |false=>none
theorem vu(place:Nat→Option (Nat×Nat)):∀(parts:List (Nat×AV))(cells:List AV),sV place cells parts=yE place cells (parts.map fun p=>(p.1,p.2.cells))
 |[],_=>rfl
 | (i,v)::rest,cells=>by
  simp only[sV,aw,yE];cases place i with
  |none=>rfl
  |some q=>
   obtain⟨off,size⟩:=q;simp only;cases aB v.cells.length size&&Nat.ble (off+v.cells.length) cells.length with
   |true=>exact vu place rest _
   |false=>rfl
def gm(P:Program)(t:TypeId)(parts:List (Nat×List AV)):Option AV:=
 match dv P t,P.underlying t with
 |some z,some (.struct fields)=>
  match fields.toList.all (fun f=>eQ P f.type)with
  |false=>none
  |true=>match yE (placeOf P fields.toList) z.cells parts with
  |some l=>some (.agg l)
  |none=>none
 |some z,some (.array _ elem)=>
  match eQ P elem with
  |false=>none
  |true=>match yE (fun i=>some (i*P.cellsOf elem,P.cellsOf elem)) z.cells parts with
  |some l=>some (.agg l)
  |none=>none
 |_,_=>none
theorem Mb(t:TypeId)(parts:List (Nat×AV)):wK P t parts=gm P t (parts.map fun p=>(p.1,p.2.cells)):=by
 unfold wK gm;cases dv P t with
 |none=>rfl
 |some z=>cases P.underlying t with
  |none=>rfl
  |some d=>cases d<;>first|rfl|(simp only[vu];rfl)|simp only[vu]
def BI(e:TypeId)(n:Nat)(l:List AV)(h:H):R:=
 match dN l with
 |true=>.val (.slice h.nx 0 n (.exact n)) (h.bq e l)
 |false=>.fail
theorem Et{e:TypeId}{n:Nat}{l:List AV}(hl:dN l=true):BI e n l h= .val (.slice h.nx 0 n (.exact n)) (h.bq e l):=by unfold BI;rw[hl]
def iF(P:Program)(t:TypeId)(n:Nat)(parts:List (Nat×List AV)):Option (TypeId×List AV):=
 match P.underlying t with
 | some (.slice elem)=>
  match eQ P elem,small (n*P.cellsOf elem),dv P elem with
  |true,true,some z=>match aB z.cells.length (P.cellsOf elem),yE (fun i=>some (i*P.cellsOf elem,P.cellsOf elem)) (kS z.cells n) parts with
   |true,some l=>some (elem,l)
   |_,_=>none
  |_,_,_=>none
 |_=>none
def FQ(x:Option (TypeId×List AV))(n:Nat)(h:H):R:=
 match x with
 |some (e,l)=>BI e n l h
 |none=>.fail
theorem vv(e:TypeId)(l:List AV)(n:Nat):FQ (some (e,l)) n h=BI e n l h:=id rfl
theorem BJ(t:TypeId)(n:Nat)(parts:List (Nat×AV)):fV P t n parts h=FQ (iF P t n (parts.map fun p=>(p.1,p.2.cells))) n h:=by
 unfold fV iF FQ;cases P.underlying t with
 |none=>rfl
 | some d=>cases d with
  | slice elem=>
   simp only[vu];cases eQ P elem with
   |false=>rfl
   | true=>cases small (n*P.cellsOf elem)with
    |false=>rfl
    | true=>cases dv P elem with
     |none=>rfl
     | some z=>
      simp only;cases aB z.cells.length (P.cellsOf elem)with
      |false=>rfl
      |true=>
       cases yE (fun i=>some (i*P.cellsOf elem,P.cellsOf elem)) (kS z.cells n) (parts.map fun p=>(p.1,p.2.cells))with
       |none=>rfl
       |some l=>simp only[BI];cases dN l<;>rfl
  |_=>rfl
def mq(P:Program)(src dst:TypeId)(v:AV)(h:H):R:=
 match P.underlying src,P.underlying dst with
 |some (.pointer t),some .unsafePointer=>iz P t v h
 |some .unsafePointer,some (.pointer u)=>fA P u v h
 |_,_=>gF P src dst v h
theorem BK(s d:TypeId)(x:Operand):bF P tm h (.convert s d x)=ob (bP tm x) fun v=>mq P s d v h:=by
 simp only[bF];unfold ob mq;rfl
theorem rA{s d:TypeId}{u:TypeDesc}{k:IntKind}(hs:P.underlying s=some u)(hd:P.underlying d=some (.int k))(j:IntKind)(n:Int):mq P s d (.int j n) h= .val (.int k (bV k n)) h:=by
 unfold mq;rw[hs,hd];split
 ·rename_i e;cases e
 ·rename_i e;cases e
 ·unfold gF;rw[hs,hd];simp only[cT]
theorem pH{t e:TypeId}(hu:P.underlying t=some (.slice e))(b o n:Nat)(c:ur)(ts:List TypeId)(xs:List AV):bQ P .len (t::ts) (.slice b o n c::xs) h= .val (.int .i64 (.ofNat n)) h:=by
 simp only[bQ,NZ hu]
theorem pI{t e:TypeId}(hu:P.underlying t=some (.slice e))(ts:List TypeId)(xs:List AV):bQ P .len (t::ts) (.bh::xs) h= .val (.int .i64 (.ofNat 0)) h:=by
 simp only[bQ,len_nil hu]
theorem Qh{t e:TypeId}(hu:P.underlying t=some (.slice e))(ts:List TypeId)(xs:List AV):bQ P .len (t::ts) (.dq::xs) h= .val (.int .i64 (.ofNat 0)) h:=by
 simp only[bQ,len_0 hu]
theorem KB{t:TypeId}(hu:P.underlying t=some .string)(s:List Nat)(ts:List TypeId)(xs:List AV):bQ P .len (t::ts) (.str s::xs) h= .val (.int .i64 (.ofNat s.length)) h:=by
 simp only[bQ,TN hu]
theorem Qi(k j:IntKind)(x y:Int)(ts:List TypeId):bQ P .min ts [.int k x,.int j y] h= .val (.int k (if y<x then y else x)) h:=by
 simp only[bQ];by_cases q:y<x
 ·rw[if_pos q];split
  ·rfl
  ·rename_i hn _;exact absurd q hn
 ·rw[if_neg q];split
  ·rename_i hn _;exact absurd hn q
  ·rfl
theorem Qj(k j:IntKind)(x y:Int)(ts:List TypeId):bQ P .max ts [.int k x,.int j y] h= .val (.int k (if x<y then y else x)) h:=by
 simp only[bQ];by_cases q:x<y
 ·rw[if_pos q];split
  ·rfl
  ·rename_i hn _;exact absurd q hn
 ·rw[if_neg q];split
  ·rename_i hn _;exact absurd hn q
  ·rfl
theorem N4{t u e:TypeId}{info:TypeInfo}{u':TypeDesc}{size:Nat}(hu:P.underlying t=some (.slice e))(Ih:P.underlying u=some u')(hn:∀k,u'≠.int k)(hi:P.info? e=some info)(hk:lJ P e info=true)(mH:info.size=size)
  (s:AV)(b o n:Nat)(c:ur)(ts:List TypeId)(xs:List AV):bQ P .append (t::u::ts) (s:: .slice b o n c::xs) h=obs (h.row b o (n*size)) fun new=>du e size s n new h:=by
 subst mH;cases u' with
 |int k=>exact absurd rfl (hn k)
 |_=>simp only[bQ,hu,Ih,lz,hi,hZ,hk,qm];unfold obs;cases h.row b o (n*info.size)<;>rfl
theorem CY{t u e:TypeId}{info:TypeInfo}{u':TypeDesc}(hu:P.underlying t=some (.slice e))(Ih:P.underlying u=some u')(hn:∀k,u'≠.int k)(hi:P.info? e=some info)(hk:lJ P e info=true)
  (s:AV)(ts:List TypeId)(xs:List AV):bQ P .append (t::u::ts) (s:: .bh::xs) h=du e info.size s 0 [] h:=by
 cases u' with
 |int k=>exact absurd rfl (hn k)
 |_=>simp only[bQ,hu,Ih,lz,hi,hZ,hk,qm]
theorem Qk{t:TypeId}{x y:Operand}(a b:List Nat):ed P h .eql t x y (.str a) (.str b)= .val (.bool (decide (a=b))) h:=by
 simp only[ed,d_,jR,E_,eM];congr 2;by_cases e:a=b
 ·rw[decide_eq_true e];exact(eK a b).2 e
 ·rw[decide_eq_false e];cases hb:cL a b with
  |false=>rfl
  |true=>exact absurd ((eK a b).1 hb) e
theorem Ql{t:TypeId}{x y:Operand}(a b:List Nat):ed P h .neq t x y (.str a) (.str b)= .val (.bool (!decide (a=b))) h:=by
 simp only[ed,d_,jR,E_,eM];congr 2;by_cases e:a=b
 ·rw[decide_eq_true e];rw[(eK a b).2 e]
 ·rw[decide_eq_false e];cases hb:cL a b with
  |false=>rfl
  |true=>exact absurd ((eK a b).1 hb) e
def eqO(x:Option Bool)(h:H):R:=
 match x with
 |some r=>.val (.bool r) h
 |none=>.fail
theorem Ii(b:Bool):eqO (some b) h= .val (.bool b) h:=id rfl
def neO(x:Option Bool)(h:H):R:=
 match x with
 |some r=>.val (.bool !r) h
 |none=>.fail
theorem Ij(b:Bool):neO (some b) h= .val (.bool !b) h:=id rfl
theorem XI{t:TypeId}(hg:P.eqGuardType P.depth t=false){x y:Operand}(a b:List AV):ed P h .eql t x y (.agg a) (.agg b)=eqO (sM P 12 t (.agg a) (.agg b)) h:=by
 simp only[ed,d_,jR,jZ,hg,au,eM,eqO];cases sM P 12 t (.agg a) (.agg b)<;>rfl
theorem KC{t:TypeId}(hg:P.eqGuardType P.depth t=false){x y:Operand}(a b:List AV):ed P h .neq t x y (.agg a) (.agg b)=neO (sM P 12 t (.agg a) (.agg b)) h:=by
 simp only[ed,d_,jR,jZ,hg,au,eM,neO];cases sM P 12 t (.agg a) (.agg b)<;>rfl
theorem la:dN []=true:=id rfl
theorem iT(v:AV)(l:List AV):dN (v::l)=(v.one&&dN l):=by simp only[dN];cases v.one<;>rfl
def jc(x y:Option Bool):Option Bool:=
 match x with
 |some true=>y
 |some false=>some false
 |none=>none
theorem Eu(a b:Bool):jc (some a) (some b)=some (a&&b):=by cases a<;>rfl
def lf(P:Program)(e:TypeId)(size:Nat):Bool:=
 match P.info? e with
 |some info=>lJ P e info&&aB info.size size
 |none=>false
theorem fG{t u e:TypeId}{u':TypeDesc}{size:Nat}(hu:P.underlying t=some (.slice e))(Ih:P.underlying u=some u')(hn:∀k,u'≠.int k)(hi:lf P e size=true)
  (s:AV)(b o n:Nat)(c:ur)(ts:List TypeId)(xs:List AV):bQ P .append (t::u::ts) (s:: .slice b o n c::xs) h=obs (h.row b o (n*size)) fun new=>du e size s n new h:=by
 unfold lf at hi;split at hi
 ·rename_i info Ew
  rw[ao]at hi;exact N4 hu Ih hn Ew hi.1 (aE hi.2) s b o n c ts xs
 ·cases hi
theorem vz(t:TypeId)(x y:Operand):bF P tm h (.makeSlice t x y)=ob (bP tm x) fun l=>ob (bP tm y) fun c=>jG P t l c h:=by
 simp only[bF];cases bP tm x with
 |none=>cases bP tm y<;>rfl
 |some v=>cases bP tm y<;>rfl
def BL:List Nat→List Nat→Bool
 |[],[]=>true
 |a::l,b::r=>aB a b&&BL l r
 |_,_=>false
theorem xe:∀{l r:List Nat},BL l r=true→l=r
 |[],[],_=>rfl
 |a::l,b::r,h=>by
  simp only[BL,ao]at h;rw[aE h.1,xe h.2]
 |[],_::_,h=>by cases h
 |_::_,[],h=>by cases h
theorem Qm{ops:List Oper}{l r:List (Nat×Oper)}(hl:∀p,p∈l→p∈kD 0 ops)(hr:∀p,p∈r→p∈kD 0 ops)(he:l.map (·.1)=r.map (·.1)):l=r:=by
 induction l generalizing r with
 |nil=>cases r with
  |nil=>rfl
  |cons b r=>cases he
 | cons a l ih=>cases r with
  |nil=>cases he
  | cons b r=>
   simp only[aw,List.cons.injEq]at he;have h1:=uW.1 (hl a ak);have h2:=uW.1 (hr b ak);have :a=b:=by
    obtain⟨i,o⟩:=a;obtain⟨j,o'⟩:=b;simp only at he h1 h2;obtain⟨rfl,_⟩:=he;have:=h1.2.symm.trans h2.2;cases this;rfl
   rw[this,ih (fun p hp=>hl p (al _ hp)) (fun p hp=>hr p (al _ hp)) he.2]
theorem V8(b o:Nat):h.row b o 1=ke [cellAt h b o]:=sG b o 0
theorem V9(b o:Nat):h.row b o 2=ke [cellAt h b o,cellAt h b (o+1)]:=sG b o 1
theorem V_(b o:Nat):h.row b o 3=ke [cellAt h b o,cellAt h b (o+1),cellAt h b (o+2)]:=sG b o 2
theorem Wa(b o:Nat):h.row b o 4=ke [cellAt h b o,cellAt h b (o+1),cellAt h b (o+2),cellAt h b (o+3)]:=sG b o 3
theorem Wb(b o:Nat):h.row b o 5=ke [cellAt h b o,cellAt h b (o+1),cellAt h b (o+2),cellAt h b (o+3),cellAt h b (o+4)]:=sG b o 4
theorem Wc(b o:Nat):h.row b o 6=ke [cellAt h b o,cellAt h b (o+1),cellAt h b (o+2),cellAt h b (o+3),cellAt h b (o+4),cellAt h b (o+5)]:=sG b o 5
theorem bK.cells{size base:Nat}{v:AV}{n:Nat}{cs:List AV}(hg:bK size base h v n cs):v.cells=[v]:=by cases hg<;>rfl
theorem bK.one{size base:Nat}{v:AV}{n:Nat}{cs:List AV}(hg:bK size base h v n cs):v.one=true:=by cases hg<;>rfl
theorem bK.len{size base:Nat}{v:AV}{n:Nat}{cs:List AV}(hg:bK size base h v n cs){t e:TypeId}(hu:P.underlying t=some (.slice e))(h':H)(ts:List TypeId)(xs:List AV):bQ P .len (t::ts) (v::xs) h'= .val (.int .i64 (.ofNat n)) h':=by
 cases hg with
 |none=>exact pI hu ts xs
 |cell=>exact pH hu _ _ _ _ ts xs
theorem bK.base{size base:Nat}{v:AV}{n:Nat}{cs:List AV}(hg:bK size base h v n cs){b:Nat}(hb:bA v=some b):base≤b∧b<h.nx:=by
 cases hg with
 |none=>cases hb
 |cell c n cs t ty h1 h2=>cases hb;exact⟨h1,h2⟩
theorem br.len{v:AV}{n:Nat}{cs:List AV}(hs:br h v n cs){t e:TypeId}(hu:P.underlying t=some (.slice e))(h':H)(ts:List TypeId)(xs:List AV):bQ P .len (t::ts) (v::xs) h'= .val (.int .i64 (.ofNat n)) h':=by
 cases hs with
 |none=>exact pI hu ts xs
 |zero=>exact Qh hu ts xs
 |cell=>exact pH hu _ _ _ _ ts xs
theorem br.place{v:AV}{n:Nat}{cs:List AV}(hs:br h v n cs)(hn:0<n):∃b o cap,v= .slice b o n cap∧b<h.nx∧bj h b o cs:=by
 cases hs with
 |none=>omega
 |zero=>omega
 |cell b o n cap cs h1 h2=>exact⟨b,o,cap,rfl,h1,h2⟩
def Wd(ok:Bool)(x:Option AV)(k:Nat→Nat→Option (List AV)):Option (List AV):=
 match ok,x with
 |true,some (.ptr b o)=>k b o
 |_,_=>none
theorem Ex(b o:Nat)(k:Nat→Nat→Option (List AV)):Wd true (some (.ptr b o)) k=k b o:=id rfl
def We(x:Option AV)(y:Option (List AV)):Option (List AV):=
 match x,y with
 |some v,some vs=>some (v::vs)
 |_,_=>none
theorem BM(v:AV)(vs:List AV):We (some v) (some vs)=some (v::vs):=id rfl
theorem vA(a:Tmp)(t:TypeId)(l:List ResultVar):ic P tm h (.cell a t::l)=Wd (eQ P t) (tm.get a) fun b o=>We (dJ P h t b o) (ic P tm h l):=id rfl
theorem Ey{fn nt:Nat}{ro:Option Nat}{ds:List Nat}{Q:KQ}:bB P fn nt ro .ret ds tm h Q=Q .ret ds tm h:=id rfl
theorem BN{fn nt:Nat}{ro:Option Nat}{ds:List Nat}{Q:KQ}:bB P fn nt ro .skip ds tm h Q=Q .norm ds tm h:=id rfl
theorem BO{fn nt:Nat}{ro:Option Nat}{ds:List Nat}{Q:KQ}(i:Nat):bB P fn nt ro (.exit i) ds tm h Q=Q (.exit i) ds tm h:=id rfl
end
end
end Go.AX
namespace Go.AX
set_option maxRecDepth 10000 in
theorem B:((((((((type_of%@DV)∧((type_of%@Bb)∧(type_of%@Hw)))∧(((type_of%@LQ)∧(type_of%@LP))∧((type_of%@HF)∧(type_of%@Eg))))∧(((type_of%@Ef)∧((type_of%@w9)∧(type_of%@L4)))∧(((type_of%@L3)∧(type_of%@LV))∧((type_of%@Ec)∧(type_of%@LW)))))∧((((type_of%@Eb)∧((type_of%@Br)∧(type_of%@vf)))∧(((type_of%@P_)∧(type_of%@jb))∧((type_of%@HL)∧(type_of%@tA))))∧((((type_of%@LX)∧(type_of%@HN))∧((type_of%@HM)∧(type_of%@yt)))∧(((type_of%@HO)∧(type_of%@Ed))∧((type_of%@HP)∧(type_of%@HQ))))))∧(((((type_of%@Ee)∧((type_of%@yu)∧(type_of%@Bs)))∧(((type_of%@vg)∧(type_of%@HS))∧((type_of%@vh)∧(type_of%@HT))))∧(((type_of%@Bu)∧((type_of%@Bt)∧(type_of%@LY)))∧(((type_of%@Bv)∧(type_of%@yv))∧((type_of%@LU)∧(type_of%@HH)))))∧((((type_of%@HI)∧((type_of%@HJ)∧(type_of%@HK)))∧(((type_of%@Bi)∧(type_of%@Bj))∧((type_of%@Bk)∧(type_of%@D9))))∧((((type_of%@k_)∧(type_of%@yp))∧((type_of%@Bl)∧(type_of%@D_)))∧(((type_of%@yq)∧(type_of%@Bn))∧((type_of%@yr)∧(type_of%@Ea)))))))∧((((((type_of%@Bo)∧((type_of%@Bp)∧(type_of%@Bq)))∧(((type_of%@DX)∧(type_of%@DY))∧((type_of%@tu)∧(type_of%@Bh))))∧(((type_of%@u_)∧((type_of%@ri)∧(type_of%@vd)))∧(((type_of%@tv)∧(type_of%@rj))∧((type_of%@DZ)∧(type_of%@LL)))))∧((((type_of%@Hv)∧((type_of%@DI)∧(type_of%@DJ)))∧(((type_of%@LM)∧(type_of%@wZ))∧((type_of%@LR)∧(type_of%@DP))))∧((((type_of%@DQ)∧(type_of%@HD))∧((type_of%@sA)∧(type_of%@DS)))∧(((type_of%@HE)∧(type_of%@A_))∧((type_of%@Ba)∧(type_of%@DT))))))∧(((((type_of%@DU)∧((type_of%@DL)∧(type_of%@T.bS)))∧(((type_of%@T.sj)∧(type_of%@az.{0}))∧((type_of%@aA.{0})∧(type_of%@List.getElem?_nil.{0}))))∧(((type_of%@List.length_cons.{0})∧((type_of%@List.length_nil.{0})∧(type_of%@aC)))∧(((type_of%@Nat.add_zero)∧(type_of%@and_true))∧((type_of%@true_and)∧(type_of%@and_self)))))∧((((type_of%@and_false)∧((type_of%@false_and)∧(type_of%@not_true_eq_false)))∧(((type_of%@not_false_eq_true)∧(type_of%@VO))∧((type_of%@VP)∧(type_of%@VQ))))∧((((type_of%@VS)∧(type_of%@VV))∧((type_of%@VW)∧(type_of%@VX)))∧(((type_of%@VY)∧(type_of%@VZ))∧((type_of%@V0)∧(type_of%@V1))))))))∧(((((((type_of%@V2)∧((type_of%@V3)∧(type_of%@Qc)))∧(((type_of%@Qd)∧(type_of%@Kv))∧((type_of%@Qe)∧(type_of%@HU))))∧(((type_of%@HV)∧((type_of%@Bx)∧(type_of%@rm)))∧(((type_of%@Ei)∧(type_of%@vi))∧((type_of%@Ej)∧(type_of%@L5)))))∧((((type_of%@vj)∧((type_of%@By)∧(type_of%@Ek)))∧(((type_of%@L6)∧(type_of%@rn))∧((type_of%@vk)∧(type_of%@vm))))∧((((type_of%@Bz)∧(type_of%@yw))∧((type_of%@El)∧(type_of%@vn)))∧(((type_of%@BA)∧(type_of%@Em))∧((type_of%@L7)∧(type_of%@BB))))))∧(((((type_of%@HW)∧((type_of%@yx)∧(type_of%@En)))∧(((type_of%@tB)∧(type_of%@yz))∧((type_of%@yA)∧(type_of%@Eo))))∧(((type_of%@ru)∧((type_of%@vp)∧(type_of%@Ep)))∧(((type_of%@yo)∧(type_of%@nO))∧((type_of%@aG.{0})∧(type_of%@Bool.and_self)))))∧((((type_of%@Bool.and_true)∧((type_of%@Bool.true_and)∧(type_of%@Bw)))∧(((type_of%@Eh)∧(type_of%@aD.{0}))∧((type_of%@List.append_nil.{0})∧(type_of%@List.cons_append.{0}))))∧((((type_of%@AW)∧(type_of%@AU))∧((type_of%@wX)∧(type_of%@Bool.not_true)))∧(((type_of%@au)∧(type_of%@HZ))∧((type_of%@H_)∧(type_of%@BD)))))))∧((((((type_of%@Nat.add_assoc)∧((type_of%@bI)∧(type_of%@dt)))∧(((type_of%@bN)∧(type_of%@cY))∧((type_of%@bJ)∧(type_of%@bool_eq_self))))∧(((type_of%@decide_true)∧((type_of%@decide_false)∧(type_of%@aF.{0})))∧(((type_of%@L9)∧(type_of%@L8))∧((type_of%@yB)∧(type_of%@yC)))))∧((((type_of%@BC)∧((type_of%@HX)∧(type_of%@HY)))∧(((type_of%@b_)∧(type_of%@uZ))∧((type_of%@Nat.not_lt_zero)∧(type_of%@Nat.le_refl))))∧((((type_of%@Nat.zero_le)∧(type_of%@Nat.sub_self))∧((type_of%@Nat.sub_zero)∧(type_of%@BH)))∧(((type_of%@Ig)∧(type_of%@Er))∧((type_of%@Es)∧(type_of%@Mb))))))∧(((((type_of%@BJ)∧((type_of%@Et)∧(type_of%@vv)))∧(((type_of%@BK)∧(type_of%@Qi))∧((type_of%@Qj)∧(type_of%@Qk))))∧(((type_of%@Ql)∧((type_of%@Ii)∧(type_of%@Ij)))∧(((type_of%@la)∧(type_of%@iT))∧((type_of%@Eu)∧(type_of%@vz)))))∧((((type_of%@aw.{0,0})∧((type_of%@List.map_nil.{0,0})∧(type_of%@V8)))∧(((type_of%@V9)∧(type_of%@V_))∧((type_of%@Wa)∧(type_of%@Wb))))∧((((type_of%@Wc)∧(type_of%@Ey))∧((type_of%@BN)∧(type_of%@BO)))∧(((type_of%@Qb)∧(type_of%@Ex))∧((type_of%@BM)∧(type_of%@vA))))))))):=
 ⟨⟨⟨⟨⟨⟨⟨@DV,⟨@Bb,@Hw⟩⟩,⟨⟨@LQ,@LP⟩,⟨@HF,@Eg⟩⟩⟩,⟨⟨@Ef,⟨@w9,@L4⟩⟩,⟨⟨@L3,@LV⟩,⟨@Ec,@LW⟩⟩⟩⟩,⟨⟨⟨@Eb,⟨@Br,@vf⟩⟩,⟨⟨@P_,@jb⟩,⟨@HL,@tA⟩⟩⟩,⟨⟨⟨@LX,@HN⟩,⟨@HM,@yt⟩⟩,⟨⟨@HO,@Ed⟩,⟨@HP,@HQ⟩⟩⟩⟩⟩,⟨⟨⟨⟨@Ee,⟨@yu,@Bs⟩⟩,⟨⟨@vg,@HS⟩,⟨@vh,@HT⟩⟩⟩,⟨⟨@Bu,⟨@Bt,@LY⟩⟩,⟨⟨@Bv,@yv⟩,⟨@LU,@HH⟩⟩⟩⟩,⟨⟨⟨@HI,⟨@HJ,@HK⟩⟩,⟨⟨@Bi,@Bj⟩,⟨@Bk,@D9⟩⟩⟩,⟨⟨⟨@k_,@yp⟩,⟨@Bl,@D_⟩⟩,⟨⟨@yq,@Bn⟩,⟨@yr,@Ea⟩⟩⟩⟩⟩⟩,⟨⟨⟨⟨⟨@Bo,⟨@Bp,@Bq⟩⟩,⟨⟨@DX,@DY⟩,⟨@tu,@Bh⟩⟩⟩,⟨⟨@u_,⟨@ri,@vd⟩⟩,⟨⟨@tv,@rj⟩,⟨@DZ,@LL⟩⟩⟩⟩,⟨⟨⟨@Hv,⟨@DI,@DJ⟩⟩,⟨⟨@LM,@wZ⟩,⟨@LR,@DP⟩⟩⟩,⟨⟨⟨@DQ,@HD⟩,⟨@sA,@DS⟩⟩,⟨⟨@HE,@A_⟩,⟨@Ba,@DT⟩⟩⟩⟩⟩,⟨⟨⟨⟨@DU,⟨@DL,@T.bS⟩⟩,⟨⟨@T.sj,@az.{0}⟩,⟨@aA.{0},@List.getElem?_nil.{0}⟩⟩⟩,⟨⟨@List.length_cons.{0},⟨@List.length_nil.{0},@aC⟩⟩,⟨⟨@Nat.add_zero,@and_true⟩,⟨@true_and,@and_self⟩⟩⟩⟩,⟨⟨⟨@and_false,⟨@false_and,@not_true_eq_false⟩⟩,⟨⟨@not_false_eq_true,@VO⟩,⟨@VP,@VQ⟩⟩⟩,⟨⟨⟨@VS,@VV⟩,⟨@VW,@VX⟩⟩,⟨⟨@VY,@VZ⟩,⟨@V0,@V1⟩⟩⟩⟩⟩⟩⟩,⟨⟨⟨⟨⟨⟨@V2,⟨@V3,@Qc⟩⟩,⟨⟨@Qd,@Kv⟩,⟨@Qe,@HU⟩⟩⟩,⟨⟨@HV,⟨@Bx,@rm⟩⟩,⟨⟨@Ei,@vi⟩,⟨@Ej,@L5⟩⟩⟩⟩,⟨⟨⟨@vj,⟨@By,@Ek⟩⟩,⟨⟨@L6,@rn⟩,⟨@vk,@vm⟩⟩⟩,⟨⟨⟨@Bz,@yw⟩,⟨@El,@vn⟩⟩,⟨⟨@BA,@Em⟩,⟨@L7,@BB⟩⟩⟩⟩⟩,⟨⟨⟨⟨@HW,⟨@yx,@En⟩⟩,⟨⟨@tB,@yz⟩,⟨@yA,@Eo⟩⟩⟩,⟨⟨@ru,⟨@vp,@Ep⟩⟩,⟨⟨@yo,@nO⟩,⟨@aG.{0},@Bool.and_self⟩⟩⟩⟩,⟨⟨⟨@Bool.and_true,⟨@Bool.true_and,@Bw⟩⟩,⟨⟨@Eh,@aD.{0}⟩,⟨@List.append_nil.{0},@List.cons_append.{0}⟩⟩⟩,⟨⟨⟨@AW,@AU⟩,⟨@wX,@Bool.not_true⟩⟩,⟨⟨@au,@HZ⟩,⟨@H_,@BD⟩⟩⟩⟩⟩⟩,⟨⟨⟨⟨⟨@Nat.add_assoc,⟨@bI,@dt⟩⟩,⟨⟨@bN,@cY⟩,⟨@bJ,@bool_eq_self⟩⟩⟩,⟨⟨@decide_true,⟨@decide_false,@aF.{0}⟩⟩,⟨⟨@L9,@L8⟩,⟨@yB,@yC⟩⟩⟩⟩,⟨⟨⟨@BC,⟨@HX,@HY⟩⟩,⟨⟨@b_,@uZ⟩,⟨@Nat.not_lt_zero,@Nat.le_refl⟩⟩⟩,⟨⟨⟨@Nat.zero_le,@Nat.sub_self⟩,⟨@Nat.sub_zero,@BH⟩⟩,⟨⟨@Ig,@Er⟩,⟨@Es,@Mb⟩⟩⟩⟩⟩,⟨⟨⟨⟨@BJ,⟨@Et,@vv⟩⟩,⟨⟨@BK,@Qi⟩,⟨@Qj,@Qk⟩⟩⟩,⟨⟨@Ql,⟨@Ii,@Ij⟩⟩,⟨⟨@la,@iT⟩,⟨@Eu,@vz⟩⟩⟩⟩,⟨⟨⟨@aw.{0,0},⟨@List.map_nil.{0,0},@V8⟩⟩,⟨⟨@V9,@V_⟩,⟨@Wa,@Wb⟩⟩⟩,⟨⟨⟨@Wc,@Ey⟩,⟨@BN,@BO⟩⟩,⟨⟨@Qb,@Ex⟩,⟨@BM,@vA⟩⟩⟩⟩⟩⟩⟩⟩
end Go.AX
