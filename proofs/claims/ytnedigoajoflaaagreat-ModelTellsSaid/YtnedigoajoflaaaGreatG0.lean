/-
  AX: walks: maps whose keys are not known.
-/
import Derived.Test.YtnedigoajoflaaaGreatAxI
import Derived.Test.YtnedigoajoflaaaGreatAxG
import Derived.Test.YtnedigoajoflaaaGreatAxF
import Derived.Lib.Overlaps
import Derived.Test.YtnedigoajoflaaaGreatProg
import Derived.KernelRfl
set_option linter.unusedSimpArgs false
set_option linter.unusedVariables false
set_option linter.unusedSectionVars false
set_option linter.defProp false
set_option maxHeartbeats 8000000
open Nat renaming reduceLT→ab,reduceLeDiff→ae,reduceEqDiff→af,reduceAdd→ag,reduceMul→ah,reduceSub→ai,zero_le→au,le_refl→aw,lt_of_lt_of_le→aA,eq_of_beq_eq_true→aC,sub_zero→aD,beq_refl→aE,beq→aJ,le_trans→aK,zero_add→aL,eq_zero_or_pos→aM,lt_succ_self→aP,ble_eq_true_of_le→aS,sub_self→aX,zero_mul→aY,mul_pos→aZ
open Bool renaming not_true→ak,not_false→al,eq_iff_iff→aG,and_eq_true→aQ,and_true→aU,false_eq_true→aW
open Int renaming ofNat→an
open List renaming map_cons→ao,getElem?_eq_getElem→aq,mem_of_getElem?→az,map_append→aB,mem_map_of_mem→aF,length_drop→aH,length_append→aN,flatMap_cons→aO,take_of_length_le→aR,mem_singleton→aV
namespace Go.AX
noncomputable section
open Go.RowKit
section
variable{P:Program}{tm:T AV}{h:H}
def oH(x:Option H):R:=
 match x with
 |some h=>.skip h
 |none=>.fail
theorem FV(h:H):oH (some h)= .skip h:=id rfl
theorem fb(t:TypeId)(x i:Operand)(ok:Bool):bF P tm h (.lookup t x i ok)=ob (bP tm x) fun v=>ob (bP tm i) fun j=>ob (lA P t v j ok h) fun v=>.val v h:=by
 simp only[bF];cases bP tm x with
 |none=>cases bP tm i<;>rfl
 |some v=>cases bP tm i<;>rfl
theorem pN(t:TypeId)(m k x:Operand):bF P tm h (.mapUpdate t m k x)=ob (bP tm m) fun m=>ob (bP tm k) fun k=>ob (bP tm x) fun x=>oH (lB P t m k x h):=by
 simp only[bF];cases bP tm m with
 |none=>cases bP tm k<;>cases bP tm x<;>rfl
 |some v=>cases bP tm k with
  |none=>cases bP tm x<;>rfl
  |some w=>cases bP tm x<;>rfl
end
section
variable{κ:Type}[DecidableEq κ]
def ik(k:κ):List (κ×AV)→Nat→Option (Nat×AV)
 |[],_=>none
 |(a,v)::L,i=>if k=a then some (i,v)else ik k L (i+1)
def gU(k:κ)(L:List (κ×AV)):Option AV:=(L.find? fun p=>decide (k=p.1)).map (·.2)
def fH(k:κ)(v:AV):List (κ×AV)→List (κ×AV)
 |[]=>[(k,v)]
 |(a,w)::L=>if k=a then(a,v)::L else(a,w)::fH k v L
def om(k:κ):List (κ×AV)→List (κ×AV)
 |[]=>[]
 |(a,w)::L=>if k=a then L else(a,w)::om k L
theorem Ml(k:κ):∀(L:List (κ×AV))(i:Nat),(ik k L i).map (·.2)=gU k L
 |[],_=>rfl
 | (a,v)::L,i=>by
  unfold ik gU;rw[List.find?_cons];by_cases e:k=a
  ·simp[e]
  ·simp only[e,if_false,decide_false]
   exact Ml k L (i+1)
theorem FW(k:κ):∀{L:List (κ×AV)}{i j:Nat}{v:AV},ik k L i=some (j,v)→i≤j
 |[],_,_,_,h=>by cases h
 |(a,w)::L,i,j,v,h=>by
  unfold ik at h;split at h
  ·cases h;exact aw _
  ·exact aK (Nat.le_succ _) (FW k h)
structure Ir(P:Program)(kt:TypeId)(enc:κ→AV):Prop where
 kv:∀k,yU P 4 kt (enc k)=true
 eq:∀a b,O8 P kt (enc a) (enc b)=some (decide (a=b))
 sm:∀a,Gy (enc a) (enc a)=true
def xg(e:AV×AV×Nat):AV×AV:=(e.1,e.2.1)
def xh(enc:κ→AV)(p:κ×AV):AV×AV:=(enc p.1,p.2)
structure fu(enc:κ→AV)(h:H)(r:Nat)(L:List (κ×AV)):Prop where
 has:∃es clock,h.t.get r=some (.map es clock)∧es.map xg=L.map (xh enc)∧(es.map (·.2.2)).Nodup∧∀e,e∈es→e.2.2<clock
 lt:r<h.nx
variable{P:Program}{kt:TypeId}{enc:κ→AV}
theorem oS(hk:Ir P kt enc)(k:κ):∀{es:List (AV×AV×Nat)}{L:List (κ×AV)}(i:Nat),es.map xg=L.map (xh enc)→nE P kt (enc k) es i=some (ik k L i)
 |[],[],i,_=>rfl
 |[],p::L,i,h=>by simp at h
 |e::es,[],i,h=>by simp at h
 | e::es,(a,v)::L,i,h=>by
  rw[ao,ao,List.cons.injEq]at h;have e1:e.1=enc a:=congrArg Prod.fst h.1;have e2:e.2.1=v:=congrArg Prod.snd h.1;unfold nE ik;rw[e1,hk.eq k a];by_cases q:k=a
  ·simp[q,e2]
  ·simp only[q,decide_false,if_false]
   exact oS hk k (i+1) h.2
theorem Mm(k:κ)(v:AV):∀{es:List (AV×AV×Nat)}{L:List (κ×AV)}{i j:Nat}{w:AV},es.map xg=L.map (xh enc)→ik k L i=some (j,w)→(jF v es (j-i)).map xg=(fH k v L).map (xh enc)∧(jF v es (j-i)).map (·.2.2)=es.map (·.2.2)
 |[],[],i,j,w,_,hp=>by cases hp
 |[],p::L,i,j,w,h,_=>by simp at h
 |e::es,[],i,j,w,h,_=>by simp at h
 | e::es,(a,u)::L,i,j,w,h,hp=>by
  rw[ao,ao,List.cons.injEq]at h;have e1:e.1=enc a:=congrArg Prod.fst h.1;unfold ik at hp;unfold fH;by_cases q:k=a
  ·rw[if_pos q]at hp
   cases hp;rw[if_pos q,aX];refine⟨?_,rfl⟩;unfold jF;rw[ao,ao,h.2];unfold xg xh;rw[e1]
  ·rw[if_neg q]at hp
   rw[if_neg q];have hle:=FW k hp;obtain⟨j',rfl⟩:∃j',j=i+1+j':=⟨j-(i+1),by omega⟩;have ih:=Mm k v h.2 hp;rw[show i+1+j'-(i+1)=j' by omega]at ih;rw[show i+1+j'-i=j'+1 by omega];unfold jF;rw[ao,ao,ao,ao,ih.1,ih.2,h.1];exact⟨rfl,rfl⟩
theorem Mn(k:κ)(v:AV):∀{L:List (κ×AV)}{i:Nat},ik k L i=none→fH k v L=L++[(k,v)]
 |[],_,_=>rfl
 | (a,w)::L,i,h=>by
  unfold ik at h;unfold fH;by_cases q:k=a
  ·rw[if_pos q]at h;cases h
  ·rw[if_neg q]at h
   rw[if_neg q,Mn k v h];rfl
theorem Mo(hk:Ir P kt enc)(k:κ):∀{es:List (AV×AV×Nat)}{L:List (κ×AV)}{i j:Nat}{w:AV},es.map xg=L.map (xh enc)→ik k L i=some (j,w)→sameAt (enc k) es (j-i)=true∧∃e,es[j-i]? =some e∧e.1=enc k∧e.2.1=w
 |[],[],i,j,w,_,hp=>by cases hp
 |[],p::L,i,j,w,h,_=>by simp at h
 |e::es,[],i,j,w,h,_=>by simp at h
 | e::es,(a,u)::L,i,j,w,h,hp=>by
  rw[ao,ao,List.cons.injEq]at h;have e1:e.1=enc a:=congrArg Prod.fst h.1;have e2:e.2.1=u:=congrArg Prod.snd h.1;unfold ik at hp;by_cases q:k=a
  ·rw[if_pos q]at hp
   cases hp;rw[aX];unfold sameAt;simp only[List.getElem?_cons_zero];rw[e1,←q];exact⟨hk.sm k,e,rfl,by rw[e1,q],e2⟩
  ·rw[if_neg q]at hp
   have hle:=FW k hp;have ih:=Mo hk k h.2 hp;rw[show j-i=(j-(i+1))+1 by omega];unfold sameAt at ih ⊢;rw[List.getElem?_cons_succ];exact ih
theorem QE(k:κ):∀{es:List (AV×AV×Nat)}{L:List (κ×AV)}{i j:Nat}{w:AV},es.map xg=L.map (xh enc)→ik k L i=some (j,w)→(es.eraseIdx (j-i)).map xg=(om k L).map (xh enc)
 |[],[],i,j,w,_,hp=>by cases hp
 |[],p::L,i,j,w,h,_=>by simp at h
 |e::es,[],i,j,w,h,_=>by simp at h
 | e::es,(a,u)::L,i,j,w,h,hp=>by
  rw[ao,ao,List.cons.injEq]at h;unfold ik at hp;unfold om;by_cases q:k=a
  ·rw[if_pos q]at hp
   cases hp;rw[if_pos q,aX];exact h.2
  ·rw[if_neg q]at hp
   rw[if_neg q];have hle:=FW k hp;have ih:=QE k h.2 hp;rw[show j-i=(j-(i+1))+1 by omega,List.eraseIdx_cons_succ,ao,ao,ih,h.1]
theorem QF(k:κ):∀{L:List (κ×AV)}{i:Nat},ik k L i=none→om k L=L
 |[],_,_=>rfl
 | (a,w)::L,i,h=>by
  unfold ik at h;unfold om;by_cases q:k=a
  ·rw[if_pos q]at h;cases h
  ·rw[if_neg q]at h
   rw[if_neg q,QF k h]
theorem fu.get{h h':H}{r:Nat}{L:List (κ×AV)}(hm:fu enc h r L)(hx:h.nx≤h'.nx)(e:h'.t.get r=h.t.get r):fu enc h' r L:=
 ⟨by obtain⟨es,c,h1,h2⟩:=hm.has;exact⟨es,c,by rw[e];exact h1,h2⟩,aA hm.lt hx⟩
theorem fu.bU{h h':H}{r:Nat}{L:List (κ×AV)}(hm:fu enc h r L){S:List Nat}(o:iw h h' S)(hr:r∉S):fu enc h' r L:=hm.get o.1 (o.2 r hm.lt hr)
variable{t elem:TypeId}{h:H}{r:Nat}{L:List (κ×AV)}
theorem vD(ht:P.underlying t=some (.map kt elem))(hk:Ir P kt enc){z:AV}(hz:dv P elem=some z)(hm:fu enc h r L)(k:κ)(ok:Bool):
  lA P t (.map r) (enc k) ok h=some (match ok with|true=>.tuple [(gU k L).getD z,.bool (gU k L).isSome]|false=>(gU k L).getD z):=by
 obtain⟨es,c,h1,h2,h3,h4⟩:=hm.has;unfold lA;simp only[ht,hk.kv k,h1,oS hk k 0 h2,hz];rw[←Ml k L 0];cases ik k L 0 with
 |none=>cases ok<;>rfl
 |some x=>cases ok<;>rfl
theorem BW(ht:P.underlying t=some (.map kt elem))(hk:Ir P kt enc)(hm:fu enc h r L)(k:κ)(v:AV):
  ∃h',lB P t (.map r) (enc k) v h=some h'∧fu enc h' r (fH k v L)∧h'.nx=h.nx∧iw h h' [r]∧h'.g=h.g:=by
 obtain⟨es,c,h1,h2,h3,h4⟩:=hm.has;have fW:=hm.lt;cases hp:ik k L 0 with
 | none=>
  have ho:iw h {h with t:=h.t.set r (some (.map (es++[(enc k,v,c)]) (c+1)))} [r]:=⟨aw _,fun b hb hn=>by
   rw[T.bS,if_neg (fun e=>hn (by rw[e];simp))]⟩
  refine⟨{h with t:=h.t.set r (some (.map (es++[(enc k,v,c)]) (c+1)))},by unfold lB;simp only[ht,hk.kv k,h1,oS hk k 0 h2,hp],⟨⟨es++[(enc k,v,c)],c+1,by rw[T.bS,if_pos rfl],?_,?_,fun e he=>?_⟩,fW⟩,rfl,ho,rfl⟩
  ·rw[Mn k v hp,aB,aB,h2];rfl
  ·rw[aB,List.nodup_append]
   refine⟨h3,by simp,fun a ha b hb=>?_⟩;simp only[ao,List.map_nil,aV]at hb;obtain⟨e,he,rfl⟩:=List.mem_map.1 ha;have:=h4 e he;omega
  ·rcases List.mem_append.1 he with q|q
   ·have:=h4 e q;omega
   ·rw[aV]at q;subst q;exact aP _
 | some x=>
  obtain⟨j,w⟩:=x;have hsa:=(Mo hk k h2 hp).1;obtain⟨s1,s2⟩:=Mm k v h2 hp;rw[aD]at hsa s1 s2;refine⟨{h with t:=h.t.set r (some (.map (jF v es j) c))},by unfold lB;simp only[ht,hk.kv k,h1,oS hk k 0 h2,hp,hsa],⟨⟨jF v es j,c,by rw[T.bS,if_pos rfl],s1,by rw[s2];exact h3,fun e he=>?_⟩,fW⟩,rfl,⟨aw _,fun b hb hn=>by
   rw[T.bS,if_neg (fun e=>hn (by rw[e];simp))]⟩,rfl⟩
  have :e.2.2∈es.map (·.2.2):=by rw[←s2];exact aF he
  obtain⟨e',he',q⟩:=List.mem_map.1 this;rw[←q];exact h4 e' he'
theorem QG(ht:P.underlying t=some (.map kt elem))(hk:Ir P kt enc)(hm:fu enc h r L)(k:κ):
  ∃h',sf P t (.map r) (enc k) h=some h'∧fu enc h' r (om k L)∧h'.nx=h.nx∧iw h h' [r]∧h'.g=h.g:=by
 obtain⟨es,c,h1,h2,h3,h4⟩:=hm.has;have fW:=hm.lt;cases hp:ik k L 0 with
 |none=>
  refine⟨h,by unfold sf;simp only[ht,hk.kv k,h1,oS hk k 0 h2,hp],?_,rfl,⟨aw _,fun _ _ _=>rfl⟩,rfl⟩;rw[QF k hp];exact hm
 | some x=>
  obtain⟨j,w⟩:=x;have s1:=QE k h2 hp;rw[aD]at s1;refine⟨{h with t:=h.t.set r (some (.map (es.eraseIdx j) c))},by unfold sf;simp only[ht,hk.kv k,h1,oS hk k 0 h2,hp],⟨⟨es.eraseIdx j,c,by rw[T.bS,if_pos rfl],s1,?_,fun e he=>h4 e (List.mem_of_mem_eraseIdx he)⟩,fW⟩,rfl,⟨aw _,fun b hb hn=>by
   rw[T.bS,if_neg (fun e=>hn (by rw[e];simp))]⟩,rfl⟩
  exact h3.sublist ((List.eraseIdx_sublist es j).map _)
theorem Is(ht:P.underlying t=some (.map kt elem))(hk:Ir P kt enc)(hm:fu enc h r L)(k:κ)(ts:List TypeId)(xs:List AV):
  ∃h',bQ P .delete (t::ts) (.map r::enc k::xs) h= .val jd h'∧fu enc h' r (om k L)∧h'.nx=h.nx∧iw h h' [r]∧h'.g=h.g:=by
 obtain⟨h',e,q⟩:=QG ht hk hm k;exact⟨h',by simp only[bQ,e],q⟩
theorem FX(h:H)(enc:κ→AV):fu enc (h.alloc (.map [] 0)) h.nx []:=⟨⟨[],0,by unfold H.alloc;rw[T.bS,if_pos rfl],rfl,List.nodup_nil,fun e he=>by cases he⟩,aP _⟩
end
theorem QH{P:Program}{kt:TypeId}(hu:P.underlying kt=some .string):Ir P kt (fun s:List Nat=>.str s)where
 kv k:=by unfold yU;simp only[hu]
 eq a b:=by
  unfold O8 sM;simp only[hu];congr 1;rw[aG,decide_eq_true_iff];exact eK a b
 sm a:=by
  unfold Gy Gx;exact(eK a a).2 rfl
end
end Go.AX
namespace Go.AX
noncomputable section
open Go.RowKit
section
variable{κ:Type}{enc:κ→AV}
structure xi(enc:κ→AV)(h:H)(it r:Nat)(L V R:List (κ×AV)):Prop where
 has:∃es clock seen,mapOf (h.t.get r)=some (es,clock)∧es.map xg=L.map (xh enc)∧(es.map (·.2.2)).Nodup∧(∀e,e∈es→e.2.2<clock)∧h.t.get it=some (.mapIter (some r) clock seen clock)∧
  (es.filter fun e=>iM seen e.2.2).map xg=R.map (xh enc)
 pm:(V++R).Perm L
 lt:it<h.nx
 Wg:r<h.nx
theorem xi.get{h h':H}{it r:Nat}{L V R:List (κ×AV)}(k:xi enc h it r L V R)(hx:h.nx≤h'.nx)(e1:h'.t.get it=h.t.get it)(e2:h'.t.get r=h.t.get r):xi enc h' it r L V R:=
 ⟨by obtain⟨es,c,s,a,b,c',d,e,f⟩:=k.has;exact⟨es,c,s,by rw[e2];exact a,b,c',d,by rw[e1];exact e,f⟩,k.pm,aA k.lt hx,aA k.Wg hx⟩
theorem xi.bU{h h':H}{it r:Nat}{L V R:List (κ×AV)}(k:xi enc h it r L V R){S:List Nat}(o:iw h h' S)(h1:it∉S)(h2:r∉S):xi enc h' it r L V R:=k.get o.1 (o.2 it k.lt h1) (o.2 r k.Wg h2)
structure MapR(enc:κ→AV)(h:H)(r:Nat)(L:List (κ×AV)):Prop where
 has:∃es clock,mapOf (h.t.get r)=some (es,clock)∧es.map xg=L.map (xh enc)∧(es.map (·.2.2)).Nodup∧∀e,e∈es→e.2.2<clock
 lt:r<h.nx
theorem fu.ro[DecidableEq κ]{h:H}{r:Nat}{L:List (κ×AV)}(m:fu enc h r L):MapR enc h r L:=by
 obtain⟨es,c,h1,h2,h3,h4⟩:=m.has;exact⟨⟨es,c,by rw[h1];rfl,h2,h3,h4⟩,m.lt⟩
variable{P:Program}
theorem TV{h:H}{r:Nat}{L:List (κ×AV)}(m:MapR enc h r L){t kt elem:TypeId}(ht:P.underlying t=some (.map kt elem)):
  ∃h',nT P t (.map r) h= .val (.ptr h.nx 0) h'∧xi enc h' h.nx r L [] L∧h'.nx=h.nx+1∧iw h h' []∧h'.g=h.g:=by
 obtain⟨es,c,h1,h2,h3,h4⟩:=m.has;have fW:=m.lt;have ho:iw h (h.alloc (.mapIter (some r) c [] c)) []:=⟨Nat.le_succ _,fun b hb _=>by
  show(h.t.set h.nx _).get b=_;rw[T.bS,if_neg (by omega)]⟩
 refine⟨h.alloc (.mapIter (some r) c [] c),by unfold nT;simp only[ht,h1],⟨⟨es,c,[],by rw[ho.2 r fW (by simp)];exact h1,h2,h3,h4,?_,?_⟩,by simp,aP _,Nat.lt_succ_of_lt fW⟩,rfl,ho,rfl⟩
 ·show(h.t.set h.nx _).get h.nx=_
  rw[T.bS,if_pos rfl]
 ·rw[←h2]
  congr 1;exact List.filter_eq_self.2 fun e _=>rfl
theorem TW{h:H}{r:Nat}{L:List (κ×AV)}[DecidableEq κ](m:fu enc h r L){t kt elem:TypeId}(ht:P.underlying t=some (.map kt elem)):
  ∃h',nT P t (.map r) h= .val (.ptr h.nx 0) h'∧xi enc h' h.nx r L [] L∧h'.nx=h.nx+1∧iw h h' []∧h'.g=h.g:=TV m.ro ht
theorem XM(x b:Nat):aJ x b=decide (x=b):=by
 cases q:aJ x b with
 |true=>have:=aC q;simp[this]
 |false=>have:=Nat.ne_of_beq_eq_false q;simp[this]
theorem N_(s:List Nat)(x b:Nat):iM (s++[b]) x=(iM s x&& !aJ x b):=by
 rw[qU,qU,XM,aG];simp[List.mem_append,not_or]
theorem vE:∀{es:List (AV×AV×Nat)}{e:AV×AV×Nat},e∈es→(es.map (·.2.2)).Nodup→mF e.2.2 es=some (.tuple [e.1,e.2.1])
 |[],e,he,_=>by cases he
 | a ::es,e,he,hn=>by
  rw[ao,List.nodup_cons]at hn;unfold mF;rcases List.mem_cons.1 he with rfl|he
  ·rw[aE]
  ·have :aJ a.2.2 e.2.2=false:=by
    cases q:aJ a.2.2 e.2.2 with
    |false=>rfl
    |true=>
     have:=aC q;exact absurd (by rw[this];exact aF he) hn.1
   rw[this];exact vE he hn.2
theorem BX:∀(l:List Nat)(b:Nat),wJ (l++[b])=some b
 |[],b=>rfl
 |x::l,b=>by
  have ih:=BX l b;cases l with
  |nil=>rfl
  |cons y l=>exact ih
theorem XN{h:H}{it r:Nat}{L V R:List (κ×AV)}(k:xi enc h it r L V R):
  ∃ C,AK (.ptr it 0) h=some C∧∀y,y∈C→(R=[]∧y=(.tuple [.bool false],h))∨
   ∃p R1 R2,R=R1++p::R2∧y.1= .tuple [.bool true,enc p.1,p.2]∧xi enc y.2 it r L (V++[p]) (R1++R2)∧y.2.nx=h.nx∧iw h y.2 [it]∧y.2.g=h.g∧
    ∀h2,h2.t.get it=y.2.t.get it→h2.t.get r=y.2.t.get r→nU (.ptr it 0) h2=some (.tuple [enc p.1,p.2]):=by
 obtain⟨es,clock,seen,h1,h2,h3,h4,h5,h6⟩:=k.has;have dH:r≠it:=by
  intro e;subst e;rw[h5]at h1;cases h1
 have wT:((es.all fun e=>Nat.blt e.2.2 clock)&&Nat.ble clock clock)=true:=by
  rw[aQ];refine⟨List.all_eq_true.2 fun e he=>?_,Nat.ble_self_eq_true _⟩;rw[Nat.blt_eq];exact h4 e he
 obtain⟨F,hF⟩:∃F,F=es.filter fun e=>iM seen e.2.2:=⟨_,rfl⟩;rw[←hF]at h6;cases hc:F with
 | nil=>
  refine⟨[(.tuple [.bool false],h)],?_,fun y hy=>.inl ⟨?_,List.mem_singleton.1 hy⟩⟩
  ·unfold AK
   simp only[h5,h1,wT,←hF,hc]
  ·rw[hc]at h6;exact List.map_eq_nil_iff.1 h6.symm
 | cons u us=>
  refine⟨F.map fun e=>(.tuple [.bool true,e.1,e.2.1],{h with t:=h.t.set it (some (.mapIter (some r) clock (seen++[e.2.2]) clock))}),?_,fun y hy=>.inr ?_⟩
  ·unfold AK
   simp only[h5,h1,wT,←hF,hc]
  ·obtain⟨e,he,rfl⟩:=List.mem_map.1 hy
   obtain⟨F1,F2,XO⟩:=List.append_of_mem he;have hees:e∈es:=by rw[hF]at he;exact(List.mem_filter.1 he).1
   have JW:(F.map (·.2.2)).Nodup:=by rw[hF];exact h3.sublist (List.filter_sublist.map _)
   rw[XO,aB,ao]at h6;obtain⟨R1,R',hR,q1,q2⟩:=List.map_eq_append_iff.1 h6.symm;obtain⟨p,R2,hR',q3,q4⟩:=List.map_eq_cons_iff.1 q2;subst hR';have e1:e.1=enc p.1:=(congrArg Prod.fst q3).symm;have e2:e.2.1=p.2:=(congrArg Prod.snd q3).symm;have ho:iw h {h with t:=h.t.set it (some (.mapIter (some r) clock (seen++[e.2.2]) clock))} [it]:=⟨aw _,fun b _ hn=>by rw[T.bS,if_neg (by simpa using hn)]⟩;have hg1:∀x,mapOf ((h.t.set it (some x)).get r)=some (es,clock):=fun x=>by rw[T.bS,if_neg dH];exact h1
   have hg2:∀x,(h.t.set it (some x)).get it=some x:=fun x=>by rw[T.bS,if_pos rfl]
   have zb:(es.filter fun x=>iM (seen++[e.2.2]) x.2.2)=F1++F2:=by
    have a1:(es.filter fun x=>iM (seen++[e.2.2]) x.2.2)=F.filter fun x=> !aJ x.2.2 e.2.2:=by
     rw[hF,List.filter_filter];congr 1;funext x;rw[N_,Bool.and_comm]
    rw[a1,XO,List.filter_append,List.filter_cons];rw[XO,aB,ao,List.nodup_append,List.nodup_cons]at JW;have b1:F1.filter (fun x=> !aJ x.2.2 e.2.2)=F1:=List.filter_eq_self.2 fun x hx=>by
     have :x.2.2≠e.2.2:=JW.2.2 x.2.2 (aF hx) e.2.2 (by simp);rw[XM];simp[this]
    have b2:F2.filter (fun x=> !aJ x.2.2 e.2.2)=F2:=List.filter_eq_self.2 fun x hx=>by
     have :x.2.2≠e.2.2:=fun q=>JW.2.1.1 (by rw[←q];exact aF hx);rw[XM];simp[this]
    rw[b1,b2,aE];rfl
   refine⟨p,R1,R2,hR,by rw[←e1,←e2],⟨⟨es,clock,seen++[e.2.2],hg1 _,h2,h3,h4,hg2 _,?_⟩,?_,k.lt,k.Wg⟩,rfl,ho,rfl,fun hh g1 g2=>?_⟩
   ·rw[zb,aB,aB,q1,q4]
   ·refine List.Perm.trans ?_ k.pm
    rw[hR,List.append_assoc];refine List.Perm.append_left V ?_;rw[List.singleton_append];exact List.perm_middle.symm
   ·rw[hg2]at g1
    have g2:=(congrArg mapOf g2).trans (hg1 _);unfold nU;simp only[g1,g2,BX,aE,vE hees h3,e1,e2]
variable{nt:Nat}{tm:T AV}{h:H}
theorem XP{ops:Array Oper}{o:Oper}{l:List Oper}{Q:T AV→H→Prop}{t:Tmp}{it r:Nat}{L V R:List (κ×AV)}(hg:o.guard=none)(Ao:o.op= .next (.tmp t) false)(ht:tm.get t=some (.ptr it 0))(k:xi enc h it r L V R)
  (h0:R=[]→tT P nt ops l (m_ nt tm o.dst (.tuple [.bool false])) h Q)
  (h1:∀p R1 R2 h2,R=R1++p::R2→xi enc h2 it r L (V++[p]) (R1++R2)→h2.nx=h.nx→iw h h2 [it]→h2.g=h.g→(∀h3,h3.t.get it=h2.t.get it→h3.t.get r=h2.t.get r→nU (.ptr it 0) h3=some (.tuple [enc p.1,p.2]))→
   tT P nt ops l (m_ nt tm o.dst (.tuple [.bool true,enc p.1,p.2])) h2 Q):LO P nt ops (o::l) tm h Q:=by
 obtain⟨C,hC,wT⟩:=XN k;refine⟨hg,C,?_,fun y hy=>?_⟩
 ·rw[Ao]
  unfold Hq;have :bP tm (.tmp t)=some (.ptr it 0):=by unfold bP;simp only[ht]
  simp only[this];exact hC
 ·rcases wT y hy with⟨a,rfl⟩|⟨p,R1,R2,a,b,c,d,e,f,g⟩
  ·exact h0 a
  ·rw[b];exact h1 p R1 R2 y.2 a c d e f g
theorem QI(t:TypeId)(x:Operand):bF P tm h (.range t x)=ob (bP tm x) fun v=>nT P t v h:=by
 simp only[bF];cases bP tm x<;>rfl
theorem BY(x:Operand):bF P tm h (.entry x)=ob (bP tm x) fun v=>ob (nU v h) fun v=>.val v h:=by
 simp only[bF];cases bP tm x with
 |none=>rfl
 |some v=>show eM h (nU v h)=ob (nU v h) _;cases nU v h<;>rfl
end
structure Wh(p:Prop):Prop where
 go:p
theorem rB{P:Program}{fn nt:Nat}{ro:Option Nat}{c:Code}(rp:List Nat){ds:List Nat}{tm:T AV}{h:H}{Q:KQ}(hw:Wh (bB P fn nt ro (bL c rp) ds tm h Q)):bB P fn nt ro (bL c rp) ds tm h Q:=hw.go
def pk1F(P:Program)(nt:Nat)(ds:List Nat)(tm:T AV)(h:H)(Q:KQ):Code→Prop
 | .region _ ops false=>FT (LO P nt ops ops.toList tm h (Q .norm ds))
 |_=>False
theorem pk1{P:Program}{fn nt:Nat}{ro:Option Nat}{c:Code}{rp:List Nat}{ds:List Nat}{tm:T AV}{h:H}{Q:KQ}(hw:pk1F P nt ds tm h Q (bL c rp)):bB P fn nt ro (bL c rp) ds tm h Q:=by
 cases e:bL c rp with
 |region i ops d=>
  rw[e]at hw;cases d with
  |false=>exact .inr hw.h
  |true=>exact absurd hw id
 |_=>rw[e]at hw;exact absurd hw id
end
end Go.AX
namespace Go.AX
noncomputable section
open Go.RowKit
section
variable{P:Program}
end
end
end Go.AX
namespace Go.AX
noncomputable section
open Go.RowKit
section
variable{P:Program}{h:H}{tm:T AV}
theorem vF(t:TypeId)(x a:Operand):bF P tm h (.slice t x (some a) none none)=ob (bP tm x) fun v=>ob (bP tm a) fun l=>ob (dF P t v (some l) none none) fun v=>.val v h:=by
 simp only[bF,kI];cases bP tm x with
 |none=>cases bP tm a<;>rfl
 |some v=>
  cases bP tm a with
  |none=>rfl
  |some l=>simp only[ob];cases dF P t v (some l) none none<;>rfl
theorem vG(t:TypeId)(x a:Operand):bF P tm h (.slice t x none (some a) none)=ob (bP tm x) fun v=>ob (bP tm a) fun l=>ob (dF P t v none (some l) none) fun v=>.val v h:=by
 simp only[bF,kI];cases bP tm x with
 |none=>cases bP tm a<;>rfl
 |some v=>
  cases bP tm a with
  |none=>rfl
  |some l=>simp only[ob];cases dF P t v none (some l) none<;>rfl
theorem tE{a b:Nat}(h:a≤b):Nat.ble a b=true:=by rw[Nat.ble_eq];exact h
theorem QJ{a b:Nat}(h:b<a):Nat.ble a b=false:=by rw[←Bool.not_eq_true,Nat.ble_eq];omega
theorem QK{a b:Nat}(h:a≠b):aJ a b=false:=by
 cases q:aJ a b with
 |false=>rfl
 |true=>exact absurd (aC q) h
theorem FY{t e:TypeId}{size:Nat}(hu:P.underlying t=some (.slice e))(eH:eQ P e=true)(mH:P.cellsOf e=size)(b o len i l:Nat)(kd:IntKind)(hl:l<len):
  dF P t (.slice b o len (.iK i)) (some (.int kd (.ofNat l))) none none=some (.slice b (o+l*size) (len-l) (.iK (i+l))):=by
 simp only[dF,hu,eH,jz,j0,CA,tE (show l≤len by omega),mH];by_cases q:l=0
 ·subst q;rw[aE];simp
 ·rw[QK q,tE (show l+1≤len by omega)]
def Oa(h:H)(b m size ty:Nat)(cs:List AV):Prop:=b<h.nx∧∃t,h.t.get b=some (.cells m t ⟨size,ty⟩ false)∧∀j,j<cs.length→t.get j=cs[j]?
theorem Oa.row{b m size ty:Nat}{cs:List AV}(hr:Oa h b m size ty cs){o n:Nat}(hn:o+n≤cs.length)(h0:0<n):h.row b o n=some ((cs.drop o).take n):=by
 obtain⟨-,t,hg,ht⟩:=hr;have hl:((cs.drop o).take n).length=n:=by rw[List.length_take,aH];omega
 have dH:(cs.drop o).take n≠[]:=fun e=>by rw[e]at hl;simp at hl;omega
 have:=gK (h:=h) (b:=b) (o:=o) (cs:=(cs.drop o).take n) (fun i hi=>by
  unfold cellAt;rw[hg];simp only;rw[ht _ (by omega),List.getElem?_take,if_pos (by omega),List.getElem?_drop]) dH
 rwa[hl]at this
theorem Ob{elem:TypeId}{size b o n q c:Nat}{old new:List AV}{K:AV→H→Prop}(hq:c<n+q)(hl:new.length=q*size)(hs:n+q≤4194304)(hr:h.row b o (n*size)=some old)
  (hk:K (.slice h.nx 0 (n+q) (.iK 0)) (h.grown none ⟨size,elem+1⟩ (old++new))):jf P (du elem size (.slice b o n (.exact c)) q new h) K:=by
 have e1:aJ (kQ new) (q*size)=true:=by rw[dY,hl,aE]
 have e2:small (n+q)=true:=by unfold small;exact tE hs
 have :du elem size (.slice b o n (.exact c)) q new h= .val (.slice h.nx 0 (n+q) (.iK 0)) (h.grown none ⟨size,elem+1⟩ (old++new)):=by
  unfold du;simp only[e1,QJ hq,e2,hr]
 rw[this];exact hk
theorem KE{k:EK}{l:List AV}(b:Nat):(h.grown none k l).t.get b=if b=h.nx then some (.cells l.length (T.ofRow l) k false)else h.t.get b:=by
 by_cases q:b=h.nx
 ·subst q;rw[if_pos rfl,iS]
 ·rw[if_neg q];unfold H.grown;simp only[T.bS];rw[if_neg q]
theorem t_{k:EK}{l:List AV}:iw h (h.grown none k l) []:=⟨by rw[sE];omega,fun b hb _=>by rw[KE,if_neg (by omega)]⟩
end
end
end Go.AX
namespace Go.AX
noncomputable section
open Go.RowKit
section
variable{P:Program}{size:Nat}
theorem It{h:H}{t u e:TypeId}{info:TypeInfo}{u':TypeDesc}(hu:P.underlying t=some (.slice e))(Ih:P.underlying u=some u')(hn:∀k,u'≠.int k)(hi:P.info? e=some info)(hk:lJ P e info=true)
  (s:AV)(ts:List TypeId)(xs:List AV):bQ P .append (t::u::ts) (s:: .dq::xs) h=du e info.size s 0 [] h:=by
 cases u' with
 |int k=>exact absurd rfl (hn k)
 |_=>simp only[bQ,hu,Ih,lz,hi,hZ,hk,qm]
theorem xj{h:H}{e size base:Nat}{l0:AV}{n0:Nat}{cs0:List AV}(hg:bK size base h l0 n0 cs0):du e size l0 0 [] h= .val l0 h:=by
 unfold du;rw[aY];cases hg with
 |none=>rfl
 |cell=>rfl
theorem put_g{h h':H}{b o:Nat}{l:List AV}(e:h.put b o l=some h'):h'.g=h.g:=by
 unfold H.put at e;repeat' (split at e)
 all_goals(first|(cases e;done)|(cases e;rfl))
theorem Oc{e size n:Nat}{s:AV}{new:List AV}{h h':H}{v:AV}(hx:du e size s n new h= .val v h'):h'.g=h.g:=by
 unfold du at hx;repeat' (split at hx)
 all_goals(first|(cases hx;done)|(cases hx;rfl)|(rename_i hp;cases hx;exact put_g hp))
theorem bK.wk{size a b:Nat}{h:H}{v:AV}{n:Nat}{cs:List AV}(hg:bK size b h v n cs)(NB:a≤b):bK size a h v n cs:=by
 cases hg with
 |none=>exact .none
 |cell c n cs t ty h1 h2 h3 h4 h5=>exact .cell c n cs t ty (aK NB h1) h2 h3 h4 h5
theorem dz{elem:TypeId}{size base:Nat}{h:H}{v:AV}{n m:Nat}{cs new:List AV}{K:AV→H→Prop}(hg:bK size base h v n cs)(hb:base≤h.nx)(hm:0<m)(hs:0<size)(hl:new.length=m*size)(s_:n+m≤4194304)
  (hk:∀v' h',bK size base h' v' (n+m) (cs++new)→h'.nx=h.nx+1→(∀b,b<h.nx→bA v≠some b→h'.t.get b=h.t.get b)→bA v'=some h.nx→h'.g=h.g→K v' h'):jf P (du elem size v m new h) K:=by
 obtain⟨v',h',e,a,b,c,d⟩:=CX (elem:=elem) hg hb hm hs hl s_;have g:=Oc e;rw[e];exact hk v' h' a b c d g
@[reducible] def BZ(size base:Nat)(h:H)(l0:AV)(n:Nat)(cs:List AV)(K:AV→H→Prop):Prop:=
 ∀v' h',bK size base h' v' n cs→h.nx≤h'.nx→(∀b,b<h.nx→bA l0≠some b→h'.t.get b=h.t.get b)→(∀b,bA v'=some b→bA l0=some b∨h.nx≤b)→h'.g=h.g→K v' h'
theorem rC{t e:TypeId}(hu:P.underlying t=some (.slice e))(hi:lf P e size=true){base:Nat}{h:H}{l0:AV}{n0:Nat}{cs0:List AV}(hg:bK size base h l0 n0 cs0){v2:AV}(hv:v2= .bh∨v2= .dq){K:AV→H→Prop}(hk:BZ size base h l0 n0 cs0 K):
  jf P (bQ P .append [t,t] [l0,v2] h) K:=by
 unfold lf at hi;split at hi
 ·rename_i info Ew
  rw[aQ]at hi;have e2:=aC hi.2;have :bQ P .append [t,t] [l0,v2] h= .val l0 h:=by
   rcases hv with rfl|rfl
   ·rw[CY hu hu (fun k h=>by cases h) Ew hi.1,e2];exact xj hg
   ·rw[It hu hu (fun k h=>by cases h) Ew hi.1,e2];exact xj hg
  rw[this];exact hk l0 h hg (aw _) (fun _ _ _=>rfl) (fun _ e=>.inl e) rfl
 ·cases hi
theorem vH(sq:0<size){t e:TypeId}(hu:P.underlying t=some (.slice e))(hi:lf P e size=true){base:Nat}{h:H}{l0:AV}{n0:Nat}{cs0:List AV}(hg:bK size base h l0 n0 cs0)(hb:base≤h.nx){b o k:Nat}{c:ur}{new:List AV}(hr:h.row b o (k*size)=some new)(hl:new.length=k*size)(SZ:0<k)(s_:n0+k≤4194304)
  {K:AV→H→Prop}(hk:BZ size base h l0 (n0+k) (cs0++new) K):jf P (bQ P .append [t,t] [l0,.slice b o k c] h) K:=by
 rw[fG hu hu (fun k h=>by cases h) hi,hr];exact dz hg hb SZ sq hl s_ fun v' h' g x old bl gg=>hk v' h' g (by omega) old (fun b e=>by rw[bl]at e;cases e;exact .inr (aw _)) gg
theorem vI{t e:TypeId}(hu:P.underlying t=some (.slice e))(hi:lf P e size=true){base:Nat}{h:H}{l0:AV}{n0:Nat}{cs0:List AV}(hg:bK size base h l0 n0 cs0){b o:Nat}{c:ur}(hr:h.row b o 0=some [])
  {K:AV→H→Prop}(hk:BZ size base h l0 n0 cs0 K):jf P (bQ P .append [t,t] [l0,.slice b o 0 c] h) K:=by
 rw[fG hu hu (fun k h=>by cases h) hi,aY,hr];show jf P (du e size l0 0 [] h) K;rw[xj hg];exact hk l0 h hg (aw _) (fun _ _ _=>rfl) (fun _ e=>.inl e) rfl
theorem oT{base:Nat}{h:H}{b n:Nat}{cs:List AV}{t:T AV}{ty:Nat}(h2:b<h.nx)(h4:h.t.get b=some (.cells (n*size) t ⟨size,ty⟩ false))(h5:∀j,t.get j=cs[j]?):Oa h b (n*size) size ty cs:=⟨h2,t,h4,fun j _=>h5 j⟩
theorem rD{h:H}{b m sz ty:Nat}{cs:List AV}(hr:Oa h b m sz ty cs)(o:Nat):h.row b o 0=some []:=by
 obtain⟨-,t,hg,-⟩:=hr;unfold H.row;rw[hg];simp only[ie];rfl
theorem appHi(sq:0<size){t e:TypeId}(hu:P.underlying t=some (.slice e))(eH:eQ P e=true)(mH:P.cellsOf e=size)(hi:lf P e size=true){b2:Nat}{h:H}{s:AV}{n:Nat}{cs:List AV}(hs:bK size b2 h s n cs){i:Nat}(tI:i≤n)(hn:n≤1000000):
  ∃v2,dF P t s none (some (.int .i64 (.ofNat i))) none=some v2∧v2.one=true∧∀base l0 n0 cs0,bK size base h l0 n0 cs0→base≤h.nx→n0≤1000000→∀K,BZ size base h l0 (n0+i) (cs0++cs.take (i*size)) K→jf P (bQ P .append [t,t] [l0,v2] h) K:=by
 cases hs with
 |none=>
  obtain rfl:i=0:=by omega
  refine⟨.bh,?_,rfl,fun base l0 n0 cs0 hg hb hz K hk=>rC hu hi hg (.inl rfl) (by simpa using hk)⟩;simp only[dF,hu,eH];rfl
 | cell b n cs t' ty h1 h2 h3 h4 h5=>
  have hr:=oT (base:=b2) h2 h4 h5;refine⟨.slice b 0 i (.iK 0),?_,rfl,fun base l0 n0 cs0 hg hb hz K hk=>?_⟩
  ·simp only[dF,hu,eH,jz,j0,CA,tE tI,aE]
  ·rcases aM i with rfl|q
   ·exact vI hu hi hg (rD hr 0) (by simpa using hk)
   ·have m1:i*size≤n*size:=Nat.mul_le_mul_right size tI
    have m2:0<i*size:=aZ q sq;exact vH sq hu hi hg hb (hr.row (by omega) m2) (by rw[List.length_take,aH];omega) q (by omega) (by simpa using hk)
theorem appLo(sq:0<size){t e:TypeId}(hu:P.underlying t=some (.slice e))(eH:eQ P e=true)(mH:P.cellsOf e=size)(hi:lf P e size=true){b2:Nat}{h:H}{s:AV}{n:Nat}{cs:List AV}(hs:bK size b2 h s n cs){i:Nat}(tI:i≤n)(hn:n≤1000000):
  ∃v2,dF P t s (some (.int .i64 (.ofNat i))) none none=some v2∧v2.one=true∧∀h',(∀b,bA s=some b→h'.t.get b=h.t.get b)→h.nx≤h'.nx→∀base l0 n0 cs0,bK size base h' l0 n0 cs0→base≤h'.nx→n0≤1000000→∀K,BZ size base h' l0 (n0+(n-i)) (cs0++cs.drop (i*size)) K→jf P (bQ P .append [t,t] [l0,v2] h') K:=by
 cases hs with
 |none=>
  obtain rfl:i=0:=by omega
  refine⟨.bh,?_,rfl,fun h' _ _ base l0 n0 cs0 hg hb hz K hk=>rC hu hi hg (.inl rfl) (by simpa using hk)⟩;simp only[dF,hu,eH];rfl
 | cell b n cs t' ty h1 h2 h3 h4 h5=>
  rcases Nat.lt_or_ge i n with q|q
  ·refine⟨.slice b (0+i*size) (n-i) (.iK (0+i)),?_,rfl,fun h' hk1 Jv base l0 n0 cs0 hg hb hz K hk=>?_⟩
   ·exact FY hu eH mH b 0 n 0 i .i64 q
   ·have hr:Oa h' b (n*size) size ty cs:=⟨by omega,t',by rw[hk1 b rfl];exact h4,fun j _=>h5 j⟩
    have m1:(n-i)*size=n*size-i*size:=Nat.sub_mul n i size;have m2:0<(n-i)*size:=aZ (by omega) sq;have e2:List.take ((n-i)*size) (List.drop (0+i*size) cs)=cs.drop (i*size):=by rw[aL,aR (by rw[aH];omega)]
    have eZ:=hr.row (o:=0+i*size) (n:=(n-i)*size) (by omega) (by omega);rw[e2]at eZ;exact vH sq hu hi hg hb eZ (by rw[aH];omega) (by omega) (by omega) hk
  ·obtain rfl:i=n:=by omega
   have e2:cs.drop (i*size)=[]:=List.drop_eq_nil_of_le (by omega);rw[e2];rcases aM i with rfl|q0
   ·refine⟨.slice b 0 0 (.iK 0),?_,rfl,fun h' hk1 Jv base l0 n0 cs0 hg hb hz K hk=>?_⟩
    ·simp only[dF,hu,eH,jz,j0,CA,tE (aw 0),aE]
    ·have hr:Oa h' b (0*size) size ty cs:=⟨by omega,t',by rw[hk1 b rfl];exact h4,fun j _=>h5 j⟩
     exact vI hu hi hg (rD hr 0) (by simpa using hk)
   ·refine⟨.dq,?_,rfl,fun h' hk1 Jv base l0 n0 cs0 hg hb hz K hk=>rC hu hi hg (.inr rfl) (by simpa using hk)⟩
    simp only[dF,hu,eH,jz,j0,CA,tE (aw i),QK (show i≠0 by omega),QJ (show i<i+1 by omega)]
theorem FZ(sq:0<size){t e:TypeId}(hu:P.underlying t=some (.slice e))(hi:lf P e size=true){base b2:Nat}{h:H}{l0 s:AV}{n0 n:Nat}{cs0 cs:List AV}(hg:bK size base h l0 n0 cs0)(hs:bK size b2 h s n cs)(hb:base≤h.nx)(hz:n0+n≤4194304)
  {K:AV→H→Prop}(hk:BZ size base h l0 (n0+n) (cs0++cs) K):jf P (bQ P .append [t,t] [l0,s] h) K:=by
 cases hs with
 |none=>exact rC hu hi hg (.inl rfl) (by simpa using hk)
 | cell b n cs t' ty h1 h2 h3 h4 h5=>
  have hr:=oT (base:=b2) h2 h4 h5;rcases aM n with rfl|q
  ·have :cs=[]:=List.length_eq_zero_iff.1 (by simpa using h3)
   subst this;exact vI hu hi hg (rD hr 0) (by simpa using hk)
  ·have m2:0<n*size:=aZ q sq
   have eZ:=hr.row (o:=0) (n:=n*size) (by omega) m2;rw[List.drop_zero,aR (by omega)]at eZ;exact vH sq hu hi hg hb eZ (by omega) q (by omega) hk
theorem bK.wr{base:Nat}{h:H}{b n:Nat}{cap:ur}{cs:List AV}(hg:bK size base h (.slice b 0 n cap) n cs):cj h b=true:=by
 cases hg with
 |cell b n cs t' ty h1 h2 h3 h4 h5=>unfold cj;rw[h4]
theorem bK.at_{base:Nat}{h:H}{b n:Nat}{cap:ur}{cs:List AV}(hg:bK size base h (.slice b 0 n cap) n cs)(j:Nat):cellAt h b j=cs[j]? :=by
 cases hg with
 |cell b n cs t' ty h1 h2 h3 h4 h5=>unfold cellAt;rw[h4];exact h5 j
end
end
end Go.AX
namespace Go.AX
noncomputable section
open Go.RowKit
end
end Go.AX
namespace Go.Proofs.YtnedigoajoflaaaGreat.M
open Go Go.AX
noncomputable section
set_option maxRecDepth 100000
noncomputable abbrev P:Program:=Tryz.prog
def cf4{h}:=@bz P h 4 (by kernel_rfl)
def cf5{h}:=@bz P h 5 (by kernel_rfl)
theorem u24:P.underlying 24=some (.pointer 62):=by kernel_rfl
def eq24{h x y}:=@LZ P h _ _ x y u24
theorem u22:P.underlying 22=some (.slice 38):=by kernel_rfl
def ia22:=@dG P 22 38 8 (by kernel_rfl) (by kernel_rfl) (by kernel_rfl)
theorem ok38:eQ P 38=true:=by kernel_rfl
theorem ld38(h:H)(b o:Nat):dJ P h 38 b o=xd (ke [cellAt h b o,cellAt h b (o+1),cellAt h b (o+2),cellAt h b (o+3),cellAt h b (o+4),cellAt h b (o+5),cellAt h b (o+6),cellAt h b (o+7)]):=oh (k:=7) (by kernel_rfl) (by kernel_rfl) b o
def cf7{h}:=@bz P h 7 (by kernel_rfl)
def cf6{h}:=@bz P h 6 (by kernel_rfl)
def cf8{h}:=@bz P h 8 (by kernel_rfl)
def ia23:=@dG P 23 43 11 (by kernel_rfl) (by kernel_rfl) (by kernel_rfl)
theorem ok43:eQ P 43=true:=by kernel_rfl
theorem ld43(h:H)(b o:Nat):dJ P h 43 b o=xd (ke [cellAt h b o,cellAt h b (o+1),cellAt h b (o+2),cellAt h b (o+3),cellAt h b (o+4),cellAt h b (o+5),cellAt h b (o+6),cellAt h b (o+7),cellAt h b (o+8),cellAt h b (o+9),cellAt h b (o+10)]):=oh (k:=10) (by kernel_rfl) (by kernel_rfl) b o
theorem z43:dv P 43=some (.agg [(.int .i64 (.ofNat 0)),(.str []),(.str []),(.str []),(.int .u64 (.ofNat 0)),(.int .i64 (.ofNat 0)),(.bool false),(.bool false),(.bool false),(.int .u64 (.ofNat 0)),(.int .u64 (.ofNat 0))]):=by kernel_rfl
def st43{h}:=@ff P h 43 11 (by kernel_rfl)
theorem XQ(b o:Nat):bO P 43 (.ptr b o) 0=some (.ptr b o):=by kernel_rfl
theorem ok41:eQ P 41=true:=by kernel_rfl
theorem ld41(h:H)(b o:Nat):dJ P h 41 b o=xd (ke [cellAt h b o,cellAt h b (o+1),cellAt h b (o+2),cellAt h b (o+3),cellAt h b (o+4),cellAt h b (o+5),cellAt h b (o+6),cellAt h b (o+7),cellAt h b (o+8)]):=oh (k:=8) (by kernel_rfl) (by kernel_rfl) b o
theorem QL(dO kh rE rF rG Iu Iv Iw QM:AV):iF P 36 1 [(0,[dO,kh,rE,rF,rG,Iu,Iv,Iw,QM])]=some (41,[dO,kh,rE,rF,rG,Iu,Iv,Iw,QM]):=by kernel_rfl
def cf9{h}:=@bz P h 9 (by kernel_rfl)
theorem u36:P.underlying 36=some (.slice 41):=by kernel_rfl
def ia36:=@dG P 36 41 9 (by kernel_rfl) (by kernel_rfl) (by kernel_rfl)
theorem z41:dv P 41=some (.agg [(.int .i64 (.ofNat 0)),(.str []),(.str []),(.str []),(.int .u64 (.ofNat 0)),(.int .i64 (.ofNat 0)),(.bool false),(.bool false),(.bool false)]):=by kernel_rfl
def st41{h}:=@ff P h 41 9 (by kernel_rfl)
theorem XR(b o:Nat):bO P 43 (.ptr b o) 1=some (.ptr b (o+9)):=by kernel_rfl
theorem ok29:eQ P 29=true:=by kernel_rfl
theorem ld29(h:H)(b o:Nat):dJ P h 29 b o=cellAt h b o:=c_ (by kernel_rfl) h b o
theorem XS(b o:Nat):bO P 43 (.ptr b o) 2=some (.ptr b (o+10)):=by kernel_rfl
def cf10{h}:=@bz P h 10 (by kernel_rfl)
theorem z47:dv P 47=some (.agg [.bh,(.bool false),(.int .i64 (.ofNat 0)),(.int .i64 (.ofNat 0)),.bh]):=by kernel_rfl
theorem ok47:eQ P 47=true:=by kernel_rfl
def st47{h}:=@ff P h 47 5 (by kernel_rfl)
def cf11{h}:=@bz P h 11 (by kernel_rfl)
theorem ld47(h:H)(b o:Nat):dJ P h 47 b o=xd (ke [cellAt h b o,cellAt h b (o+1),cellAt h b (o+2),cellAt h b (o+3),cellAt h b (o+4)]):=oh (k:=4) (by kernel_rfl) (by kernel_rfl) b o
def cf12{h}:=@bz P h 12 (by kernel_rfl)
def cf14{h}:=@bz P h 14 (by kernel_rfl)
def cf15{h}:=@bz P h 15 (by kernel_rfl)
def cf13{h}:=@bz P h 13 (by kernel_rfl)
def cf16{h}:=@bz P h 16 (by kernel_rfl)
def cf17{h}:=@bz P h 17 (by kernel_rfl)
theorem u31:P.underlying 31=some (.int .u32):=by kernel_rfl
theorem XT(b o:Nat):bO P 41 (.ptr b o) 1=some (.ptr b (o+1)):=by kernel_rfl
theorem ok9:eQ P 9=true:=by kernel_rfl
theorem ld9(h:H)(b o:Nat):dJ P h 9 b o=cellAt h b o:=c_ (by kernel_rfl) h b o
theorem XU(b o:Nat):bO P 41 (.ptr b o) 2=some (.ptr b (o+2)):=by kernel_rfl
def cf19{h}:=@bz P h 19 (by kernel_rfl)
def cf20{h}:=@bz P h 20 (by kernel_rfl)
def cf18{h}:=@bz P h 18 (by kernel_rfl)
def cf21{h}:=@bz P h 21 (by kernel_rfl)
def cf22{h}:=@bz P h 22 (by kernel_rfl)
theorem XV(iy:AV):gm P 62 [(1,[iy])]=some (.agg [.bh,iy,(.int .u64 (.ofNat 0))]):=by kernel_rfl
def cf23{h}:=@bz P h 23 (by kernel_rfl)
theorem XW(dO:AV):gm P 66 [(0,[dO])]=some (.agg [dO]):=by kernel_rfl
theorem ok33:eQ P 33=true:=by kernel_rfl
theorem ld33(h:H)(b o:Nat):dJ P h 33 b o=xd (ke [cellAt h b o,cellAt h b (o+1),cellAt h b (o+2),cellAt h b (o+3),cellAt h b (o+4),cellAt h b (o+5),cellAt h b (o+6),cellAt h b (o+7),cellAt h b (o+8)]):=oh (k:=8) (by kernel_rfl) (by kernel_rfl) b o
theorem z33:dv P 33=some (.agg [(.int .i64 (.ofNat 0)),(.int .u64 (.ofNat 0)),(.int .u64 (.ofNat 0)),(.bool false),.bh,(.int .u32 (.ofNat 0)),(.int .u64 (.ofNat 0)),(.int .u64 (.ofNat 0)),(.int .i64 (.ofNat 0))]):=by kernel_rfl
def st33{h}:=@ff P h 33 9 (by kernel_rfl)
theorem XX(b o:Nat):bO P 38 (.ptr b o) 0=some (.ptr b o):=by kernel_rfl
theorem ok3:eQ P 3=true:=by kernel_rfl
theorem ld3(h:H)(b o:Nat):dJ P h 3 b o=cellAt h b o:=c_ (by kernel_rfl) h b o
theorem u3:P.underlying 3=some (.int .i64):=by kernel_rfl
def cf24{h}:=@bz P h 24 (by kernel_rfl)
def cf25{h}:=@bz P h 25 (by kernel_rfl)
theorem XY(b o:Nat):bO P 33 (.ptr b o) 0=some (.ptr b o):=by kernel_rfl
theorem ok28:eQ P 28=true:=by kernel_rfl
theorem st28(h:H)(v:AV)(hv:v.cells=[v])(b o:Nat):eT P h 28 b o v=h.put b o [v]:=dx (by kernel_rfl) hv b o
theorem XZ(b o:Nat):bO P 62 (.ptr b o) 1=some (.ptr b (o+1)):=by kernel_rfl
theorem X9(b o:Nat):bO P 62 (.ptr b o) 2=some (.ptr b (o+2)):=by kernel_rfl
theorem X_(b o:Nat):bO P 33 (.ptr b o) 1=some (.ptr b (o+1)):=by kernel_rfl
theorem st29(h:H)(v:AV)(hv:v.cells=[v])(b o:Nat):eT P h 29 b o v=h.put b o [v]:=dx (by kernel_rfl) hv b o
theorem Ya(b o:Nat):bO P 33 (.ptr b o) 2=some (.ptr b (o+2)):=by kernel_rfl
theorem z38:dv P 38=some (.agg [(.int .i64 (.ofNat 0)),(.int .u64 (.ofNat 0)),(.int .u64 (.ofNat 0)),(.bool false),.bh,.bh,.bh,(.int .u64 (.ofNat 0))]):=by kernel_rfl
theorem Yb(b o:Nat):bO P 38 (.ptr b o) 4=some (.ptr b (o+4)):=by kernel_rfl
theorem ok35:eQ P 35=true:=by kernel_rfl
theorem ld35(h:H)(b o:Nat):dJ P h 35 b o=cellAt h b o:=c_ (by kernel_rfl) h b o
theorem u35:P.underlying 35=some (.slice 68):=by kernel_rfl
def ia35:=@dG P 35 68 5 (by kernel_rfl) (by kernel_rfl) (by kernel_rfl)
theorem ok68:eQ P 68=true:=by kernel_rfl
theorem ld68(h:H)(b o:Nat):dJ P h 68 b o=xd (ke [cellAt h b o,cellAt h b (o+1),cellAt h b (o+2),cellAt h b (o+3),cellAt h b (o+4)]):=oh (k:=4) (by kernel_rfl) (by kernel_rfl) b o
theorem z68:dv P 68=some (.agg [(.str []),(.int .i64 (.ofNat 0)),(.int .i64 (.ofNat 0)),(.int .u64 (.ofNat 0)),(.str [])]):=by kernel_rfl
def st68{h}:=@ff P h 68 5 (by kernel_rfl)
theorem Yc(b o:Nat):bO P 68 (.ptr b o) 0=some (.ptr b o):=by kernel_rfl
theorem u9:P.underlying 9=some (.string):=by kernel_rfl
theorem ln9(h:H)(s:List Nat)(ts:List TypeId)(xs:List AV):bQ P .len (9::ts) (.str s::xs) h= .val (.int .i64 (.ofNat s.length)) h:=KB u9 s ts xs
theorem st9(h:H)(v:AV)(hv:v.cells=[v])(b o:Nat):eT P h 9 b o v=h.put b o [v]:=dx (by kernel_rfl) hv b o
theorem Yd(b o:Nat):bO P 68 (.ptr b o) 4=some (.ptr b (o+4)):=by kernel_rfl
theorem QN(dO kh rE rF rG:AV):iF P 35 1 [(0,[dO,kh,rE,rF,rG])]=some (68,[dO,kh,rE,rF,rG]):=by kernel_rfl
def TY{h}:=@fG P h _ _ _ _ 5 u35 u35 (fun _ q=>nomatch q) (by kernel_rfl)
theorem st35(h:H)(v:AV)(hv:v.cells=[v])(b o:Nat):eT P h 35 b o v=h.put b o [v]:=dx (by kernel_rfl) hv b o
theorem Ye(b o:Nat):bO P 38 (.ptr b o) 5=some (.ptr b (o+5)):=by kernel_rfl
theorem ok36:eQ P 36=true:=by kernel_rfl
theorem ld36(h:H)(b o:Nat):dJ P h 36 b o=cellAt h b o:=c_ (by kernel_rfl) h b o
theorem st36(h:H)(v:AV)(hv:v.cells=[v])(b o:Nat):eT P h 36 b o v=h.put b o [v]:=dx (by kernel_rfl) hv b o
theorem Yf(b o:Nat):bO P 38 (.ptr b o) 6=some (.ptr b (o+6)):=by kernel_rfl
def st38{h}:=@ff P h 38 8 (by kernel_rfl)
theorem Yg(b o:Nat):bO P 66 (.ptr b o) 0=some (.ptr b o):=by kernel_rfl
theorem ok63:eQ P 63=true:=by kernel_rfl
theorem ld63(h:H)(b o:Nat):dJ P h 63 b o=cellAt h b o:=c_ (by kernel_rfl) h b o
def cf26{h}:=@bz P h 26 (by kernel_rfl)
def cf27{h}:=@bz P h 27 (by kernel_rfl)
theorem Yi(b o:Nat):bO P 38 (.ptr b o) 7=some (.ptr b (o+7)):=by kernel_rfl
def cf28{h}:=@bz P h 28 (by kernel_rfl)
theorem Yj(b o:Nat):bO P 73 (.ptr b o) 1=some (.ptr b (o+1)):=by kernel_rfl
theorem Yk(b o:Nat):bO P 73 (.ptr b o) 2=some (.ptr b (o+2)):=by kernel_rfl
theorem KF(dO iy lR:AV):gm P 33 [(0,[dO]),(1,[iy]),(2,[lR])]=some (.agg [dO,iy,lR,(.bool false),.bh,(.int .u32 (.ofNat 0)),(.int .u64 (.ofNat 0)),(.int .u64 (.ofNat 0)),(.int .i64 (.ofNat 0))]):=by kernel_rfl
theorem Yl(b o:Nat):bO P 41 (.ptr b o) 3=some (.ptr b (o+3)):=by kernel_rfl
def TZ{h}:=@fG P h _ _ _ _ 9 u36 u36 (fun _ q=>nomatch q) (by kernel_rfl)
theorem bc47_:gm P 47 []=some (.agg [.bh,(.bool false),(.int .i64 (.ofNat 0)),(.int .i64 (.ofNat 0)),.bh]):=by kernel_rfl
theorem Ym(b o:Nat):bO P 41 (.ptr b o) 0=some (.ptr b o):=by kernel_rfl
theorem Yn(p5_0:AV):gm P 38 [(5,[p5_0])]=some (.agg [(.int .i64 (.ofNat 0)),(.int .u64 (.ofNat 0)),(.int .u64 (.ofNat 0)),(.bool false),.bh,p5_0,.bh,(.int .u64 (.ofNat 0))]):=by kernel_rfl
def cf29{h}:=@bz P h 29 (by kernel_rfl)
def cf30{h}:=@bz P h 30 (by kernel_rfl)
theorem Yo(b o:Nat):bO P 41 (.ptr b o) 4=some (.ptr b (o+4)):=by kernel_rfl
def cf32{h}:=@bz P h 32 (by kernel_rfl)
def cf33{h}:=@bz P h 33 (by kernel_rfl)
def cf31{h}:=@bz P h 31 (by kernel_rfl)
def cf34{h}:=@bz P h 34 (by kernel_rfl)
theorem Yp(b o:Nat):bO P 73 (.ptr b o) 0=some (.ptr b o):=by kernel_rfl
theorem ok60:eQ P 60=true:=by kernel_rfl
theorem ld60(h:H)(b o:Nat):dJ P h 60 b o=cellAt h b o:=c_ (by kernel_rfl) h b o
def cf36{h}:=@bz P h 36 (by kernel_rfl)
def cf35{h}:=@bz P h 35 (by kernel_rfl)
theorem Yq(b o:Nat):bO P 47 (.ptr b o) 1=some (.ptr b (o+1)):=by kernel_rfl
theorem ok4:eQ P 4=true:=by kernel_rfl
theorem ld4(h:H)(b o:Nat):dJ P h 4 b o=cellAt h b o:=c_ (by kernel_rfl) h b o
theorem u4:P.underlying 4=some (.bool):=by kernel_rfl
theorem eq4(h:H)(x y:Operand)(a b:Bool):ed P h .eql 4 x y (.bool a) (.bool b)= .val (.bool (a==b)) h:=XH u4 a b
theorem Yr(b o:Nat):bO P 47 (.ptr b o) 2=some (.ptr b (o+2)):=by kernel_rfl
theorem Ys(b o:Nat):bO P 47 (.ptr b o) 3=some (.ptr b (o+3)):=by kernel_rfl
theorem Yt(b o:Nat):bO P 47 (.ptr b o) 0=some (.ptr b o):=by kernel_rfl
theorem ok45:eQ P 45=true:=by kernel_rfl
theorem ld45(h:H)(b o:Nat):dJ P h 45 b o=cellAt h b o:=c_ (by kernel_rfl) h b o
theorem Yu(b o:Nat):bO P 47 (.ptr b o) 4=some (.ptr b (o+4)):=by kernel_rfl
theorem u45:P.underlying 45=some (.slice 83):=by kernel_rfl
def ia45:=@dG P 45 83 5 (by kernel_rfl) (by kernel_rfl) (by kernel_rfl)
theorem ok83:eQ P 83=true:=by kernel_rfl
theorem ld83(h:H)(b o:Nat):dJ P h 83 b o=xd (ke [cellAt h b o,cellAt h b (o+1),cellAt h b (o+2),cellAt h b (o+3),cellAt h b (o+4)]):=oh (k:=4) (by kernel_rfl) (by kernel_rfl) b o
theorem ex83(a0 b0:List Nat)(a1 b1:List Nat)(a2 b2:Int)(a3 b3:Int)(a4 b4:Int):sM P 12 83 (.agg [.str a0,.str a1,.int .u64 a2,.int .u64 a3,.int .u64 a4]) (.agg [.str b0,.str b1,.int .u64 b2,.int .u64 b3,.int .u64 b4])=jc (some (cL a0 b0)) (jc (some (cL a1 b1)) (jc (some (a2==b2)) (jc (some (a3==b3)) (jc (some (a4==b4)) (some true))))):=by kernel_rfl
theorem na83(h:H)(x y:Operand)(a b:List AV):ed P h .neq 83 x y (.agg a) (.agg b)=neO (sM P 12 83 (.agg a) (.agg b)) h:=KC (by kernel_rfl) a b
theorem u55:P.underlying 55=some (.slice 112):=by kernel_rfl
def ia55:=@dG P 55 112 13 (by kernel_rfl) (by kernel_rfl) (by kernel_rfl)
theorem ok112:eQ P 112=true:=by kernel_rfl
theorem ld112(h:H)(b o:Nat):dJ P h 112 b o=xd (ke [cellAt h b o,cellAt h b (o+1),cellAt h b (o+2),cellAt h b (o+3),cellAt h b (o+4),cellAt h b (o+5),cellAt h b (o+6),cellAt h b (o+7),cellAt h b (o+8),cellAt h b (o+9),cellAt h b (o+10),cellAt h b (o+11),cellAt h b (o+12)]):=oh (k:=12) (by kernel_rfl) (by kernel_rfl) b o
theorem ex112(a0 b0:Int)(a1 b1:Int)(a2 b2:Bool)(a3 b3:List Nat)(a4 b4:List Nat)(a5 b5:Int)(a6 b6:Int)(a7 b7:Int)(a8 b8:List Nat)(a9 b9:List Nat)(S0 ki:Int)(T0 dZ:Int)(a12 iJ:Int):sM P 12 112 (.agg [.int .u64 a0,.int .u64 a1,.bool a2,.str a3,.str a4,.int .u64 a5,.int .u64 a6,.int .u64 a7,.str a8,.str a9,.int .u64 S0,.int .u64 T0,.int .u64 a12]) (.agg [.int .u64 b0,.int .u64 b1,.bool b2,.str b3,.str b4,.int .u64 b5,.int .u64 b6,.int .u64 b7,.str b8,.str b9,.int .u64 ki,.int .u64 dZ,.int .u64 iJ])=jc (jc (some (a0==b0)) (jc (some (a1==b1)) (some true))) (jc (some (a2==b2)) (jc (jc (some (cL a3 b3)) (jc (some (cL a4 b4)) (jc (some (a5==b5)) (jc (some (a6==b6)) (jc (some (a7==b7)) (some true)))))) (jc (jc (some (cL a8 b8)) (jc (some (cL a9 b9)) (jc (some (S0==ki)) (jc (some (T0==dZ)) (jc (some (a12==iJ)) (some true)))))) (some true)))):=by kernel_rfl
theorem na112(h:H)(x y:Operand)(a b:List AV):ed P h .neq 112 x y (.agg a) (.agg b)=neO (sM P 12 112 (.agg a) (.agg b)) h:=KC (by kernel_rfl) a b
theorem z55:dv P 55=some .bh:=by kernel_rfl
theorem z78:dv P 78=some .dB:=by kernel_rfl
theorem z29:dv P 29=some (.int .u64 (.ofNat 0)):=by kernel_rfl
theorem ok78:eQ P 78=true:=by kernel_rfl
theorem st78(h:H)(v:AV)(hv:v.cells=[v])(b o:Nat):eT P h 78 b o v=h.put b o [v]:=dx (by kernel_rfl) hv b o
theorem z60:dv P 60=some .bh:=by kernel_rfl
def cf37{h}:=@bz P h 37 (by kernel_rfl)
theorem z91:dv P 91=some (.agg [(.int .u64 (.ofNat 0)),(.int .u64 (.ofNat 0)),(.str []),(.str []),(.int .u64 (.ofNat 0)),(.int .u64 (.ofNat 0)),(.int .u64 (.ofNat 0)),(.bool false)]):=by kernel_rfl
theorem ok91:eQ P 91=true:=by kernel_rfl
def st91{h}:=@ff P h 91 8 (by kernel_rfl)
theorem Yv(b o:Nat):bO P 91 (.ptr b o) 0=some (.ptr b o):=by kernel_rfl
theorem Yw(b o:Nat):bO P 89 (.ptr b o) 0=some (.ptr b o):=by kernel_rfl
theorem u60:P.underlying 60=some (.slice 91):=by kernel_rfl
def ia60:=@dG P 60 91 8 (by kernel_rfl) (by kernel_rfl) (by kernel_rfl)
theorem ld91(h:H)(b o:Nat):dJ P h 91 b o=xd (ke [cellAt h b o,cellAt h b (o+1),cellAt h b (o+2),cellAt h b (o+3),cellAt h b (o+4),cellAt h b (o+5),cellAt h b (o+6),cellAt h b (o+7)]):=oh (k:=7) (by kernel_rfl) (by kernel_rfl) b o
theorem ld78(h:H)(b o:Nat):dJ P h 78 b o=cellAt h b o:=c_ (by kernel_rfl) h b o
def cf48{h}:=@bz P h 48 (by kernel_rfl)
theorem st60(h:H)(v:AV)(hv:v.cells=[v])(b o:Nat):eT P h 60 b o v=h.put b o [v]:=dx (by kernel_rfl) hv b o
theorem Yx(b o:Nat):bO P 91 (.ptr b o) 1=some (.ptr b (o+2)):=by kernel_rfl
theorem Yy(b o:Nat):bO P 83 (.ptr b o) 0=some (.ptr b o):=by kernel_rfl
def cf49{h}:=@bz P h 49 (by kernel_rfl)
theorem ok55:eQ P 55=true:=by kernel_rfl
theorem ld55(h:H)(b o:Nat):dJ P h 55 b o=cellAt h b o:=c_ (by kernel_rfl) h b o
theorem ok89:eQ P 89=true:=by kernel_rfl
theorem ld89(h:H)(b o:Nat):dJ P h 89 b o=xd (ke [cellAt h b o,cellAt h b (o+1)]):=oh (k:=1) (by kernel_rfl) (by kernel_rfl) b o
theorem Yz(b o:Nat):bO P 91 (.ptr b o) 2=some (.ptr b (o+7)):=by kernel_rfl
theorem YA(c0 c1 c2 c3 c4 c5 c6 c7:AV):wL P 91 (.agg [c0,c1,c2,c3,c4,c5,c6,c7]) 1=some (.agg [c2,c3,c4,c5,c6]):=by kernel_rfl
theorem CZ(dO kh iy lR p2_1 p2_2 p2_3 p2_4 B0 p3_1 p3_2 p3_3 p3_4:AV):gm P 112 [(0,[dO,kh]),(1,[iy]),(2,[lR,p2_1,p2_2,p2_3,p2_4]),(3,[B0,p3_1,p3_2,p3_3,p3_4])]=some (.agg [dO,kh,iy,lR,p2_1,p2_2,p2_3,p2_4,B0,p3_1,p3_2,p3_3,p3_4]):=by kernel_rfl
theorem QO(dO kh rE rF rG Iu Iv Iw QM p0_9 Wi Wj Wk:AV):iF P 55 1 [(0,[dO,kh,rE,rF,rG,Iu,Iv,Iw,QM,p0_9,Wi,Wj,Wk])]=some (112,[dO,kh,rE,rF,rG,Iu,Iv,Iw,QM,p0_9,Wi,Wj,Wk]):=by kernel_rfl
def T1{h}:=@fG P h _ _ _ _ 13 u55 u55 (fun _ q=>nomatch q) (by kernel_rfl)
theorem st55(h:H)(v:AV)(hv:v.cells=[v])(b o:Nat):eT P h 55 b o v=h.put b o [v]:=dx (by kernel_rfl) hv b o
theorem QP(dO kh rE rF rG Iu Iv Iw:AV):iF P 60 1 [(0,[dO,kh,rE,rF,rG,Iu,Iv,Iw])]=some (91,[dO,kh,rE,rF,rG,Iu,Iv,Iw]):=by kernel_rfl
def T2{h}:=@fG P h _ _ _ _ 8 u60 u60 (fun _ q=>nomatch q) (by kernel_rfl)
def cf50{h}:=@bz P h 50 (by kernel_rfl)
theorem YB(b o:Nat):bO P 62 (.ptr b o) 0=some (.ptr b o):=by kernel_rfl
def cf51{h}:=@bz P h 51 (by kernel_rfl)
theorem Od(dO:AV):iF P 152 1 [(0,[dO])]=some (29,[dO]):=by kernel_rfl
theorem ex89(a0 b0:Int)(a1 b1:Int):sM P 12 89 (.agg [.int .u64 a0,.int .u64 a1]) (.agg [.int .u64 b0,.int .u64 b1])=jc (some (a0==b0)) (jc (some (a1==b1)) (some true)):=by kernel_rfl
theorem ea89(h:H)(x y:Operand)(a b:List AV):ed P h .eql 89 x y (.agg a) (.agg b)=eqO (sM P 12 89 (.agg a) (.agg b)) h:=XI (by kernel_rfl) a b
theorem YC(iy:AV):gm P 73 [(1,[iy])]=some (.agg [.bh,iy,(.int .u64 (.ofNat 0)),(.int .u64 (.ofNat 0)),(.int .u64 (.ofNat 0)),.bh,.bh,(.int .u64 (.ofNat 0))]):=by kernel_rfl
theorem ld28(h:H)(b o:Nat):dJ P h 28 b o=cellAt h b o:=c_ (by kernel_rfl) h b o
theorem Oe(dO iy:AV):gm P 120 [(0,[dO]),(1,[iy])]=some (.agg [dO,iy,.bh]):=by kernel_rfl
theorem z118:dv P 118=some .cN:=by kernel_rfl
theorem ok118:eQ P 118=true:=by kernel_rfl
theorem st118(h:H)(v:AV)(hv:v.cells=[v])(b o:Nat):eT P h 118 b o v=h.put b o [v]:=dx (by kernel_rfl) hv b o
def cf56{h}:=@bz P h 56 (by kernel_rfl)
def cf57{h}:=@bz P h 57 (by kernel_rfl)
theorem ld118(h:H)(b o:Nat):dJ P h 118 b o=cellAt h b o:=c_ (by kernel_rfl) h b o
theorem Ix(dO iy lR:AV):gm P 127 [(0,[dO]),(1,[iy]),(2,[lR])]=some (.agg [dO,iy,lR]):=by kernel_rfl
theorem z127:dv P 127=some (.agg [.nilFunc,.nilFunc,.nilFunc]):=by kernel_rfl
theorem ok127:eQ P 127=true:=by kernel_rfl
def st127{h}:=@ff P h 127 3 (by kernel_rfl)
theorem YD(b o:Nat):bO P 33 (.ptr b o) 4=some (.ptr b (o+4)):=by kernel_rfl
theorem ok30:eQ P 30=true:=by kernel_rfl
theorem ld30(h:H)(b o:Nat):dJ P h 30 b o=cellAt h b o:=c_ (by kernel_rfl) h b o
theorem ok126:eQ P 126=true:=by kernel_rfl
theorem ld126(h:H)(b o:Nat):dJ P h 126 b o=cellAt h b o:=c_ (by kernel_rfl) h b o
theorem QQ(dO kh rE rF rG:AV):iF P 30 1 [(0,[dO,kh,rE,rF,rG])]=some (47,[dO,kh,rE,rF,rG]):=by kernel_rfl
theorem u30:P.underlying 30=some (.slice 47):=by kernel_rfl
def T3{h}:=@fG P h _ _ _ _ 5 u30 u30 (fun _ q=>nomatch q) (by kernel_rfl)
theorem st30(h:H)(v:AV)(hv:v.cells=[v])(b o:Nat):eT P h 30 b o v=h.put b o [v]:=dx (by kernel_rfl) hv b o
theorem YE(b o:Nat):bO P 33 (.ptr b o) 3=some (.ptr b (o+3)):=by kernel_rfl
theorem st4(h:H)(v:AV)(hv:v.cells=[v])(b o:Nat):eT P h 4 b o v=h.put b o [v]:=dx (by kernel_rfl) hv b o
theorem T4(b o:Nat):bO P 120 (.ptr b o) 2=some (.ptr b (o+2)):=by kernel_rfl
def cf61{h}:=@bz P h 61 (by kernel_rfl)
theorem YF(b o:Nat):bO P 73 (.ptr b o) 6=some (.ptr b (o+6)):=by kernel_rfl
theorem YG(b o:Nat):bO P 73 (.ptr b o) 7=some (.ptr b (o+7)):=by kernel_rfl
theorem QR(iy lR:AV):gm P 33 [(1,[iy]),(2,[lR])]=some (.agg [(.int .i64 (.ofNat 0)),iy,lR,(.bool false),.bh,(.int .u32 (.ofNat 0)),(.int .u64 (.ofNat 0)),(.int .u64 (.ofNat 0)),(.int .i64 (.ofNat 0))]):=by kernel_rfl
def cf62{h}:=@bz P h 62 (by kernel_rfl)
theorem z83:dv P 83=some (.agg [(.str []),(.str []),(.int .u64 (.ofNat 0)),(.int .u64 (.ofNat 0)),(.int .u64 (.ofNat 0))]):=by kernel_rfl
def st83{h}:=@ff P h 83 5 (by kernel_rfl)
def cf63{h}:=@bz P h 63 (by kernel_rfl)
def cf64{h}:=@bz P h 64 (by kernel_rfl)
def cf65{h}:=@bz P h 65 (by kernel_rfl)
theorem B1(dO iy lR B0 p4_0:AV):gm P 83 [(0,[dO]),(1,[iy]),(2,[lR]),(3,[B0]),(4,[p4_0])]=some (.agg [dO,iy,lR,B0,p4_0]):=by kernel_rfl
theorem YH(b o:Nat):bO P 83 (.ptr b o) 2=some (.ptr b (o+2)):=by kernel_rfl
theorem YI(b o:Nat):bO P 83 (.ptr b o) 4=some (.ptr b (o+4)):=by kernel_rfl
theorem YJ(b o:Nat):bO P 41 (.ptr b o) 8=some (.ptr b (o+8)):=by kernel_rfl
theorem QS(dO kh rE rF rG:AV):iF P 45 1 [(0,[dO,kh,rE,rF,rG])]=some (83,[dO,kh,rE,rF,rG]):=by kernel_rfl
theorem st45(h:H)(v:AV)(hv:v.cells=[v])(b o:Nat):eT P h 45 b o v=h.put b o [v]:=dx (by kernel_rfl) hv b o
theorem YK(j:IntKind)(n:Int)(h:H):mq P 3 29 (.int j n) h= .val (.int .u64 (bV .u64 n)) h:=rA (u:=.int .i64) (by kernel_rfl) (by kernel_rfl) j n
theorem QT(dO iy:AV):gm P 89 [(0,[dO]),(1,[iy])]=some (.agg [dO,iy]):=by kernel_rfl
theorem QU(dO kh iy QV QW QX QY:AV):gm P 91 [(0,[dO,kh]),(1,[iy,QV,QW,QX,QY])]=some (.agg [dO,kh,iy,QV,QW,QX,QY,(.bool false)]):=by kernel_rfl
theorem YL(dO:AV):gm P 83 [(0,[dO])]=some (.agg [dO,(.str []),(.int .u64 (.ofNat 0)),(.int .u64 (.ofNat 0)),(.int .u64 (.ofNat 0))]):=by kernel_rfl
theorem KG(dO kh iy QV QW QX QY lR:AV):gm P 91 [(0,[dO,kh]),(1,[iy,QV,QW,QX,QY]),(2,[lR])]=some (.agg [dO,kh,iy,QV,QW,QX,QY,lR]):=by kernel_rfl
theorem st3(h:H)(v:AV)(hv:v.cells=[v])(b o:Nat):eT P h 3 b o v=h.put b o [v]:=dx (by kernel_rfl) hv b o
theorem u71:P.underlying 71=some (.slice 132):=by kernel_rfl
def lm71{h}:=@pI P h _ _ u71
theorem u5:P.underlying 5=some (.int .u8):=by kernel_rfl
def cf68{h}:=@bz P h 68 (by kernel_rfl)
def cf69{h}:=@bz P h 69 (by kernel_rfl)
theorem YM(lR:AV):gm P 47 [(2,[lR])]=some (.agg [.bh,(.bool false),lR,(.int .i64 (.ofNat 0)),.bh]):=by kernel_rfl
theorem YN(b o:Nat):bO P 41 (.ptr b o) 6=some (.ptr b (o+6)):=by kernel_rfl
theorem YO(b o:Nat):bO P 41 (.ptr b o) 5=some (.ptr b (o+5)):=by kernel_rfl
theorem YP(b o:Nat):bO P 41 (.ptr b o) 7=some (.ptr b (o+7)):=by kernel_rfl
theorem YQ(b o:Nat):bO P 83 (.ptr b o) 1=some (.ptr b (o+1)):=by kernel_rfl
def T5{h}:=@fG P h _ _ _ _ 5 u45 u45 (fun _ q=>nomatch q) (by kernel_rfl)
def cf70{h}:=@bz P h 70 (by kernel_rfl)
def cf39{h}:=@bz P h 39 (by kernel_rfl)
theorem u92:P.underlying 92=some (.slice 9):=by kernel_rfl
def ia92:=@dG P 92 9 1 (by kernel_rfl) (by kernel_rfl) (by kernel_rfl)
def cf71{h}:=@bz P h 71 (by kernel_rfl)
def cf72{h}:=@bz P h 72 (by kernel_rfl)
def cf73{h}:=@bz P h 73 (by kernel_rfl)
def cf38{h}:=@bz P h 38 (by kernel_rfl)
def cf76{h}:=@bz P h 76 (by kernel_rfl)
def cf75{h}:=@bz P h 75 (by kernel_rfl)
theorem YR(b o:Nat):bO P 89 (.ptr b o) 1=some (.ptr b (o+1)):=by kernel_rfl
def cf40{h}:=@bz P h 40 (by kernel_rfl)
def cf41{h}:=@bz P h 41 (by kernel_rfl)
def cf80{h}:=@bz P h 80 (by kernel_rfl)
theorem YS(b o:Nat):bO P 97 (.ptr b o) 1=some (.ptr b (o+1)):=by kernel_rfl
theorem ok95:eQ P 95=true:=by kernel_rfl
theorem ld95(h:H)(b o:Nat):dJ P h 95 b o=cellAt h b o:=c_ (by kernel_rfl) h b o
theorem st95(h:H)(v:AV)(hv:v.cells=[v])(b o:Nat):eT P h 95 b o v=h.put b o [v]:=dx (by kernel_rfl) hv b o
def cf42{h}:=@bz P h 42 (by kernel_rfl)
theorem z97:dv P 97=some (.agg [.cN,.bh]):=by kernel_rfl
def cf81{h}:=@bz P h 81 (by kernel_rfl)
def cf44{h}:=@bz P h 44 (by kernel_rfl)
def cf43{h}:=@bz P h 43 (by kernel_rfl)
def cf82{h}:=@bz P h 82 (by kernel_rfl)
theorem ok143:eQ P 143=true:=by kernel_rfl
def st143{h}:=@ff P h 143 256 (by kernel_rfl)
theorem YT(j:IntKind)(n:Int)(h:H):mq P 31 5 (.int j n) h= .val (.int .u8 (bV .u8 n)) h:=rA (u:=.int .u32) (by kernel_rfl) (by kernel_rfl) j n
theorem ok31:eQ P 31=true:=by kernel_rfl
theorem ld31(h:H)(b o:Nat):dJ P h 31 b o=cellAt h b o:=c_ (by kernel_rfl) h b o
theorem u95:P.underlying 95=some (.slice 5):=by kernel_rfl
def lm95{h}:=@pI P h _ _ u95
def cf45{h}:=@bz P h 45 (by kernel_rfl)
def cf83{h}:=@bz P h 83 (by kernel_rfl)
theorem u147:P.underlying 147=some (.slice 89):=by kernel_rfl
def ia147:=@dG P 147 89 2 (by kernel_rfl) (by kernel_rfl) (by kernel_rfl)
def cf84{h}:=@bz P h 84 (by kernel_rfl)
def cf46{h}:=@bz P h 46 (by kernel_rfl)
def cf85{h}:=@bz P h 85 (by kernel_rfl)
def cf86{h}:=@bz P h 86 (by kernel_rfl)
def cf47{h}:=@bz P h 47 (by kernel_rfl)
theorem QZ(j:IntKind)(n:Int)(h:H):mq P 5 31 (.int j n) h= .val (.int .u32 (bV .u32 n)) h:=rA (u:=.int .u8) (by kernel_rfl) (by kernel_rfl) j n
def cf87{h}:=@bz P h 87 (by kernel_rfl)
theorem ex91(a0 b0:Int)(a1 b1:Int)(a2 b2:List Nat)(a3 b3:List Nat)(a4 b4:Int)(a5 b5:Int)(a6 b6:Int)(a7 b7:Bool):sM P 12 91 (.agg [.int .u64 a0,.int .u64 a1,.str a2,.str a3,.int .u64 a4,.int .u64 a5,.int .u64 a6,.bool a7]) (.agg [.int .u64 b0,.int .u64 b1,.str b2,.str b3,.int .u64 b4,.int .u64 b5,.int .u64 b6,.bool b7])=jc (jc (some (a0==b0)) (jc (some (a1==b1)) (some true))) (jc (jc (some (cL a2 b2)) (jc (some (cL a3 b3)) (jc (some (a4==b4)) (jc (some (a5==b5)) (jc (some (a6==b6)) (some true)))))) (jc (some (a7==b7)) (some true))):=by kernel_rfl
theorem na91(h:H)(x y:Operand)(a b:List AV):ed P h .neq 91 x y (.agg a) (.agg b)=neO (sM P 12 91 (.agg a) (.agg b)) h:=KC (by kernel_rfl) a b
theorem u152:P.underlying 152=some (.slice 29):=by kernel_rfl
def ln152{h}:=@pH P h _ _ u152
def ia152:=@dG P 152 29 1 (by kernel_rfl) (by kernel_rfl) (by kernel_rfl)
theorem T6(b o:Nat):bO P 120 (.ptr b o) 1=some (.ptr b (o+1)):=by kernel_rfl
def cf55{h}:=@bz P h 55 (by kernel_rfl)
def cf89{h}:=@bz P h 89 (by kernel_rfl)
theorem bc83_:gm P 83 []=some (.agg [(.str []),(.str []),(.int .u64 (.ofNat 0)),(.int .u64 (.ofNat 0)),(.int .u64 (.ofNat 0))]):=by kernel_rfl
def cf90{h}:=@bz P h 90 (by kernel_rfl)
def cf92{h}:=@bz P h 92 (by kernel_rfl)
def cf93{h}:=@bz P h 93 (by kernel_rfl)
def cf94{h}:=@bz P h 94 (by kernel_rfl)
theorem C8(dO iy lR B0:AV):gm P 155 [(0,[dO]),(1,[iy]),(2,[lR]),(3,[B0])]=some (.agg [dO,iy,lR,B0]):=by kernel_rfl
theorem z155:dv P 155=some (.agg [.nilFunc,.nilFunc,.nilFunc,.nilFunc]):=by kernel_rfl
theorem ok155:eQ P 155=true:=by kernel_rfl
def st155{h}:=@ff P h 155 4 (by kernel_rfl)
theorem YU(b o:Nat):bO P 68 (.ptr b o) 1=some (.ptr b (o+1)):=by kernel_rfl
theorem ok58:eQ P 58=true:=by kernel_rfl
theorem ld58(h:H)(b o:Nat):dJ P h 58 b o=cellAt h b o:=c_ (by kernel_rfl) h b o
def cf96{h}:=@bz P h 96 (by kernel_rfl)
theorem T7(b o:Nat):bO P 120 (.ptr b o) 0=some (.ptr b o):=by kernel_rfl
theorem ok24:eQ P 24=true:=by kernel_rfl
theorem ld24(h:H)(b o:Nat):dJ P h 24 b o=cellAt h b o:=c_ (by kernel_rfl) h b o
def cf97{h}:=@bz P h 97 (by kernel_rfl)
def cf98{h}:=@bz P h 98 (by kernel_rfl)
theorem YV(b o:Nat):bO P 83 (.ptr b o) 3=some (.ptr b (o+3)):=by kernel_rfl
theorem YW(b o:Nat):bO P 68 (.ptr b o) 2=some (.ptr b (o+2)):=by kernel_rfl
def cf99{h}:=@bz P h 99 (by kernel_rfl)
theorem YX(b o:Nat):bO P 68 (.ptr b o) 3=some (.ptr b (o+3)):=by kernel_rfl
def cf101{h}:=@bz P h 101 (by kernel_rfl)
def cf103{h}:=@bz P h 103 (by kernel_rfl)
theorem ok84:eQ P 84=true:=by kernel_rfl
theorem ld84(h:H)(b o:Nat):dJ P h 84 b o=cellAt h b o:=c_ (by kernel_rfl) h b o
theorem z31:dv P 31=some (.int .u32 (.ofNat 0)):=by kernel_rfl
theorem st31(h:H)(v:AV)(hv:v.cells=[v])(b o:Nat):eT P h 31 b o v=h.put b o [v]:=dx (by kernel_rfl) hv b o
theorem Wl(j:IntKind)(n:Int)(h:H):mq P 3 5 (.int j n) h= .val (.int .u8 (bV .u8 n)) h:=rA (u:=.int .i64) (by kernel_rfl) (by kernel_rfl) j n
def cf109{h}:=@bz P h 109 (by kernel_rfl)
theorem Of(dO kh:AV):iF P 147 1 [(0,[dO,kh])]=some (89,[dO,kh]):=by kernel_rfl
def Oh{h}:=@fG P h _ _ _ _ 2 u147 u147 (fun _ q=>nomatch q) (by kernel_rfl)
theorem YY(j:IntKind)(n:Int)(h:H):mq P 29 5 (.int j n) h= .val (.int .u8 (bV .u8 n)) h:=rA (u:=.int .u64) (by kernel_rfl) (by kernel_rfl) j n
theorem Q0(dO:AV):iF P 95 1 [(0,[dO])]=some (5,[dO]):=by kernel_rfl
def cf91{h}:=@bz P h 91 (by kernel_rfl)
def cf110{h}:=@bz P h 110 (by kernel_rfl)
theorem C_(dO iy lR B0:AV):gm P 171 [(0,[dO]),(1,[iy]),(2,[lR]),(3,[B0])]=some (.agg [dO,iy,lR,B0]):=by kernel_rfl
def cf95{h}:=@bz P h 95 (by kernel_rfl)
def cf111{h}:=@bz P h 111 (by kernel_rfl)
theorem z173:dv P 173=some (.agg [(.int .u8 (.ofNat 0)),(.int .u8 (.ofNat 0)),(.int .u8 (.ofNat 0)),(.int .u8 (.ofNat 0)),(.int .u8 (.ofNat 0)),(.int .u8 (.ofNat 0)),(.int .u8 (.ofNat 0)),(.int .u8 (.ofNat 0)),(.int .u8 (.ofNat 0))]):=by kernel_rfl
theorem YZ:eQ P 5=true:=by kernel_rfl
theorem st5(h:H)(v:AV)(hv:v.cells=[v])(b o:Nat):eT P h 5 b o v=h.put b o [v]:=dx (by kernel_rfl) hv b o
def cf125{h}:=@bz P h 125 (by kernel_rfl)
def cf126{h}:=@bz P h 126 (by kernel_rfl)
theorem ld5(h:H)(b o:Nat):dJ P h 5 b o=cellAt h b o:=c_ (by kernel_rfl) h b o
theorem aI{a b:Prop}(x:a)(y:b):a∧b:=⟨x,y⟩
def F:=aI (aI (aI (aI (aI (aI (aI (aI @cf4 @cf5) (aI @eq24 @ia22)) (aI (aI @ok38 @ld38) (aI @cf7 (aI @cf6 @cf8)))) (aI (aI (aI @ia23 @ok43) (aI @ld43 (aI @z43 @st43))) (aI (aI @XQ @ok41) (aI @ld41 (aI @QL @cf9))))) (aI (aI (aI (aI @ia36 @z41) (aI @st41 @XR)) (aI (aI @ok29 @ld29) (aI @XS (aI @cf10 @z47)))) (aI (aI (aI @ok47 @st47) (aI @cf11 (aI @ld47 @cf12))) (aI (aI @cf14 @cf15) (aI @cf13 (aI @cf16 @cf17)))))) (aI (aI (aI (aI (aI @XT @ok9) (aI @ld9 @XU)) (aI (aI @cf19 @cf20) (aI @cf18 (aI @cf21 @cf22)))) (aI (aI (aI @XV @cf23) (aI @XW (aI @ok33 @ld33))) (aI (aI @z33 @st33) (aI @XX (aI @ok3 @ld3))))) (aI (aI (aI (aI @cf24 @cf25) (aI @XY (aI @ok28 @st28))) (aI (aI @XZ @X9) (aI @X_ (aI @st29 @Ya)))) (aI (aI (aI @z38 @Yb) (aI @ok35 (aI @ld35 @ia35))) (aI (aI @ok68 @ld68) (aI @z68 (aI @st68 @Yc))))))) (aI (aI (aI (aI (aI (aI @ln9 @st9) (aI @Yd @QN)) (aI (aI @TY @st35) (aI @Ye (aI @ok36 @ld36)))) (aI (aI (aI @st36 @Yf) (aI @st38 (aI @Yg @ok63))) (aI (aI @ld63 @cf26) (aI @cf27 (aI @Yi @cf28))))) (aI (aI (aI (aI @Yj @Yk) (aI @KF (aI @Yl @TZ))) (aI (aI @bc47_ @Ym) (aI @Yn (aI @cf29 @cf30)))) (aI (aI (aI @Yo @cf32) (aI @cf33 (aI @cf31 @cf34))) (aI (aI @Yp @ok60) (aI @ld60 (aI @cf36 @cf35)))))) (aI (aI (aI (aI (aI @Yq @ok4) (aI @ld4 @eq4)) (aI (aI @Yr @Ys) (aI @Yt (aI @ok45 @ld45)))) (aI (aI (aI @Yu @ia45) (aI @ok83 (aI @ld83 @ex83))) (aI (aI @na83 @ia55) (aI @ok112 (aI @ld112 @ex112))))) (aI (aI (aI (aI @na112 @z55) (aI @z78 (aI @z29 @ok78))) (aI (aI @st78 @z60) (aI @cf37 (aI @z91 @ok91)))) (aI (aI (aI @st91 @Yv) (aI @Yw (aI @ia60 @ld91))) (aI (aI @ld78 @cf48) (aI @st60 (aI @Yx @Yy)))))))) (aI (aI (aI (aI (aI (aI (aI @cf49 @ok55) (aI @ld55 @ok89)) (aI (aI @ld89 @Yz) (aI @YA (aI @CZ @QO)))) (aI (aI (aI @T1 @st55) (aI @QP (aI @T2 @cf50))) (aI (aI @YB @cf51) (aI @Od (aI @ex89 @ea89))))) (aI (aI (aI (aI @YC @ld28) (aI @Oe @z118)) (aI (aI @ok118 @st118) (aI @cf56 (aI @cf57 @ld118)))) (aI (aI (aI @Ix @z127) (aI @ok127 (aI @st127 @YD))) (aI (aI @ok30 @ld30) (aI @ok126 (aI @ld126 @QQ)))))) (aI (aI (aI (aI (aI @T3 @st30) (aI @YE @st4)) (aI (aI @T4 @cf61) (aI @YF (aI @YG @QR)))) (aI (aI (aI @cf62 @z83) (aI @st83 (aI @cf63 @cf64))) (aI (aI @cf65 @B1) (aI @YH (aI @YI @YJ))))) (aI (aI (aI (aI @QS @st45) (aI @YK (aI @QT @QU))) (aI (aI @YL @KG) (aI @st3 (aI @lm71 @cf68)))) (aI (aI (aI @cf69 @YM) (aI @YN (aI @YO @YP))) (aI (aI @YQ @T5) (aI @cf70 (aI @cf39 @ia92))))))) (aI (aI (aI (aI (aI (aI @cf71 @cf72) (aI @cf73 @cf38)) (aI (aI @cf76 @cf75) (aI @YR (aI @cf40 @cf41)))) (aI (aI (aI @cf80 @YS) (aI @ok95 (aI @ld95 @st95))) (aI (aI @cf42 @z97) (aI @cf81 (aI @cf44 @cf43))))) (aI (aI (aI (aI @lm95 @cf45) (aI @cf83 (aI @ia147 @cf84))) (aI (aI @cf46 @cf85) (aI @cf86 (aI @cf47 @QZ)))) (aI (aI (aI @cf87 @ex91) (aI @na91 (aI @ln152 @ia152))) (aI (aI @T6 @cf55) (aI @cf89 (aI @bc83_ @cf90)))))) (aI (aI (aI (aI (aI @cf92 @cf93) (aI @cf94 @C8)) (aI (aI @z155 @ok155) (aI @st155 (aI @YU @ok58)))) (aI (aI (aI @ld58 @cf96) (aI @T7 (aI @ok24 @ld24))) (aI (aI @cf97 @cf98) (aI @YV (aI @YW @cf99))))) (aI (aI (aI (aI @YX @cf101) (aI @cf103 (aI @ok84 @ld84))) (aI (aI @Wl @Of) (aI @Oh (aI @YY @Q0)))) (aI (aI (aI @cf91 @cf110) (aI @C_ (aI @cf95 @cf111))) (aI (aI @z173 @YZ) (aI @st5 (aI @cf125 @cf126))))))))
theorem V{a b:Prop}(x:a)(y:b):a∧b:=⟨x,y⟩
theorem rN{p q r:Prop}(hq:q)(fs:r)(f:r→q→p:=by intro fs hq;(repeat' (first|((with_reducible refine gh ?_);(conv =>whnf);(with_reducible refine⟨?_⟩))|((with_reducible refine bE rfl ?_);(conv =>arg 2;whnf))|((with_reducible first|refine iB ?_ ?_|refine g_ ?_ ?_|refine hP ?_ ?_)<;>intro hb<;>(try simp only[hb]))|(simp only[B,F,ab,ae,af,ag,ah,ai, ↓reduceIte,eq_self,fs])));exact hq):p:=f fs hq
theorem kM{p q:Prop}(hq:q)(f:q→p:=by intro hq;(repeat' (first|((with_reducible refine gh ?_);(conv =>whnf);(with_reducible refine⟨?_⟩))|((with_reducible refine bE rfl ?_);(conv =>arg 2;whnf))|((with_reducible first|refine iB ?_ ?_|refine g_ ?_ ?_|refine hP ?_ ?_)<;>intro hb<;>(try simp only[hb]))|(simp only[B,F,ab,ae,af,ag,ah,ai, ↓reduceIte,eq_self])));exact hq):p:=f hq
theorem rT{p q r:Prop}(hq:q)(fs:r)(f:r→q→p:=by intro fs hq;(repeat' (first|((with_reducible refine gh ?_);(conv =>whnf);(with_reducible refine⟨?_⟩))|((with_reducible refine fh ?_ rfl rfl ?_ ?_);exact rfl;kernel_rfl;(conv =>arg 5;whnf);(conv =>arg 3;whnf))|((with_reducible refine bE rfl ?_);(conv =>arg 2;whnf))|((with_reducible first|refine iB ?_ ?_|refine g_ ?_ ?_|refine hP ?_ ?_|refine pL ?_ ?_|refine pM ?_ ?_)<;>intro hb<;>(try simp only[hb]))|((with_reducible show cU _ _ _ _ _ _ _ _ _);first|((with_reducible refine fj ?_ ?_);exact rfl)|((with_reducible apply fm);exact rfl;exact rfl)|((with_reducible refine fo ?_ ?_ ?_);exact rfl;kernel_rfl)|((with_reducible apply fp);exact rfl;exact rfl)|((with_reducible refine fq ?_ ?_ ?_ ?_ ?_);exact rfl;kernel_rfl;exact rfl)|((with_reducible apply ft);exact rfl;kernel_rfl;exact rfl)|((with_reducible refine fi ?_ ?_)))|((with_reducible show il _ _ _ _ _ _);first|(exact cK)|(refine eB ?_ ?_ ?_;exact rfl)|(apply eC;exact rfl;exact rfl)|(refine eD ?_ ?_ ?_ ?_;exact rfl;kernel_rfl)|(apply eF;exact rfl)|(apply eE;exact rfl;exact rfl))|((with_reducible refine bX ?_);kernel_rfl)|(simp only[B,xB,F,ab,ae,af,ag,ah,ai, ↓reduceIte,eq_self,fs])));exact hq):p:=f fs hq
theorem rT0{p q:Prop}(hq:q)(f:q→p:=by intro hq;(repeat' (first|((with_reducible refine gh ?_);(conv =>whnf);(with_reducible refine⟨?_⟩))|((with_reducible refine fh ?_ rfl rfl ?_ ?_);exact rfl;kernel_rfl;(conv =>arg 5;whnf);(conv =>arg 3;whnf))|((with_reducible refine bE rfl ?_);(conv =>arg 2;whnf))|((with_reducible first|refine iB ?_ ?_|refine g_ ?_ ?_|refine hP ?_ ?_|refine pL ?_ ?_|refine pM ?_ ?_)<;>intro hb<;>(try simp only[hb]))|((with_reducible show cU _ _ _ _ _ _ _ _ _);first|((with_reducible refine fj ?_ ?_);exact rfl)|((with_reducible apply fm);exact rfl;exact rfl)|((with_reducible refine fo ?_ ?_ ?_);exact rfl;kernel_rfl)|((with_reducible apply fp);exact rfl;exact rfl)|((with_reducible refine fq ?_ ?_ ?_ ?_ ?_);exact rfl;kernel_rfl;exact rfl)|((with_reducible apply ft);exact rfl;kernel_rfl;exact rfl)|((with_reducible refine fi ?_ ?_)))|((with_reducible show il _ _ _ _ _ _);first|(exact cK)|(refine eB ?_ ?_ ?_;exact rfl)|(apply eC;exact rfl;exact rfl)|(refine eD ?_ ?_ ?_ ?_;exact rfl;kernel_rfl)|(apply eF;exact rfl)|(apply eE;exact rfl;exact rfl))|((with_reducible refine bX ?_);kernel_rfl)|(simp only[B,xB,F,ab,ae,af,ag,ah,ai, ↓reduceIte,eq_self])));exact hq):p:=f hq
theorem sT{p:Prop}(h:p:=by first|(simp only[B,xB,F,ab,ae,af,ag,ah,ai, ↓reduceIte,eq_self];done)|(simp only[B,xB,F,ab,ae,af,ag,ah,ai, ↓reduceIte,eq_self];with_reducible assumption)):p:=h
theorem Y_:lQ P (eA (bL (bD Tryz.f3) [0,1,1,1,1,0,0,1,0,0,1,0,1,1,1,1])) [0,1,2,3,4,5,6,7,8,9,10,11,12,14,15,16,13,17,18,19,20,21,22,23,24,25,26,28,29,30,31,32,27,33,34,35,36,37,38,39,40,41,42,43,44,45,47,48,49,50,51,52,53,54,55,46,56,57,58,59]=true:=by kernel_rfl
theorem T8:lQ P (eA (bL (bD Tryz.f10) [0,1,1,1,1])) [0,1,2,4,5,6,7,3,8,9,10,11]=true:=by kernel_rfl
theorem sH:lQ P (eA (bL (bD Tryz.f24) [0,0,1,0,1,1,1,1,1,1,1,1,1,1,1,1])) [0,1,2,3,4,6,7,8,9,5,10,11,12,13]=true:=by kernel_rfl
theorem jC:lQ P (eA (bL (bD Tryz.f26) [0,0,0,1,0,0,1,0,1,1,1,1,1,1])) [0,1,2,3,4,5,6,7,8,9,10,11,12,13,18,14,15,16,17,19,20]=true:=by kernel_rfl
theorem jD:lQ P (eA (bL (bD Tryz.f26) [1,1,1,1,0,1,1,1,0,1,0,1,1,0,0,1,0,0,1,0,1,1,1,1,1,1,1,1,1,1,1,1,1,1,1])) [0,1,2,3,4,5,6,7,8,9,12,10,11,13,14,15,16]=true:=by kernel_rfl
theorem jE:lQ P (eA (bL (bD Tryz.f26) [0,0,1,0,0,1,0,1,1,1,1,1,0,1,0,1,1,0,0,1,0,0,1,0,1,1,1,1,1,1,1,1,1,1,1,1,1,1,1])) [0,1,2,3,4,5,6,7,8,9,12,13,14,15,16,17,10,11,18,19,20,21]=true:=by kernel_rfl
theorem T9:lQ P (eA (bL (bD Tryz.f38) [0,1,1,1])) [0,1,2,4,5,6,8,9,10,3,7,11,12]=true:=by kernel_rfl
theorem T_:lQ P (eA (bL (bD Tryz.f38) [0,1,1,1,1])) [0,1,3,4,5,2,6,7]=true:=by kernel_rfl
theorem Ua:lQ P (eA (bL (bD Tryz.f38) [0,1,1,1,1,1])) [0,1,2,3,5,6,7,4,8,9]=true:=by kernel_rfl
theorem Ub:lQ P (eA (bL (bD Tryz.f44) [0,1])) [0,1,2,3,5,6,7,8,9,4,10,11]=true:=by kernel_rfl
theorem Uc:lQ P (eA (bL (bD Tryz.f46) [0,1,1])) [0,1,2,3,5,6,7,4,8,9]=true:=by kernel_rfl
theorem Ud:lQ P (eA (bL (bD Tryz.f46) [0,1,1,1,1,1])) [0,1,3,4,5,2,6,7]=true:=by kernel_rfl
theorem Ue:lQ P (eA (bL (bD Tryz.f46) [0,1,1,1,1,1,1])) [0,1,2,3,5,6,7,4,8,9]=true:=by kernel_rfl
theorem F0:lQ P (eA (bL (bD Tryz.f97) [0,1])) [0,1,2,3,4,5,6,7,8,9,10,11,12,15,16,18,13,14,17,19]=true:=by kernel_rfl
abbrev sR:Nat:=18446744073709551616
def Og(h h':H)(S:List Nat):Prop:=iw h h' S∧h'.g=h.g
theorem Og.refl(h:H)(S:List Nat):Og h h S:=⟨iw.refl _ _,rfl⟩
theorem Og.t{h h1 h2:H}(a:Og h h1 [])(b:Og h1 h2 []):Og h h2 []:=⟨⟨aK a.1.1 b.1.1,fun c hc hn=>(b.1.2 c (aA hc a.1.1) (by simp)).trans (a.1.2 c hc (by simp))⟩,b.2.trans a.2⟩
theorem dD(h:H)(b o:Nat)(l:List AV):(h.cm b o l).g=h.g:=by unfold H.cm;split<;>rfl
theorem Og.new{h h1:H}{S:List Nat}(a:Og h h1 S)(t:TypeId)(l:List AV):Og h (h1.bq t l) S:=⟨a.1.new t l,a.2⟩
theorem Og.cm{h h1:H}{S:List Nat}{b o:Nat}{l:List AV}(a:Og h h1 S)(hb:b∈S∨h.nx≤b):Og h (h1.cm b o l) S:=⟨a.1.cm hb,(dD _ _ _ _).trans a.2⟩
theorem Og.alloc{h h1:H}{S:List Nat}(a:Og h h1 S)(o:iI):Og h (h1.alloc o) S:=⟨⟨Nat.le_succ_of_le a.1.1,fun c hc hn=>by
 show(h1.t.set h1.nx (some o)).get c=_;rw[T.bS,if_neg (by have:=a.1.1;omega)];exact a.1.2 c hc hn⟩,a.2⟩
theorem Og.s1{h h1 h2:H}{S:List Nat}(a:Og h h1 [])(b:Og h1 h2 S):Og h h2 S:=⟨⟨aK a.1.1 b.1.1,fun c hc hn=>(b.1.2 c (aA hc a.1.1) hn).trans (a.1.2 c hc (by simp))⟩,b.2.trans a.2⟩
theorem Og.s2{h h1 h2:H}{S:List Nat}(a:Og h h1 S)(b:Og h1 h2 S):Og h h2 S:=⟨⟨aK a.1.1 b.1.1,fun c hc hn=>(b.1.2 c (aA hc a.1.1) hn).trans (a.1.2 c hc hn)⟩,b.2.trans a.2⟩
theorem kc{h h':H}{S:List Nat}{b i:Nat}{v:AV}(c:cellAt h b i=some v)(o:Og h h' S)(hb:b<h.nx)(hn:b∉S):cellAt h' b i=some v:=by rw[bo (o.1.2 b hb hn)];exact c
theorem kw{h h':H}{S:List Nat}{b:Nat}(c:cj h b=true)(o:Og h h' S)(hb:b<h.nx)(hn:b∉S):cj h' b=true:=by rw[bC (o.1.2 b hb hn)];exact c
def cQ(h:H)(r:AV)(v:AV)(h':H):Prop:=v=r∧Og h h' []
theorem sc(rp:List Nat):∀{fn nt:Nat}{ro:Option Nat}{c:Code}{ds:List Nat}{tm:T AV}{h:H}{Q:KQ},Wh (bB P fn nt ro (bL c rp) ds tm h Q)→bB P fn nt ro (bL c rp) ds tm h Q:=rB rp
theorem oq{p q r s:Prop}(hq:q)(pY:s)(fs:r)(f:s→r→q→p:=by intro pY fs hq;(repeat' (first|(with_reducible refine pY ?_)|((with_reducible refine gh ?_);(conv =>whnf);(with_reducible refine⟨?_⟩))|((with_reducible refine bE rfl ?_);(conv =>arg 2;whnf))|((with_reducible first|refine iB ?_ ?_|refine g_ ?_ ?_|refine hP ?_ ?_)<;>intro hb<;>(try simp only[hb]))|(simp only[B,F,ab,ae,af,ag,ah,ai, ↓reduceIte,eq_self,fs])));exact hq):p:=f pY fs hq
theorem Iy{p q s:Prop}(hq:q)(pY:s)(f:s→q→p:=by intro pY hq;(repeat' (first|(with_reducible refine pY ?_)|((with_reducible refine gh ?_);(conv =>whnf);(with_reducible refine⟨?_⟩))|((with_reducible refine bE rfl ?_);(conv =>arg 2;whnf))|((with_reducible first|refine iB ?_ ?_|refine g_ ?_ ?_|refine hP ?_ ?_)<;>intro hb<;>(try simp only[hb]))|(simp only[B,F,ab,ae,af,ag,ah,ai, ↓reduceIte,eq_self])));exact hq):p:=f pY hq
theorem rTs{p q r s:Prop}(hq:q)(pY:s)(fs:r)(f:s→r→q→p:=by intro pY fs hq;(repeat' (first|(with_reducible refine pY ?_)|((with_reducible refine gh ?_);(conv =>whnf);(with_reducible refine⟨?_⟩))|((with_reducible refine fh ?_ rfl rfl ?_ ?_);exact rfl;kernel_rfl;(conv =>arg 5;whnf);(conv =>arg 3;whnf))|((with_reducible refine bE rfl ?_);(conv =>arg 2;whnf))|((with_reducible first|refine iB ?_ ?_|refine g_ ?_ ?_|refine hP ?_ ?_|refine pL ?_ ?_|refine pM ?_ ?_)<;>intro hb<;>(try simp only[hb]))|((with_reducible show cU _ _ _ _ _ _ _ _ _);first|((with_reducible refine fj ?_ ?_);exact rfl)|((with_reducible apply fm);exact rfl;exact rfl)|((with_reducible refine fo ?_ ?_ ?_);exact rfl;kernel_rfl)|((with_reducible apply fp);exact rfl;exact rfl)|((with_reducible refine fq ?_ ?_ ?_ ?_ ?_);exact rfl;kernel_rfl;exact rfl)|((with_reducible apply ft);exact rfl;kernel_rfl;exact rfl)|((with_reducible refine fi ?_ ?_)))|((with_reducible show il _ _ _ _ _ _);first|(exact cK)|(refine eB ?_ ?_ ?_;exact rfl)|(apply eC;exact rfl;exact rfl)|(refine eD ?_ ?_ ?_ ?_;exact rfl;kernel_rfl)|(apply eF;exact rfl)|(apply eE;exact rfl;exact rfl))|((with_reducible refine bX ?_);kernel_rfl)|(simp only[B,xB,F,ab,ae,af,ag,ah,ai, ↓reduceIte,eq_self,fs])));exact hq):p:=f pY fs hq
structure KV where
 key:List Nat
 val:List Nat
 iC:Nat
 mod:Nat
 im:Nat
structure Rec where
 main:Nat
 sub:Nat
 kv:KV
 dW:Bool
structure Op where
 kind:Int
 key:List Nat
 fin:List Nat
 val:List Nat
 rev:Nat
 dA:Int
 count:Bool
 keys:Bool
 prev:Bool
structure iD where
 key:List Nat
 np:Int
 hY:Int
 n:Nat
 val:List Nat
def KV.cs(x:KV):List AV:=[.str x.key,.str x.val,.int .u64 (.ofNat x.iC),.int .u64 (.ofNat x.mod),.int .u64 (.ofNat x.im)]
def Rec.cs(x:Rec):List AV:=[.int .u64 (.ofNat x.main),.int .u64 (.ofNat x.sub),.str x.kv.key,.str x.kv.val,.int .u64 (.ofNat x.kv.iC),.int .u64 (.ofNat x.kv.mod),.int .u64 (.ofNat x.kv.im),.bool x.dW]
def Op.cs(x:Op):List AV:=[.int .i64 x.kind,.str x.key,.str x.fin,.str x.val,.int .u64 (.ofNat x.rev),.int .i64 x.dA,.bool x.count,.bool x.keys,.bool x.prev]
def iD.cs(x:iD):List AV:=[.str x.key,.int .i64 x.np,.int .i64 x.hY,.int .u64 (.ofNat x.n),.str x.val]
section
variable{h:H}{t:TypeId}{x y:Operand}
theorem ji(a b:List Nat):ed P h .lss t x y (.str a) (.str b)= .val (.bool (cE a b)) h:=by simp only[ed,d_,jR,E_,eM]
theorem KH(a b:List Nat):ed P h .gtr t x y (.str a) (.str b)= .val (.bool (!(cE a b||cL a b))) h:=by simp only[ed,d_,jR,E_,eM]
theorem rH(a b:List Nat):ed P h .geq t x y (.str a) (.str b)= .val (.bool (!cE a b)) h:=by simp only[ed,d_,jR,E_,eM]
end
theorem ez:bytesOf {data:= #[]}=[]:=rfl
theorem e00:bytesOf {data:= #[0]}=[0]:=rfl
def fL(k key fin:List Nat):Bool:=if fin=[]then decide (k=key)else(!cE k key&&(decide (fin=[0])||cE k fin))
theorem Q1(h:H)(k key fin:List Nat):bW P (.enter 49 [.str k,.str key,.str fin] h) (cQ h (.bool (fL k key fin))):=by
 unfold fL;by_cases q:fin=[]
 ·have d1:decide (fin=[])=true:=decide_eq_true q
  rw[if_pos q];refine bn (fn:=Tryz.f49) (c:=bD Tryz.f49) Tryz.func49 rfl ?_;show bB P 49 24 none _ _ _ _ _;refine bp ?_;refine rN ?_ (V ez<|V d1<|V @rH<|@ji);exact⟨rfl,Og.refl _ _⟩
 ·have d1:decide (fin=[])=false:=decide_eq_false q
  rw[if_neg q];cases q2:cE k key with
  |true=>
   refine bn (fn:=Tryz.f49) (c:=bD Tryz.f49) Tryz.func49 rfl ?_;show bB P 49 24 none _ _ _ _ _;refine bp ?_;refine rN ?_ (V ez<|V e00<|V d1<|V @rH<|V @ji<|V q2<|@ak);exact⟨rfl,Og.refl _ _⟩
  | false=>
   by_cases q3:fin=[0]
   ·have d3:decide (fin=[0])=true:=decide_eq_true q3
    refine bn (fn:=Tryz.f49) (c:=bD Tryz.f49) Tryz.func49 rfl ?_;show bB P 49 24 none _ _ _ _ _;refine bp ?_;refine rN ?_ (V ez<|V e00<|V d1<|V d3<|V @rH<|V @ji<|V q2<|@al);exact⟨rfl,Og.refl _ _⟩
   ·have d3:decide (fin=[0])=false:=decide_eq_false q3
    refine bn (fn:=Tryz.f49) (c:=bD Tryz.f49) Tryz.func49 rfl ?_;show bB P 49 24 none _ _ _ _ _;refine bp ?_;refine rN ?_ (V ez<|V e00<|V d1<|V d3<|V @rH<|V @ji<|V q2<|@al);exact⟨rfl,Og.refl _ _⟩
def Mp(o:Op):Bool:=decide (o.rev=0)&&(o.dA== .ofNat 0)&& !o.count&& !o.keys
def Mq(o:Op):Bool:=
 if o.kind== .ofNat 0 then decide (o.val=[])&& !o.prev&&decide (o.rev≤1099511627776)&&decide (.ofNat 0≤o.dA)&&decide (o.dA≤.ofNat 1000)
 else if o.kind== .ofNat 1 then Mp o&&decide (o.fin=[])&&decide (o.val.length≤32)
 else if o.kind== .ofNat 2 then Mp o&&decide (o.val=[])else false
def qv(o:Op):Bool:=Mq o&& !decide (o.key=[])&&decide (o.key.length≤16)&&decide (o.fin.length≤16)
theorem mayC(h:H)(o:Op):bW P (.enter 67 [.agg o.cs] h) (cQ h (.bool (qv o))):=by
 unfold Op.cs;refine bn (fn:=Tryz.f67) (c:=bD Tryz.f67) Tryz.func67 rfl ?_;show bB P 67 90 none _ _ _ _ _;refine bp ?_;repeat' (first|((with_reducible refine gh ?_);(conv =>whnf);(with_reducible refine⟨?_⟩))|((with_reducible refine bE rfl ?_);(conv =>arg 2;whnf))|((with_reducible first|refine iB ?_ ?_|refine g_ ?_ ?_|refine hP ?_ ?_)<;>intro hb<;>(try simp only[hb]))|(simp only[B,F,ab,ae,af,ag,ah,ai, ↓reduceIte,eq_self,ez]))
 all_goals refine⟨?_,(Og.refl _ _).new _ _⟩
 all_goals simp only[qv,Mq,Mp, *,aU,Bool.true_and,Bool.false_and,Bool.and_false,if_true,if_false,aW,Bool.and_self]
end
end Go.Proofs.YtnedigoajoflaaaGreat.M
namespace Go.Proofs.YtnedigoajoflaaaGreat.M
open Go Go.AX
noncomputable section
set_option maxRecDepth 100000
theorem sS{l:List Nat}:(l.length<1)=(l=[]):=by
 rw[eq_iff_iff];cases l<;>simp
theorem Wm(h:H)(o:Op):bW P (.enter 72 [.agg o.cs] h) (cQ h (.bool (qv o))):=by
 unfold Op.cs;refine bn (fn:=Tryz.f72) (c:=bD Tryz.f72) Tryz.func72 rfl ?_;show bB P 72 95 none _ _ _ _ _;refine bp ?_;repeat' (first|((with_reducible refine gh ?_);(conv =>whnf);(with_reducible refine⟨?_⟩))|((with_reducible refine bE rfl ?_);(conv =>arg 2;whnf))|((with_reducible first|refine iB ?_ ?_|refine g_ ?_ ?_|refine hP ?_ ?_)<;>intro hb<;>(try simp only[hb]))|(simp only[B,F,ab,ae,af,ag,ah,ai, ↓reduceIte,eq_self,ez]))
 all_goals refine⟨congrArg AV.bool ?_,(Og.refl _ _).new _ _⟩
 all_goals(have l0:=sS (l:=o.key);rw[aG];simp only[qv,Mq,Mp];grind)
def rI(c:iD):Bool:=
 !decide (c.key=[])&&decide (c.key.length≤16)&&decide (.ofNat 0≤c.np)&&decide (c.np≤.ofNat 3)&&decide (.ofNat 0≤c.hY)&&decide (c.hY≤.ofNat 3)&&
  (if c.np== .ofNat 3 then decide (c.n=0)&&decide (c.val.length≤32)else decide (c.val=[]))
theorem Wn(h:H)(c:iD):bW P (.enter 89 [.agg c.cs] h) (cQ h (.bool (rI c))):=by
 unfold iD.cs;refine bn (fn:=Tryz.f89) (c:=bD Tryz.f89) Tryz.func89 rfl ?_;show bB P 89 63 none _ _ _ _ _;refine bp ?_;repeat' (first|((with_reducible refine gh ?_);(conv =>whnf);(with_reducible refine⟨?_⟩))|((with_reducible refine fh ?_ rfl rfl ?_ ?_);exact rfl;kernel_rfl;(conv =>arg 5;whnf);(conv =>arg 3;whnf))|((with_reducible refine bE rfl ?_);(conv =>arg 2;whnf))|((with_reducible first|refine iB ?_ ?_|refine g_ ?_ ?_|refine hP ?_ ?_|refine pL ?_ ?_|refine pM ?_ ?_)<;>intro hb<;>(try simp only[hb]))|((with_reducible show cU _ _ _ _ _ _ _ _ _);first|((with_reducible refine fj ?_ ?_);exact rfl)|((with_reducible apply fm);exact rfl;exact rfl)|((with_reducible refine fo ?_ ?_ ?_);exact rfl;kernel_rfl)|((with_reducible apply fp);exact rfl;exact rfl)|((with_reducible refine fq ?_ ?_ ?_ ?_ ?_);exact rfl;kernel_rfl;exact rfl)|((with_reducible apply ft);exact rfl;kernel_rfl;exact rfl)|((with_reducible refine fi ?_ ?_)))|((with_reducible show il _ _ _ _ _ _);first|(exact cK)|(refine eB ?_ ?_ ?_;exact rfl)|(apply eC;exact rfl;exact rfl)|(refine eD ?_ ?_ ?_ ?_;exact rfl;kernel_rfl)|(apply eF;exact rfl)|(apply eE;exact rfl;exact rfl))|((with_reducible refine bX ?_);kernel_rfl)|(simp only[B,xB,F,ab,ae,af,ag,ah,ai, ↓reduceIte,eq_self,ez]))
 all_goals refine⟨congrArg AV.bool ?_,(Og.refl _ _).new _ _⟩
 all_goals(have l0:=sS (l:=c.key);have l2:c.val=[]→c.val.length≤32:=(fun e=>by rw[e];simp);rw[aG];simp only[rI];grind)
theorem KI(h:H)(c:iD):bW P (.enter 98 [.agg c.cs] h) (cQ h (.bool (rI c))):=by
 unfold iD.cs;refine bn (fn:=Tryz.f98) (c:=bD Tryz.f98) Tryz.func98 rfl ?_;show bB P 98 48 none _ _ _ _ _;refine bp ?_;repeat' (first|((with_reducible refine gh ?_);(conv =>whnf);(with_reducible refine⟨?_⟩))|((with_reducible refine bE rfl ?_);(conv =>arg 2;whnf))|((with_reducible first|refine iB ?_ ?_|refine g_ ?_ ?_|refine hP ?_ ?_)<;>intro hb<;>(try simp only[hb]))|(simp only[B,F,ab,ae,af,ag,ah,ai, ↓reduceIte,eq_self,ez]))
 all_goals refine⟨congrArg AV.bool ?_,(Og.refl _ _).new _ _⟩
 all_goals(have l0:=sS (l:=c.key);have l2:c.val=[]→c.val.length≤32:=(fun e=>by rw[e];simp);rw[aG];simp only[rI];grind)
#print axioms KI
theorem vJ{α:Type}{cs:α→List AV}{sz:Nat}(hs:∀x,(cs x).length=sz):∀{l:List α}{i:Nat}{x:α},l[i]? =some x→∀k,k<sz→(l.flatMap cs)[i*sz+k]? =(cs x)[k]? ∧i*sz+k<(l.flatMap cs).length
 |[],i,x,h=>by simp at h
 |a::l,0,x,h=>fun k hk=>by
  simp at h;subst h;rw[aO,aY,aL,List.getElem?_append_left (by rw[hs];exact hk),aN,hs];exact⟨rfl,by omega⟩
 |a::l,i+1,x,h=>fun k hk=>by
  obtain⟨h1,h2⟩:=vJ hs (l:=l) (i:=i) (x:=x) (by simpa using h) k hk;have e:(i+1)*sz+k=sz+(i*sz+k):=by rw[Nat.add_mul,Nat.one_mul];omega
  rw[aO,e,List.getElem?_append_right (by rw[hs];omega),aN,hs,Nat.add_sub_cancel_left];exact⟨h1,by omega⟩
theorem B2{α:Type}{cs:α→List AV}{sz:Nat}(hs:∀x,(cs x).length=sz):∀l:List α,(l.flatMap cs).length=l.length*sz
 |[]=>by simp
 |a::l=>by rw[aO,aN,hs,B2 hs l,List.length_cons,Nat.add_mul,Nat.one_mul];omega
theorem jv{α:Type}{cs:α→List AV}{sz:Nat}(hs:∀x,(cs x).length=sz){h:H}{b o n:Nat}{cap:ur}{l:List α}(sl:br h (.slice b o n cap) n (l.flatMap cs)){i:Nat}{x:α}(hx:l[i]? =some x){k:Nat}(hk:k<sz):cellAt h b (o+(i*sz+k))=(cs x)[k]? :=by
 obtain⟨h1,h2⟩:=vJ hs hx k hk;cases sl with
 |cell b o n cap mS hb hc=>
  have:=hc _ h2;rw[h1]at this;exact this
theorem iD.len(x:iD):x.cs.length=5:=rfl
theorem Op.len(x:Op):x.cs.length=9:=rfl
theorem iD.at{h:H}{b o n:Nat}{cap:ur}{l:List iD}(sl:br h (.slice b o n cap) n (l.flatMap iD.cs)){i:Nat}{x:iD}(hx:l[i]? =some x):cellAt h b (o+i*5)=some (.str x.key)∧cellAt h b (o+(i*5+1))=some (.int .i64 x.np)∧cellAt h b (o+(i*5+2))=some (.int .i64 x.hY)∧cellAt h b (o+(i*5+3))=some (.int .u64 (.ofNat x.n))∧cellAt h b (o+(i*5+4))=some (.str x.val):=by
 have g:∀k,k<5→cellAt h b (o+(i*5+k))=x.cs[k]? :=fun k hk=>jv iD.len sl hx hk;exact⟨g 0 (by omega),g 1 (by omega),g 2 (by omega),g 3 (by omega),g 4 (by omega)⟩
theorem Op.at{h:H}{b o n:Nat}{cap:ur}{l:List Op}(sl:br h (.slice b o n cap) n (l.flatMap Op.cs)){i:Nat}{x:Op}(hx:l[i]? =some x):cellAt h b (o+i*9)=some (.int .i64 x.kind)∧cellAt h b (o+(i*9+1))=some (.str x.key)∧cellAt h b (o+(i*9+2))=some (.str x.fin)∧cellAt h b (o+(i*9+3))=some (.str x.val)∧cellAt h b (o+(i*9+4))=some (.int .u64 (.ofNat x.rev))∧cellAt h b (o+(i*9+5))=some (.int .i64 x.dA)∧cellAt h b (o+(i*9+6))=some (.bool x.count)∧cellAt h b (o+(i*9+7))=some (.bool x.keys)∧cellAt h b (o+(i*9+8))=some (.bool x.prev):=by
 have g:∀k,k<9→cellAt h b (o+(i*9+k))=x.cs[k]? :=fun k hk=>jv Op.len sl hx hk;exact⟨g 0 (by omega),g 1 (by omega),g 2 (by omega),g 3 (by omega),g 4 (by omega),g 5 (by omega),g 6 (by omega),g 7 (by omega),g 8 (by omega)⟩
theorem Oi:P.underlying 35=some (.slice 68):=by kernel_rfl
theorem vK:P.underlying 36=some (.slice 41):=by kernel_rfl
theorem bxC(h:H)(c:iD):n_ h 68 c.cs= .val (.ptr h.nx 0) (h.bq 68 c.cs):=jb rfl
theorem bxO(h:H)(c:Op):n_ h 41 c.cs= .val (.ptr h.nx 0) (h.bq 41 c.cs):=jb rfl
theorem Uf(h:H)(c:iD):bW P (.enter 100 [.agg c.cs] h) (cQ h (.bool (!rI c))):=by
 have hr:(h.bq 68 c.cs).row h.nx 0 5=some c.cs:=gK (o:=0) (cs:=c.cs) (fun j hj=>by rw[bJ,aL,if_pos rfl]) (by simp[iD.cs]);refine bn (fn:=Tryz.f100) (c:=bD Tryz.f100) Tryz.func100 rfl ?_;show bB P 100 6 none _ _ _ _ _;refine bp ?_;refine rN ?_ (V bxC<|hr);refine((Wn (h.bq 68 c.cs) c).call P).mono P ?_;rintro _ h2 ⟨rfl,o2⟩;refine kM ?_;exact⟨rfl,((Og.refl _ _).new _ _).t o2⟩
theorem Q2(h:H)(c:Op):bW P (.enter 66 [.agg c.cs] h) (cQ h (.bool (!qv c))):=by
 have hr:(h.bq 41 c.cs).row h.nx 0 9=some c.cs:=gK (o:=0) (cs:=c.cs) (fun j hj=>by rw[bJ,aL,if_pos rfl]) (by simp[Op.cs]);refine bn (fn:=Tryz.f66) (c:=bD Tryz.f66) Tryz.func66 rfl ?_;show bB P 66 6 none _ _ _ _ _;refine bp ?_;refine rN ?_ (V bxO<|hr);refine((mayC (h.bq 41 c.cs) c).call P).mono P ?_;rintro _ h2 ⟨rfl,o2⟩;refine kM ?_;exact⟨rfl,((Og.refl _ _).new _ _).t o2⟩
structure cixI(h0:H)(va fv:AV)(l:List iD)(pr:iD→Bool)(m:Nat)(ds:List Nat)(tm:T AV)(h:H)(i:Nat):Prop where
 ds:ds=[]
 nn:m=l.length-i
 ii:i≤l.length
 t0:tm.get 0=some va
 t1:tm.get 1=some fv
 t7:tm.get 7=some (.int .i64 (.ofNat l.length))
 t8:tm.get 8=some (.int .i64 (.ofNat i))
 no:∀j x,j<i→l[j]? =some x→pr x=false
 oo:Og h0 h []
theorem cixC(h0:H)(va fv:AV)(l:List iD)(pr:iD→Bool)(sl:br h0 va l.length (l.flatMap iD.cs))(hz:l.length≤1000000)(g:Nat)(fs cap:List AV)(hf:fv= .func g fs cap)(jO:∀args h,je P fv args h= .enter g (fs++args++cap) h)
  (hg:∀(x:iD)(h:H),x∈l→Og h0 h []→bW P (.enter g (fs++[.agg x.cs]++cap) h) (cQ h (.bool (pr x)))):
  bW P (.enter 96 [va,fv] h0) fun v h'=>Og h0 h' []∧((v= .int .i64 (-1)∧∀x,x∈l→pr x=false)∨∃i:Nat,v= .int .i64 (.ofNat i)∧∃x,l[i]? =some x∧pr x=true):=by
 have hlen:=sl.len (P:=P) Oi;refine bn (fn:=Tryz.f96) (c:=bD Tryz.f96) Tryz.func96 rfl ?_;show bB P 96 19 none _ _ _ _ _;refine bp ?_;refine rN ?_ (hlen);refine cn (fun m ds tm h=>∃i,cixI h0 va fv l pr m ds tm h i) l.length rfl ⟨0,rfl,rfl,au _,by exact sT,by exact sT,by exact sT,by exact sT,fun j x hj=>absurd hj (by omega),Og.refl _ _⟩ (fun m ds tm h hI=>?_);obtain⟨i,rfl,rfl,ii,t0,t1,t7,t8,no,oo⟩:=hI;by_cases hi:i<l.length
 ·have di:decide (i<l.length)=true:=decide_eq_true hi
  have dX:(i<l.length)=True:=by simp[hi]
  obtain⟨x,hx⟩:∃x,l[i]? =some x:=⟨_,aq hi⟩;have jk:=br.only oo.1 sl (fun _ _=>by simp);obtain⟨bv,ov,cv,rfl,qw,-⟩:=sl.place (by omega);obtain⟨q0,q1,q2,q3,q4⟩:=iD.at jk hx;have w1:bV .i64 (an i+an 1)=an (i+1):=cq (by omega);refine rN ?_ (V t0<|V t1<|V t7<|V t8<|V hlen<|V di<|V dX<|V q0<|V q1<|V q2<|V q3<|V q4<|jO);refine((hg x h (az hx) oo).call P).mono P ?_;rintro _ h2 ⟨rfl,o2⟩;cases q:pr x with
  |true=>
   refine rN ?_ (q);exact⟨oo.t o2,.inr ⟨i,rfl,x,hx,q⟩⟩
  | false=>
   refine rN ?_ (V q<|V t8<|w1);refine⟨l.length-(i+1),by omega,i+1,rfl,rfl,by omega,by exact sT,by exact sT,by exact sT,by exact sT,fun j y hj hy=>?_,oo.t o2⟩;by_cases e:j<i
   ·exact no j y e hy
   ·obtain rfl:j=i:=by omega
    rw[hx]at hy;cases hy;exact q
 ·have di:decide (i<l.length)=false:=decide_eq_false hi
  obtain rfl:i=l.length:=by omega
  refine rN ?_ (V t0<|V t1<|V t7<|V t8<|V hlen<|di);exact⟨oo,.inl ⟨rfl,fun x hx=>by
   obtain⟨j,hj⟩:=List.mem_iff_getElem?.1 hx;exact no j x (List.getElem?_eq_some_iff.1 hj).1 hj⟩⟩
theorem cixA(h0:H)(va fv:AV)(l:List iD)(pr:iD→Bool)(sl:br h0 va l.length (l.flatMap iD.cs))(hz:l.length≤1000000)(g:Nat)(fs cap:List AV)(hf:fv= .func g fs cap)(jO:∀args h,je P fv args h= .enter g (fs++args++cap) h)
  (hg:∀(x:iD)(h:H),x∈l→Og h0 h []→bW P (.enter g (fs++[.agg x.cs]++cap) h) (cQ h (.bool (pr x)))):
  bW P (.enter 56 [va,fv] h0) (cQ h0 (.bool (l.any pr))):=by
 refine bn (fn:=Tryz.f56) (c:=bD Tryz.f56) Tryz.func56 rfl ?_;show bB P 56 9 none _ _ _ _ _;refine bp ?_;refine kM ?_;refine((cixC h0 va fv l pr sl hz g fs cap hf jO hg).call P).mono P ?_;rintro v h2 ⟨o2,⟨rfl,TC⟩|⟨i,rfl,x,hx,hp⟩⟩
 ·have e:l.any pr=false:=by
   rw[List.any_eq_false];intro x hx;rw[TC x hx];simp
  have d1:decide (an 0≤(-1:Int))=false:=rfl;rw[e];refine rN ?_ (d1);exact⟨rfl,o2⟩
 ·have e:l.any pr=true:=by
   rw[List.any_eq_true];exact⟨x,az hx,hp⟩
  rw[e];have d1:decide (0≤i)=true:=decide_eq_true (au _);refine rN ?_ (d1);exact⟨rfl,o2⟩
structure oixI(h0:H)(va fv:AV)(l:List Op)(pr:Op→Bool)(m:Nat)(ds:List Nat)(tm:T AV)(h:H)(i:Nat):Prop where
 ds:ds=[]
 nn:m=l.length-i
 ii:i≤l.length
 t0:tm.get 0=some va
 t1:tm.get 1=some fv
 t7:tm.get 7=some (.int .i64 (.ofNat l.length))
 t8:tm.get 8=some (.int .i64 (.ofNat i))
 no:∀j x,j<i→l[j]? =some x→pr x=false
 oo:Og h0 h []
theorem oixC(h0:H)(va fv:AV)(l:List Op)(pr:Op→Bool)(sl:br h0 va l.length (l.flatMap Op.cs))(hz:l.length≤1000000)(g:Nat)(fs cap:List AV)(hf:fv= .func g fs cap)(jO:∀args h,je P fv args h= .enter g (fs++args++cap) h)
  (hg:∀(x:Op)(h:H),x∈l→Og h0 h []→bW P (.enter g (fs++[.agg x.cs]++cap) h) (cQ h (.bool (pr x)))):
  bW P (.enter 101 [va,fv] h0) fun v h'=>Og h0 h' []∧((v= .int .i64 (-1)∧∀x,x∈l→pr x=false)∨∃i:Nat,v= .int .i64 (.ofNat i)∧∃x,l[i]? =some x∧pr x=true):=by
 have hlen:=sl.len (P:=P) vK;refine bn (fn:=Tryz.f101) (c:=bD Tryz.f101) Tryz.func101 rfl ?_;show bB P 101 19 none _ _ _ _ _;refine bp ?_;refine rN ?_ (hlen);refine cn (fun m ds tm h=>∃i,oixI h0 va fv l pr m ds tm h i) l.length rfl ⟨0,rfl,rfl,au _,by exact sT,by exact sT,by exact sT,by exact sT,fun j x hj=>absurd hj (by omega),Og.refl _ _⟩ (fun m ds tm h hI=>?_);obtain⟨i,rfl,rfl,ii,t0,t1,t7,t8,no,oo⟩:=hI;by_cases hi:i<l.length
 ·have di:decide (i<l.length)=true:=decide_eq_true hi
  have dX:(i<l.length)=True:=by simp[hi]
  obtain⟨x,hx⟩:∃x,l[i]? =some x:=⟨_,aq hi⟩;have jk:=br.only oo.1 sl (fun _ _=>by simp);obtain⟨bv,ov,cv,rfl,qw,-⟩:=sl.place (by omega);obtain⟨q0,q1,q2,q3,q4,q5,q6,q7,q8⟩:=Op.at jk hx;have w1:bV .i64 (an i+an 1)=an (i+1):=cq (by omega);refine rN ?_ (V t0<|V t1<|V t7<|V t8<|V hlen<|V di<|V dX<|V q0<|V q1<|V q2<|V q3<|V q4<|V q5<|V q6<|V q7<|V q8<|jO);refine((hg x h (az hx) oo).call P).mono P ?_;rintro _ h2 ⟨rfl,o2⟩;cases q:pr x with
  |true=>
   refine rN ?_ (q);exact⟨oo.t o2,.inr ⟨i,rfl,x,hx,q⟩⟩
  | false=>
   refine rN ?_ (V q<|V t8<|w1);refine⟨l.length-(i+1),by omega,i+1,rfl,rfl,by omega,by exact sT,by exact sT,by exact sT,by exact sT,fun j y hj hy=>?_,oo.t o2⟩;by_cases e:j<i
   ·exact no j y e hy
   ·obtain rfl:j=i:=by omega
    rw[hx]at hy;cases hy;exact q
 ·have di:decide (i<l.length)=false:=decide_eq_false hi
  obtain rfl:i=l.length:=by omega
  refine rN ?_ (V t0<|V t1<|V t7<|V t8<|V hlen<|di);exact⟨oo,.inl ⟨rfl,fun x hx=>by
   obtain⟨j,hj⟩:=List.mem_iff_getElem?.1 hx;exact no j x (List.getElem?_eq_some_iff.1 hj).1 hj⟩⟩
theorem oixA(h0:H)(va fv:AV)(l:List Op)(pr:Op→Bool)(sl:br h0 va l.length (l.flatMap Op.cs))(hz:l.length≤1000000)(g:Nat)(fs cap:List AV)(hf:fv= .func g fs cap)(jO:∀args h,je P fv args h= .enter g (fs++args++cap) h)
  (hg:∀(x:Op)(h:H),x∈l→Og h0 h []→bW P (.enter g (fs++[.agg x.cs]++cap) h) (cQ h (.bool (pr x)))):
  bW P (.enter 69 [va,fv] h0) (cQ h0 (.bool (l.any pr))):=by
 refine bn (fn:=Tryz.f69) (c:=bD Tryz.f69) Tryz.func69 rfl ?_;show bB P 69 9 none _ _ _ _ _;refine bp ?_;refine kM ?_;refine((oixC h0 va fv l pr sl hz g fs cap hf jO hg).call P).mono P ?_;rintro v h2 ⟨o2,⟨rfl,TC⟩|⟨i,rfl,x,hx,hp⟩⟩
 ·have e:l.any pr=false:=by
   rw[List.any_eq_false];intro x hx;rw[TC x hx];simp
  have d1:decide (an 0≤(-1:Int))=false:=rfl;rw[e];refine rN ?_ (d1);exact⟨rfl,o2⟩
 ·have e:l.any pr=true:=by
   rw[List.any_eq_true];exact⟨x,az hx,hp⟩
  rw[e];have d1:decide (0≤i)=true:=decide_eq_true (au _);refine rN ?_ (d1);exact⟨rfl,o2⟩
def nq(l:List iD):Nat:=if 4<l.length then 3 else if l.all rI then 0 else 11
theorem zz{α:Type}(p:α→Bool):∀l:List α,(l.any fun x=> !p x)= !l.all p
 |[]=>rfl
 |a::l=>by rw[List.any_cons,List.all_cons,zz p l];cases p a<;>rfl
theorem cH{h:H}{v:AV}{n:Nat}{cs:List AV}(s:br h v n cs):v.one=true:=by cases s<;>rfl
theorem Ug(h0:H)(va:AV)(l:List iD)(sl:br h0 va l.length (l.flatMap iD.cs))(hz:l.length≤1000000):bW P (.enter 68 [va] h0) (cQ h0 (.int .i64 (.ofNat (nq l)))):=by
 have hlen:=sl.len (P:=P) Oi;unfold nq;by_cases q:4<l.length
 ·have d:decide (4<l.length)=true:=decide_eq_true q
  rw[if_pos q];refine bn (fn:=Tryz.f68) (c:=bD Tryz.f68) Tryz.func68 rfl ?_;show bB P 68 10 none _ _ _ _ _;refine bp ?_;refine rN ?_ (V hlen<|d);exact⟨rfl,Og.refl _ _⟩
 ·have d:decide (4<l.length)=false:=decide_eq_false q
  rw[if_neg q];refine bn (fn:=Tryz.f68) (c:=bD Tryz.f68) Tryz.func68 rfl ?_;show bB P 68 10 none _ _ _ _ _;refine bp ?_;refine rN ?_ (V hlen<|d);refine((cixA h0 va (.func 100 [] []) l (fun c=> !rI c) sl hz 100 [] [] rfl (fun args h=>bz 100 (by kernel_rfl) [] [] args) (fun x h hx oo=>Uf h x)).call P).mono P ?_;rintro _ h2 ⟨rfl,o2⟩;rw[zz];cases q2:l.all rI with
  |true=>
   refine rN ?_ (@ak);exact⟨rfl,o2⟩
  |false=>
   refine rN ?_ (@al);exact⟨rfl,o2⟩
structure RcI(h0:H)(va:AV)(l:List iD)(m:Nat)(ds:List Nat)(tm:T AV)(h:H)(i:Nat):Prop where
 ds:ds=[]
 nn:m=l.length-i
 ii:i≤l.length
 t0:tm.get 0=some va
 t3:tm.get 3=some (.int .i64 (.ofNat i))
 ok:∀j x,j<i→l[j]? =some x→rI x=true
 oo:Og h0 h []
theorem Uh(h0:H)(va:AV)(l:List iD)(sl:br h0 va l.length (l.flatMap iD.cs))(hz:l.length≤1000000):bW P (.enter 71 [va] h0) (cQ h0 (.int .i64 (.ofNat (nq l)))):=by
 have hlen:=sl.len (P:=P) Oi;unfold nq;by_cases q:4<l.length
 ·have d:decide (4<l.length)=true:=decide_eq_true q
  rw[if_pos q];refine bn (fn:=Tryz.f71) (c:=bD Tryz.f71) Tryz.func71 rfl ?_;show bB P 71 19 none _ _ _ _ _;refine bp ?_;refine rN ?_ (V hlen<|d);exact⟨rfl,Og.refl _ _⟩
 have d:decide (4<l.length)=false:=decide_eq_false q;rw[if_neg q];refine bn (fn:=Tryz.f71) (c:=bD Tryz.f71) Tryz.func71 rfl ?_;show bB P 71 19 none _ _ _ _ _;refine bp ?_;refine rN ?_ (V hlen<|d);refine cn (fun m ds tm h=>∃i,RcI h0 va l m ds tm h i) l.length rfl ⟨0,rfl,rfl,au _,by exact sT,by exact sT,fun j x hj=>absurd hj (by omega),Og.refl _ _⟩ (fun m ds tm h hI=>?_);obtain⟨i,rfl,rfl,ii,t0,t3,ok,oo⟩:=hI;by_cases hi:i<l.length
 ·have di:decide (i<l.length)=true:=decide_eq_true hi
  have dX:(i<l.length)=True:=by simp[hi]
  obtain⟨x,hx⟩:∃x,l[i]? =some x:=⟨_,aq hi⟩;have jk:=br.only oo.1 sl (fun _ _=>by simp);obtain⟨bv,ov,cv,rfl,qw,-⟩:=sl.place (by omega);obtain⟨q0,q1,q2,q3,q4⟩:=iD.at jk hx;have w1:bV .i64 (an i+an 1)=an (i+1):=cq (by omega);refine rN ?_ (V t0<|V t3<|V hlen<|V di<|V dX<|V q0<|V q1<|V q2<|V q3<|q4);refine((KI h x).call P).mono P ?_;rintro _ h2 ⟨rfl,o2⟩;cases q:rI x with
  | true=>
   refine rN ?_ (V @ak<|V t3<|w1);refine⟨l.length-(i+1),by omega,i+1,rfl,rfl,by omega,by exact sT,by exact sT,fun j y hj hy=>?_,oo.t o2⟩;by_cases e:j<i
   ·exact ok j y e hy
   ·obtain rfl:j=i:=by omega
    rw[hx]at hy;cases hy;exact q
  | false=>
   have e:l.all rI=false:=by
    rw[List.all_eq_false];exact⟨x,az hx,by rw[q];simp⟩
   rw[e];refine rN ?_ (@al);exact⟨rfl,oo.t o2⟩
 ·have di:decide (i<l.length)=false:=decide_eq_false hi
  obtain rfl:i=l.length:=by omega
  have e:l.all rI=true:=by
   rw[List.all_eq_true];intro x hx;obtain⟨j,hj⟩:=List.mem_iff_getElem?.1 hx;exact ok j x (List.getElem?_eq_some_iff.1 hj).1 hj
  rw[e];refine rN ?_ (V t0<|V t3<|V hlen<|di);exact⟨rfl,oo⟩
theorem xl:∀{l:List AV},(∀v,v∈l→v.one=true)→dN l=true
 |[],_=>rfl
 |v::l,h=>by
  have ih:=xl (l:=l) fun x hx=>h x (by simp[hx]);have hv:=h v (by simp);unfold dN;rw[hv];exact ih
structure Rq where
 kind:Int
 lh:Nat
 num:Nat
 lq:Bool
 eO:List iD
 th:List Op
 el:List Op
 rev:Nat
def Rq.cs(r:Rq)(vc vt ve:AV):List AV:=[.int .i64 r.kind,.int .u64 (.ofNat r.lh),.int .u64 (.ofNat r.num),.bool r.lq,vc,vt,ve,.int .u64 (.ofNat r.rev)]
structure ua(h:H)(r:Rq)(vc vt ve:AV):Prop where
 sc:br h vc r.eO.length (r.eO.flatMap iD.cs)
 st:br h vt r.th.length (r.th.flatMap Op.cs)
 se:br h ve r.el.length (r.el.flatMap Op.cs)
 zc:r.eO.length≤1000000
 zt:r.th.length≤1000000
 ze:r.el.length≤1000000
theorem ua.bU{h h':H}{r:Rq}{vc vt ve:AV}(a:ua h r vc vt ve)(o:Og h h' []):ua h' r vc vt ve:=
 ⟨br.only o.1 a.sc (fun _ _=>by simp),br.only o.1 a.st (fun _ _=>by simp),br.only o.1 a.se (fun _ _=>by simp),a.zc,a.zt,a.ze⟩
def cW(r:Rq):Nat:=if r.kind=0∧nq r.eO=0∧r.th.length≤6∧r.el.length≤6∧r.th.all qv=true∧r.el.all qv=true then 0 else 11
theorem Mr(h0:H)(r:Rq)(vc vt ve:AV)(ra:ua h0 r vc vt ve):bW P (.enter 29 [.agg (r.cs vc vt ve)] h0) (cQ h0 (.int .i64 (.ofNat (cW r)))):=by
 have oc:=cH ra.sc;have ot:=cH ra.st;have oe:=cH ra.se;obtain⟨h1,cC⟩:∃h1,h1=h0.bq 38 (r.cs vc vt ve):=⟨_,rfl⟩;have o1:Og h0 h1 []:=by rw[cC];exact(Og.refl _ _).new _ _
 have c1:∀j,cellAt h1 h0.nx j=(r.cs vc vt ve)[j]? :=fun j=>by rw[cC,bJ,if_pos rfl]
 have x1:h1.nx=h0.nx+1:=by rw[cC];rfl
 have bx:n_ h0 38 (r.cs vc vt ve)= .val (.ptr h0.nx 0) h1:=by
  rw[cC];refine jb (xl fun v hv=>?_);unfold Rq.cs at hv;simp only[List.mem_cons,List.mem_nil_iff,or_false]at hv;rcases hv with rfl|rfl|rfl|rfl|rfl|rfl|rfl|rfl<;>first|rfl|assumption
 have y0:cellAt h1 h0.nx 0=some (.int .i64 r.kind):=c1 0;have y4:cellAt h1 h0.nx 4=some vc:=c1 4;have y5:cellAt h1 h0.nx 5=some vt:=c1 5;have y6:cellAt h1 h0.nx 6=some ve:=c1 6;have Za:=ra.bU o1;have lt:=ra.st.len (P:=P) vK;have le:=ra.se.len (P:=P) vK;by_cases q0:r.kind=0
 ·have d0:(r.kind != an 0)=false:=by rw[q0];rfl
  refine bn (fn:=Tryz.f29) (c:=bD Tryz.f29) Tryz.func29 rfl ?_;show bB P 29 37 none _ _ _ _ _;refine bp ?_;refine rN ?_ (V bx<|V y0<|V y4<|V y5<|V y6<|d0);refine((Ug h1 vc r.eO Za.sc Za.zc).call P).mono P ?_;rintro _ h2 ⟨rfl,o2⟩;have z5:=kc y5 o2 (by omega) (by simp);have z6:=kc y6 o2 (by omega) (by simp);by_cases q1:nq r.eO=0
  ·have d1:decide (nq r.eO=0)=true:=decide_eq_true q1
   by_cases q2:6<r.th.length
   ·have d2:decide (6<r.th.length)=true:=decide_eq_true q2
    have e:cW r=11:=if_neg (fun h=>by have:=h.2.2.1;omega);rw[e];refine rN ?_ (V z5<|V z6<|V d1<|V @ak<|V lt<|V ot<|d2);exact⟨rfl,o1.t o2⟩
   have d2:decide (6<r.th.length)=false:=decide_eq_false q2;by_cases q3:6<r.el.length
   ·have d3:decide (6<r.el.length)=true:=decide_eq_true q3
    have e:cW r=11:=if_neg (fun h=>by have:=h.2.2.2.1;omega);rw[e];refine rN ?_ (V z5<|V z6<|V d1<|V @ak<|V lt<|V ot<|V d2<|V le<|V oe<|d3);exact⟨rfl,o1.t o2⟩
   have d3:decide (6<r.el.length)=false:=decide_eq_false q3;have Da:=Za.bU o2;refine rN ?_ (V z5<|V z6<|V d1<|V @ak<|V lt<|V ot<|V d2<|V le<|V oe<|d3);refine((oixA h2 vt (.func 66 [] []) r.th (fun c=> !qv c) Da.st Da.zt 66 [] [] rfl (fun args h=>bz 66 (by kernel_rfl) [] [] args) (fun x h hx oo=>Q2 h x)).call P).mono P ?_;rintro _ h3 ⟨rfl,o3⟩;rw[zz];have w6:=kc z6 o3 (by have:=o2.1.1;omega) (by simp);have Zb:=Da.bU o3;cases q4:r.th.all qv with
   |false=>
    have e:cW r=11:=if_neg (fun h=>by rw[q4]at h;simp at h);rw[e];refine rN ?_ (@al);exact⟨rfl,(o1.t o2).t o3⟩
   | true=>
    refine rN ?_ (V @ak<|w6);refine((oixA h3 ve (.func 66 [] []) r.el (fun c=> !qv c) Zb.se Zb.ze 66 [] [] rfl (fun args h=>bz 66 (by kernel_rfl) [] [] args) (fun x h hx oo=>Q2 h x)).call P).mono P ?_;rintro _ h4 ⟨rfl,o4⟩;rw[zz];cases q5:r.el.all qv with
    |false=>
     have e:cW r=11:=if_neg (fun h=>by rw[q5]at h;simp at h);rw[e];refine rN ?_ (@al);exact⟨rfl,((o1.t o2).t o3).t o4⟩
    |true=>
     have e:cW r=0:=if_pos ⟨q0,q1,by omega,by omega,q4,q5⟩;rw[e];refine rN ?_ (@ak);exact⟨rfl,((o1.t o2).t o3).t o4⟩
  ·have d1:decide (nq r.eO=0)=false:=decide_eq_false q1
   have e:cW r=11:=if_neg (fun h=>q1 h.2.1);rw[e];refine rN ?_ (V d1<|@al);exact⟨rfl,o1.t o2⟩
 ·have d0:(r.kind != an 0)=true:=by simpa using q0
  have e:cW r=11:=if_neg (fun h=>q0 h.1);rw[e];refine bn (fn:=Tryz.f29) (c:=bD Tryz.f29) Tryz.func29 rfl ?_;show bB P 29 37 none _ _ _ _ _;refine bp ?_;refine rN ?_ (V bx<|V y0<|V y4<|V y5<|V y6<|d0);exact⟨rfl,o1⟩
def oU(hY:Int)(less more:Bool):Bool:=if hY== .ofNat 0 then !less&& !more else if hY== .ofNat 1 then less||more else if hY== .ofNat 2 then less else more
theorem Ui(h:H)(hY:Int)(less more:Bool):bW P (.enter 99 [.int .i64 hY,.bool less,.bool more] h) (cQ h (.bool (oU hY less more))):=by
 unfold oU;cases less<;>cases more<;>(
  refine bn (fn:=Tryz.f99) (c:=bD Tryz.f99) Tryz.func99 rfl ?_;show bB P 99 26 none _ _ _ _ _;refine bp ?_;repeat' (first|((with_reducible refine gh ?_);(conv =>whnf);(with_reducible refine⟨?_⟩))|((with_reducible refine bE rfl ?_);(conv =>arg 2;whnf))|((with_reducible first|refine iB ?_ ?_|refine g_ ?_ ?_|refine hP ?_ ?_)<;>intro hb<;>(try simp only[hb]))|(simp only[B,F,ab,ae,af,ag,ah,ai, ↓reduceIte,eq_self,ak,al]))
  all_goals exact⟨congrArg AV.bool (by simp only[*,if_true,if_false,aW];try rfl),Og.refl _ _⟩)
def Iz(less more:Bool):Int:=if less then -1 else if more then 1 else 0
theorem Wo(h:H)(a:Nat):bW P (.enter 125 [.int .u64 (.ofNat a)] h) (cQ h (.bool false)):=by
 have d:decide (a=a)=true:=decide_eq_true rfl;refine bn (fn:=Tryz.f125) (c:=bD Tryz.f125) Tryz.func125 rfl ?_;show bB P 125 6 none _ _ _ _ _;refine bp ?_;refine rN ?_ (V d<|@ak);exact⟨rfl,Og.refl _ _⟩
theorem Wp(h:H)(a:List Nat):bW P (.enter 126 [.str a] h) (cQ h (.bool false)):=by
 have d:cL a a=true:=(eK a a).2 rfl;have d2:decide (a=a)=true:=decide_eq_true rfl;refine bn (fn:=Tryz.f126) (c:=bD Tryz.f126) Tryz.func126 rfl ?_;show bB P 126 6 none _ _ _ _ _;refine bp ?_;refine rN ?_ (V d<|V d2<|@ak);exact⟨rfl,Og.refl _ _⟩
theorem cmp80(h:H)(a b:Nat):bW P (.enter 110 [.int .u64 (.ofNat a),.int .u64 (.ofNat b)] h) (cQ h (.int .i64 (Iz (decide (a<b)) (decide (b<a))))):=by
 refine bn (fn:=Tryz.f110) (c:=bD Tryz.f110) Tryz.func110 rfl ?_;show bB P 110 20 none _ _ _ _ _;refine bp ?_;refine kM ?_;refine((Wo h a).call P).mono P ?_;rintro _ h1 ⟨rfl,o1⟩;refine kM ?_;refine((Wo h1 b).call P).mono P ?_;rintro _ h2 ⟨rfl,o2⟩;cases q1:decide (a<b)with
 |true=>
  refine rN ?_ (q1);exact⟨rfl,o1.t o2⟩
 | false=>
  cases q2:decide (b<a)with
  |true=>
   refine rN ?_ (V q1<|q2);exact⟨rfl,o1.t o2⟩
  |false=>
   refine rN ?_ (V q1<|q2);exact⟨rfl,o1.t o2⟩
def Q3(a b:List Nat):Bool:= !(cE a b||cL a b)
theorem cmp81(h:H)(a b:List Nat):bW P (.enter 111 [.str a,.str b] h) (cQ h (.int .i64 (Iz (cE a b) (Q3 a b)))):=by
 unfold Q3;refine bn (fn:=Tryz.f111) (c:=bD Tryz.f111) Tryz.func111 rfl ?_;show bB P 111 20 none _ _ _ _ _;refine bp ?_;refine kM ?_;refine((Wp h a).call P).mono P ?_;rintro _ h1 ⟨rfl,o1⟩;refine kM ?_;refine((Wp h1 b).call P).mono P ?_;rintro _ h2 ⟨rfl,o2⟩;cases q1:cE a b with
 |true=>
  refine rN ?_ (V @ji<|q1);exact⟨rfl,o1.t o2⟩
 | false=>
  cases q2:cL a b with
  |true=>
   refine rN ?_ (V @ji<|V @KH<|V q1<|V q2<|V @Bool.or_true<|@ak);exact⟨rfl,o1.t o2⟩
  |false=>
   refine rN ?_ (V @ji<|V @KH<|V q1<|V q2<|V @Bool.or_false<|@al);exact⟨rfl,o1.t o2⟩
theorem Uj{hY:Int}(h1:.ofNat 0≤hY)(h2:hY≤.ofNat 3):hY= .ofNat 0∨hY= .ofNat 1∨hY= .ofNat 2∨hY= .ofNat 3:=by
 have h1:(0:Int)≤hY:=h1;have h2:hY≤3:=h2;have :hY=0∨hY=1∨hY=2∨hY=3:=by omega
 exact this
theorem Ms{less more:Bool}(hx:less=true→more=false):(Iz less more== .ofNat 0)=(!less&& !more)∧(Iz less more != .ofNat 0)=(less||more)∧decide (Iz less more<.ofNat 0)=less∧decide (.ofNat 0<Iz less more)=more:=by
 cases less<;>cases more
 ·exact⟨rfl,rfl,rfl,rfl⟩
 ·exact⟨rfl,rfl,rfl,rfl⟩
 ·exact⟨rfl,rfl,rfl,rfl⟩
 ·exact Bool.noConfusion (hx rfl)
theorem u139a:P.underlying 171=some (.array 4 4):=by kernel_rfl
theorem co4b:P.cellsOf 4=1:=by kernel_rfl
theorem ag4b:Fb P 4=false:=by kernel_rfl
theorem ok4b:eQ P 4=true:=by kernel_rfl
theorem yI(a b c d:Bool)(k:Nat)(hk:k<4):nV P 171 (.agg [.bool a,.bool b,.bool c,.bool d]) (.int .i64 (.ofNat k))=[AV.bool a,.bool b,.bool c,.bool d][k]? :=by
 have hb:Nat.blt k 4=true:=aS hk;unfold nV;simp only[u139a,ok4b,co4b,hb,aU,xP,ag4b,Nat.mul_one]
theorem Q4(h:H)(a b:Nat)(hY:Int)(h1:.ofNat 0≤hY)(h2:hY≤.ofNat 3):bW P (.enter 91 [.int .u64 (.ofNat a),.int .u64 (.ofNat b),.int .i64 hY] h) (cQ h (.bool (oU hY (decide (a<b)) (decide (b<a))))):=by
 obtain⟨e1,e2,e3,e4⟩:=Ms (less:=decide (a<b)) (more:=decide (b<a)) (fun q=>by simp at q ⊢;omega);obtain⟨n,hn⟩:∃n,n=Iz (decide (a<b)) (decide (b<a)):=⟨_,rfl⟩;rw[←hn]at e1 e2 e3 e4;rcases Uj h1 h2 with rfl|rfl|rfl|rfl<;>(
  refine bn (fn:=Tryz.f91) (c:=bD Tryz.f91) Tryz.func91 rfl ?_;show bB P 91 22 none _ _ _ _ _;refine bp ?_;refine kM ?_;refine((cmp80 h a b).call P).mono P ?_;rintro _ h2 ⟨rfl,o2⟩;rw[←hn];repeat' (first|((with_reducible refine gh ?_);(conv =>whnf);(with_reducible refine⟨?_⟩))|((with_reducible refine bE rfl ?_);(conv =>arg 2;whnf))|((with_reducible first|refine iB ?_ ?_|refine g_ ?_ ?_|refine hP ?_ ?_)<;>intro hb<;>(try simp only[hb]))|(simp only[B,F,ab,ae,af,ag,ah,ai, ↓reduceIte,eq_self,e1,e2,e3,e4,yI _ _ _ _ 0 (by omega),yI _ _ _ _ 1 (by omega),yI _ _ _ _ 2 (by omega),yI _ _ _ _ 3 (by omega)]))
  exact⟨rfl,o2⟩)
theorem cmp67(h:H)(a b:List Nat)(hY:Int)(h1:.ofNat 0≤hY)(h2:hY≤.ofNat 3):bW P (.enter 95 [.str a,.str b,.int .i64 hY] h) (cQ h (.bool (oU hY (cE a b) (Q3 a b)))):=by
 obtain⟨e1,e2,e3,e4⟩:=Ms (less:=cE a b) (more:=Q3 a b) (fun q=>by unfold Q3;rw[q];rfl);obtain⟨n,hn⟩:∃n,n=Iz (cE a b) (Q3 a b):=⟨_,rfl⟩;rw[←hn]at e1 e2 e3 e4;rcases Uj h1 h2 with rfl|rfl|rfl|rfl<;>(
  refine bn (fn:=Tryz.f95) (c:=bD Tryz.f95) Tryz.func95 rfl ?_;show bB P 95 22 none _ _ _ _ _;refine bp ?_;refine kM ?_;refine((cmp81 h a b).call P).mono P ?_;rintro _ h2 ⟨rfl,o2⟩;rw[←hn];repeat' (first|((with_reducible refine gh ?_);(conv =>whnf);(with_reducible refine⟨?_⟩))|((with_reducible refine bE rfl ?_);(conv =>arg 2;whnf))|((with_reducible first|refine iB ?_ ?_|refine g_ ?_ ?_|refine hP ?_ ?_)<;>intro hb<;>(try simp only[hb]))|(simp only[B,F,ab,ae,af,ag,ah,ai, ↓reduceIte,eq_self,e1,e2,e3,e4,yI _ _ _ _ 0 (by omega),yI _ _ _ _ 1 (by omega),yI _ _ _ _ 2 (by omega),yI _ _ _ _ 3 (by omega)]))
  exact⟨rfl,o2⟩)
def wE:KV:=⟨[],[],0,0,0⟩
def gn(c:iD)(kv:KV)(there:Bool):Bool:=
 if c.np== .ofNat 0 then oU c.hY (decide (kv.im<c.n)) (decide (c.n<kv.im))
 else if c.np== .ofNat 1 then oU c.hY (decide (kv.iC<c.n)) (decide (c.n<kv.iC))
 else if c.np== .ofNat 2 then oU c.hY (decide (kv.mod<c.n)) (decide (c.n<kv.mod))
 else there&&oU c.hY (cE kv.val c.val) (Q3 kv.val c.val)
def kj(c:iD)(kv:KV)(there:Bool):Bool:=rI c&&gn c (if there then kv else wE) there
structure HoC(h:H)(bk bc:Nat)(c:iD)(kv:KV):Prop where
 k1:cellAt h bk 1=some (.str kv.val)
 k2:cellAt h bk 2=some (.int .u64 (.ofNat kv.iC))
 k3:cellAt h bk 3=some (.int .u64 (.ofNat kv.mod))
 k4:cellAt h bk 4=some (.int .u64 (.ofNat kv.im))
 c2:cellAt h bc 2=some (.int .i64 c.hY)
 c3:cellAt h bc 3=some (.int .u64 (.ofNat c.n))
 c4:cellAt h bc 4=some (.str c.val)
theorem ho62(h:H)(bk bc:Nat)(c:iD)(kv:KV)(a:HoC h bk bc c kv)(h1:.ofNat 0≤c.hY)(h2:c.hY≤.ofNat 3):bW P (.enter 90 [.ptr bk 0,.ptr bc 0] h) (cQ h (.bool (oU c.hY (decide (kv.im<c.n)) (decide (c.n<kv.im))))):=by
 obtain⟨k1,k2,k3,k4,c2,c3,c4⟩:=a;refine bn (fn:=Tryz.f90) (c:=bD Tryz.f90) Tryz.func90 rfl ?_;show bB P 90 10 none _ _ _ _ _;refine bp ?_;refine rN ?_ (V k4<|V c2<|c3);refine((Q4 h kv.im c.n c.hY h1 h2).call P).mono P ?_;rintro _ h3 ⟨rfl,o3⟩;refine kM ?_;exact⟨rfl,o3⟩
theorem ho64(h:H)(bk bc:Nat)(c:iD)(kv:KV)(a:HoC h bk bc c kv)(h1:.ofNat 0≤c.hY)(h2:c.hY≤.ofNat 3):bW P (.enter 92 [.ptr bk 0,.ptr bc 0] h) (cQ h (.bool (oU c.hY (decide (kv.iC<c.n)) (decide (c.n<kv.iC))))):=by
 obtain⟨k1,k2,k3,k4,c2,c3,c4⟩:=a;refine bn (fn:=Tryz.f92) (c:=bD Tryz.f92) Tryz.func92 rfl ?_;show bB P 92 10 none _ _ _ _ _;refine bp ?_;refine rN ?_ (V k2<|V c2<|c3);refine((Q4 h kv.iC c.n c.hY h1 h2).call P).mono P ?_;rintro _ h3 ⟨rfl,o3⟩;refine kM ?_;exact⟨rfl,o3⟩
theorem ho65(h:H)(bk bc:Nat)(c:iD)(kv:KV)(a:HoC h bk bc c kv)(h1:.ofNat 0≤c.hY)(h2:c.hY≤.ofNat 3):bW P (.enter 93 [.ptr bk 0,.ptr bc 0] h) (cQ h (.bool (oU c.hY (decide (kv.mod<c.n)) (decide (c.n<kv.mod))))):=by
 obtain⟨k1,k2,k3,k4,c2,c3,c4⟩:=a;refine bn (fn:=Tryz.f93) (c:=bD Tryz.f93) Tryz.func93 rfl ?_;show bB P 93 10 none _ _ _ _ _;refine bp ?_;refine rN ?_ (V k3<|V c2<|c3);refine((Q4 h kv.mod c.n c.hY h1 h2).call P).mono P ?_;rintro _ h3 ⟨rfl,o3⟩;refine kM ?_;exact⟨rfl,o3⟩
theorem ho66(h:H)(bt bk bc:Nat)(c:iD)(kv:KV)(there:Bool)(a:HoC h bk bc c kv)(ht:cellAt h bt 0=some (.bool there))(h1:.ofNat 0≤c.hY)(h2:c.hY≤.ofNat 3):bW P (.enter 94 [.ptr bt 0,.ptr bk 0,.ptr bc 0] h) (cQ h (.bool (there&&oU c.hY (cE kv.val c.val) (Q3 kv.val c.val)))):=by
 obtain⟨k1,k2,k3,k4,c2,c3,c4⟩:=a;cases there with
 |false=>
  refine bn (fn:=Tryz.f94) (c:=bD Tryz.f94) Tryz.func94 rfl ?_;show bB P 94 14 none _ _ _ _ _;refine bp ?_;refine rN ?_ (ht);exact⟨rfl,Og.refl _ _⟩
 |true=>
  refine bn (fn:=Tryz.f94) (c:=bD Tryz.f94) Tryz.func94 rfl ?_;show bB P 94 14 none _ _ _ _ _;refine bp ?_;refine rN ?_ (V ht<|V k1<|V c2<|c4);refine((cmp67 h kv.val c.val c.hY h1 h2).call P).mono P ?_;rintro _ h3 ⟨rfl,o3⟩;refine kM ?_;exact⟨rfl,o3⟩
theorem IA{c:iD}(h:rI c=true):.ofNat 0≤c.hY∧c.hY≤.ofNat 3∧.ofNat 0≤c.np∧c.np≤.ofNat 3:=by
 unfold rI at h;simp only[aQ,decide_eq_true_eq]at h;exact⟨h.1.1.2,h.1.2,h.1.1.1.1.2,h.1.1.1.2⟩
theorem KV.len(x:KV):x.cs.length=5:=rfl
theorem bxK(h:H)(c:KV):n_ h 83 c.cs= .val (.ptr h.nx 0) (h.bq 83 c.cs):=jb rfl
theorem zkv:wE.cs=[.str [],.str [],.int .u64 (.ofNat 0),.int .u64 (.ofNat 0),.int .u64 (.ofNat 0)]:=rfl
theorem Q5{h:H}{bk bc:Nat}{c:iD}{kv:KV}(hk:∀j,j<5→cellAt h bk j=kv.cs[j]?)(hc:∀j,j<5→cellAt h bc j=c.cs[j]?):HoC h bk bc c kv:=
 ⟨hk 1 (by omega),hk 2 (by omega),hk 3 (by omega),hk 4 (by omega),hc 2 (by omega),hc 3 (by omega),hc 4 (by omega)⟩
theorem Uk(h0:H)(c:iD)(kv:KV)(there:Bool):bW P (.enter 63 [.agg c.cs,.agg kv.cs,.bool there] h0) (cQ h0 (.bool (kj c kv there))):=by
 obtain⟨h1,cC⟩:∃h1,h1=h0.bq 68 c.cs:=⟨_,rfl⟩;obtain⟨h2,cJ⟩:∃h2,h2=h1.bq 83 kv.cs:=⟨_,rfl⟩;have o1:Og h0 h1 []:=by rw[cC];exact(Og.refl _ _).new _ _
 have o2:Og h1 h2 []:=by rw[cJ];exact(Og.refl _ _).new _ _
 have x1:h1.nx=h0.nx+1:=by rw[cC];rfl
 have x2:h2.nx=h1.nx+1:=by rw[cJ];rfl
 have KJ:n_ h0 68 c.cs= .val (.ptr h0.nx 0) h1:=by rw[cC];exact bxC h0 c
 have OZ:n_ h1 83 kv.cs= .val (.ptr h1.nx 0) h2:=by rw[cJ];exact bxK h1 kv
 have wC:∀j,cellAt h1 h0.nx j=c.cs[j]? :=fun j=>by rw[cC,bJ,if_pos rfl]
 have nI:∀j,j<5→cellAt h2 h0.nx j=c.cs[j]? :=fun j _=>by rw[bo (o2.1.2 h0.nx (by omega) (by simp))];exact wC j
 have Jv:∀j,j<5→cellAt h2 h1.nx j=kv.cs[j]? :=fun j _=>by rw[cJ,bJ,if_pos rfl]
 have Jy:cj h2 h1.nx=true:=by rw[cJ,cY,if_pos rfl]
 have y0:cellAt h2 h0.nx 0=some (.str c.key):=nI 0 (by omega);have y1:cellAt h2 h0.nx 1=some (.int .i64 c.np):=nI 1 (by omega);have y2:cellAt h2 h0.nx 2=some (.int .i64 c.hY):=nI 2 (by omega);have y3:cellAt h2 h0.nx 3=some (.int .u64 (.ofNat c.n)):=nI 3 (by omega);have y4:cellAt h2 h0.nx 4=some (.str c.val):=nI 4 (by omega);refine bn (fn:=Tryz.f63) (c:=bD Tryz.f63) Tryz.func63 rfl ?_;show bB P 63 55 none _ _ _ _ _;refine bp ?_;refine rN ?_ (V KJ<|V OZ<|V y0<|V y1<|V y2<|V y3<|y4);refine((KI h2 c).call P).mono P ?_;rintro _ h3 ⟨rfl,o3⟩;have wF:=(o1.t o2).t o3;cases q:rI c with
 |false=>
  have e:kj c kv there=false:=by unfold kj;rw[q];rfl
  rw[e];refine rN ?_ (@al);exact⟨rfl,wF⟩
 | true=>
  obtain⟨Wq,hh2,VL,hw2⟩:=IA q;have e:kj c kv there=gn c (if there then kv else wE) there:=by unfold kj;rw[q];rfl
  rw[e];have key:∀(nP:KV)(tm:T AV)(h:H),(∀j,j<5→cellAt h h1.nx j=nP.cs[j]?)→(∀j,j<5→cellAt h h0.nx j=c.cs[j]?)→Og h0 h []→tm.get 2=some (.bool there)→tm.get 3=some (.ptr h0.nx 0)→tm.get 4=some (.ptr h1.nx 0)→
    bB P 63 55 none (bL (bD Tryz.f63) [1,1,1]) [] tm h (nc P Tryz.f63 (cQ h0 (.bool (gn c nP there)))):=by
   intro nP tm h hk hc oo t2 t3 t4;obtain⟨k1,k2,k3,k4,c2,c3,c4⟩:=Q5 hk hc;have c1:cellAt h h0.nx 1=some (.int .i64 c.np):=hc 1 (by omega);rcases Uj VL hw2 with w|w|w|w<;>rw[w]at c1
   ·have e2:gn c nP there=oU c.hY (decide (nP.im<c.n)) (decide (c.n<nP.im)):=by unfold gn;rw[w];rfl
    rw[e2];refine rN ?_ (V t2<|V t3<|V t4<|V k1<|V k2<|V k3<|V k4<|V c1<|V c2<|V c3<|c4);refine((Ui h c.hY (decide (nP.im<c.n)) (decide (c.n<nP.im))).call P).mono P ?_;rintro _ h4 ⟨rfl,o4⟩;refine kM ?_;exact⟨rfl,oo.t o4⟩
   ·have e2:gn c nP there=oU c.hY (decide (nP.iC<c.n)) (decide (c.n<nP.iC)):=by unfold gn;rw[w];rfl
    rw[e2];refine rN ?_ (V t2<|V t3<|V t4<|V k1<|V k2<|V k3<|V k4<|V c1<|V c2<|V c3<|c4);refine((Ui h c.hY (decide (nP.iC<c.n)) (decide (c.n<nP.iC))).call P).mono P ?_;rintro _ h4 ⟨rfl,o4⟩;refine kM ?_;exact⟨rfl,oo.t o4⟩
   ·have e2:gn c nP there=oU c.hY (decide (nP.mod<c.n)) (decide (c.n<nP.mod)):=by unfold gn;rw[w];rfl
    rw[e2];refine rN ?_ (V t2<|V t3<|V t4<|V k1<|V k2<|V k3<|V k4<|V c1<|V c2<|V c3<|c4);refine((Ui h c.hY (decide (nP.mod<c.n)) (decide (c.n<nP.mod))).call P).mono P ?_;rintro _ h4 ⟨rfl,o4⟩;refine kM ?_;exact⟨rfl,oo.t o4⟩
   ·have e2:gn c nP there=(there&&oU c.hY (cE nP.val c.val) (Q3 nP.val c.val)):=by unfold gn;rw[w];rfl
    rw[e2];cases there with
    |false=>
     refine rN ?_ (V t2<|V t3<|V t4<|V k1<|V k2<|V k3<|V k4<|V c1<|V c2<|V c3<|c4);exact⟨rfl,oo⟩
    |true=>
     refine rN ?_ (V t2<|V t3<|V t4<|V k1<|V k2<|V k3<|V k4<|V c1<|V c2<|V c3<|V c4<|V @ji<|@KH);refine((Ui h c.hY (cE nP.val c.val) (Q3 nP.val c.val)).call P).mono P ?_;rintro _ h4 ⟨rfl,o4⟩;refine kM ?_;exact⟨rfl,oo.t o4⟩
  have Jt:∀j,j<5→cellAt h3 h0.nx j=c.cs[j]? :=fun j hj=>by rw[bo (o3.1.2 h0.nx (by omega) (by simp))];exact nI j hj
  have KK:∀j,j<5→cellAt h3 h1.nx j=kv.cs[j]? :=fun j hj=>by rw[bo (o3.1.2 h1.nx (by omega) (by simp))];exact Jv j hj
  have Q6:cj h3 h1.nx=true:=kw Jy o3 (by omega) (by simp);cases there with
  |true=>
   refine oq ?_ (@sc [1,1,1]) (@ak);exact⟨key kv _ h3 KK Jt wF (by exact sT) (by exact sT) (by exact sT)⟩
  |false=>
   obtain⟨h4,dm⟩:∃h4,h4=h3.cm h1.nx 0 wE.cs:=⟨_,rfl⟩;have o4:Og h3 h4 [h1.nx]:=by rw[dm];exact(Og.refl _ _).cm (.inl (by simp))
   have hk4:∀j,j<5→cellAt h4 h1.nx j=wE.cs[j]? :=fun j hj=>by rw[dm,b_ Q6,if_pos ⟨rfl,au _,by rw[KV.len];omega⟩,aD]
   have Tk:∀j,j<5→cellAt h4 h0.nx j=c.cs[j]? :=fun j hj=>by rw[bo (o4.1.2 h0.nx (by have:=o3.1.1;omega) (by simp;omega))];exact Jt j hj
   have rJ:Og h0 h4 []:=⟨⟨by have:=wF.1.1;have:=o4.1.1;omega,fun c hc _=>by rw[o4.1.2 c (by have:=wF.1.1;omega) (by simp;omega)];exact wF.1.2 c hc (by simp)⟩,o4.2.trans wF.2⟩;rw[zkv]at dm;have z0:cellAt h3 h1.nx 0=some (.str kv.key):=KK 0 (by omega);have z1:cellAt h3 h1.nx 1=some (.str kv.val):=KK 1 (by omega);have z2:cellAt h3 h1.nx 2=some (.int .u64 (.ofNat kv.iC)):=KK 2 (by omega);have z3:cellAt h3 h1.nx 3=some (.int .u64 (.ofNat kv.mod)):=KK 3 (by omega);have z4:cellAt h3 h1.nx 4=some (.int .u64 (.ofNat kv.im)):=KK 4 (by omega);refine oq ?_ (@sc [1,1,1]) (V @ak<|V @al<|V Q6<|V z0<|V z1<|V z2<|V z3<|V z4<|V ez<|dm.symm);exact⟨key wE _ h4 hk4 Tk rJ (by exact sT) (by exact sT) (by exact sT)⟩
theorem u130b:P.underlying 155=some (.array 4 58):=by kernel_rfl
theorem co41:P.cellsOf 58=1:=by kernel_rfl
theorem ok41b:eQ P 58=true:=by kernel_rfl
theorem mu(b i:Nat)(hi:i<4):eu P 155 (.ptr b 0) (.int .i64 (.ofNat i))=some (.ptr b i):=by
 have hb:Nat.blt i 4=true:=aS hi;unfold eu;simp only[u130b,hb,ok41b,aU,co41,Nat.mul_one,aL]
theorem bxB(h:H)(b:Bool):n_ h 4 [.bool b]= .val (.ptr h.nx 0) (h.bq 4 [.bool b]):=jb rfl
theorem Zc(h0:H)(c:iD)(kv:KV)(there:Bool):bW P (.enter 55 [.agg c.cs,.agg kv.cs,.bool there] h0) (cQ h0 (.bool (kj c kv there))):=by
 obtain⟨h1,cC⟩:∃h1,h1=h0.bq 68 c.cs:=⟨_,rfl⟩;obtain⟨h2,cJ⟩:∃h2,h2=h1.bq 83 kv.cs:=⟨_,rfl⟩;obtain⟨Cy,Q7⟩:∃Cy,Cy=h2.bq 4 [.bool there]:=⟨_,rfl⟩;have o1:Og h0 h1 []:=by rw[cC];exact(Og.refl _ _).new _ _
 have o2:Og h1 h2 []:=by rw[cJ];exact(Og.refl _ _).new _ _
 have Wr:Og h2 Cy []:=by rw[Q7];exact(Og.refl _ _).new _ _
 have x1:h1.nx=h0.nx+1:=by rw[cC];rfl
 have x2:h2.nx=h1.nx+1:=by rw[cJ];rfl
 have x2':Cy.nx=h2.nx+1:=by rw[Q7];rfl
 have KJ:n_ h0 68 c.cs= .val (.ptr h0.nx 0) h1:=by rw[cC];exact bxC h0 c
 have OZ:n_ h1 83 kv.cs= .val (.ptr h1.nx 0) h2:=by rw[cJ];exact bxK h1 kv
 have bx3:n_ h2 4 [.bool there]= .val (.ptr h2.nx 0) Cy:=by rw[Q7];exact bxB h2 there
 have wC:∀j,cellAt h1 h0.nx j=c.cs[j]? :=fun j=>by rw[cC,bJ,if_pos rfl]
 have nI:∀j,j<5→cellAt Cy h0.nx j=c.cs[j]? :=fun j _=>by rw[bo (Wr.1.2 h0.nx (by omega) (by simp)),bo (o2.1.2 h0.nx (by omega) (by simp))];exact wC j
 have Jv:∀j,j<5→cellAt Cy h1.nx j=kv.cs[j]? :=fun j _=>by rw[bo (Wr.1.2 h1.nx (by omega) (by simp)),cJ,bJ,if_pos rfl]
 have ht2:cellAt Cy h2.nx 0=some (.bool there):=by rw[Q7,bJ,if_pos rfl];rfl
 have Jy:cj Cy h1.nx=true:=by rw[bC (Wr.1.2 h1.nx (by omega) (by simp)),cJ,cY,if_pos rfl]
 have y0:cellAt Cy h0.nx 0=some (.str c.key):=nI 0 (by omega);have y1:cellAt Cy h0.nx 1=some (.int .i64 c.np):=nI 1 (by omega);have y2:cellAt Cy h0.nx 2=some (.int .i64 c.hY):=nI 2 (by omega);have y3:cellAt Cy h0.nx 3=some (.int .u64 (.ofNat c.n)):=nI 3 (by omega);have y4:cellAt Cy h0.nx 4=some (.str c.val):=nI 4 (by omega);refine bn (fn:=Tryz.f55) (c:=bD Tryz.f55) Tryz.func55 rfl ?_;show bB P 55 24 none _ _ _ _ _;refine bp ?_;refine rN ?_ (V KJ<|V OZ<|V Q7.symm<|V y0<|V y1<|V y2<|V y3<|y4);refine((Wn Cy c).call P).mono P ?_;rintro _ h3 ⟨rfl,o3⟩;have wF:=((o1.t o2).t Wr).t o3;have ht3:=kc ht2 o3 (by omega) (by simp);cases q:rI c with
 |false=>
  have e:kj c kv there=false:=by unfold kj;rw[q];rfl
  rw[e];refine rN ?_ (@al);exact⟨rfl,wF⟩
 | true=>
  obtain⟨Wq,hh2,VL,hw2⟩:=IA q;have e:kj c kv there=gn c (if there then kv else wE) there:=by unfold kj;rw[q];rfl
  rw[e];have key:∀(nP:KV)(tm:T AV)(h:H),(∀j,j<5→cellAt h h1.nx j=nP.cs[j]?)→(∀j,j<5→cellAt h h0.nx j=c.cs[j]?)→cellAt h h2.nx 0=some (.bool there)→Cy.nx≤h.nx→Og h0 h []→tm.get 3=some (.ptr h0.nx 0)→tm.get 4=some (.ptr h1.nx 0)→tm.get 5=some (.ptr h2.nx 0)→
    bB P 55 24 none (bL (bD Tryz.f55) [1,1,1]) [] tm h (nc P Tryz.f55 (cQ h0 (.bool (gn c nP there)))):=by
   intro nP tm h hk hc ht hx oo t3 t4 t5;obtain⟨h5,eL⟩:∃h5,h5=(h.bq 155 [AV.nilFunc,AV.nilFunc,AV.nilFunc,AV.nilFunc]).cm h.nx 0 [AV.func 90 [] [AV.ptr h1.nx 0,AV.ptr h0.nx 0],AV.func 92 [] [AV.ptr h1.nx 0,AV.ptr h0.nx 0],AV.func 93 [] [AV.ptr h1.nx 0,AV.ptr h0.nx 0],AV.func 94 [] [AV.ptr h2.nx 0,AV.ptr h1.nx 0,AV.ptr h0.nx 0]]:=⟨_,rfl⟩;have o5:Og h h5 []:=by rw[eL];exact((Og.refl _ _).new _ _).cm (.inr (aw _))
   have hk5:∀j,j<5→cellAt h5 h1.nx j=nP.cs[j]? :=fun j hj=>by rw[bo (o5.1.2 h1.nx (by omega) (by simp))];exact hk j hj
   have Ju:∀j,j<5→cellAt h5 h0.nx j=c.cs[j]? :=fun j hj=>by rw[bo (o5.1.2 h0.nx (by omega) (by simp))];exact hc j hj
   have ht5:=kc ht o5 (by omega) (by simp);have ho:=Q5 hk5 Ju;have c1:cellAt h5 h0.nx 1=some (.int .i64 c.np):=Ju 1 (by omega);have hf:∀j,j<4→cellAt h5 h.nx j=[AV.func 90 [] [AV.ptr h1.nx 0,AV.ptr h0.nx 0],AV.func 92 [] [AV.ptr h1.nx 0,AV.ptr h0.nx 0],AV.func 93 [] [AV.ptr h1.nx 0,AV.ptr h0.nx 0],AV.func 94 [] [AV.ptr h2.nx 0,AV.ptr h1.nx 0,AV.ptr h0.nx 0]][j]? :=fun j hj=>by
    rw[eL,b_ (by rw[cY,if_pos rfl]),if_pos ⟨rfl,au _,by simpa using hj⟩,aD]
   have f0:cellAt h5 h.nx 0=some (AV.func 90 [] [AV.ptr h1.nx 0,AV.ptr h0.nx 0]):=hf 0 (by omega);have f1:cellAt h5 h.nx 1=some (AV.func 92 [] [AV.ptr h1.nx 0,AV.ptr h0.nx 0]):=hf 1 (by omega);have f2:cellAt h5 h.nx 2=some (AV.func 93 [] [AV.ptr h1.nx 0,AV.ptr h0.nx 0]):=hf 2 (by omega);have f3:cellAt h5 h.nx 3=some (AV.func 94 [] [AV.ptr h2.nx 0,AV.ptr h1.nx 0,AV.ptr h0.nx 0]):=hf 3 (by omega);rcases Uj VL hw2 with w|w|w|w<;>rw[w]at c1
   ·have e2:gn c nP there=oU c.hY (decide (nP.im<c.n)) (decide (c.n<nP.im)):=by unfold gn;rw[w];rfl
    rw[e2];repeat' (first|((with_reducible refine gh ?_);(conv =>whnf);(with_reducible refine⟨?_⟩))|((with_reducible refine bE rfl ?_);(conv =>arg 2;whnf))|((with_reducible first|refine iB ?_ ?_|refine g_ ?_ ?_|refine hP ?_ ?_)<;>intro hb<;>(try simp only[hb]))|(simp only[B,F,ab,ae,af,ag,ah,ai, ↓reduceIte,eq_self,t3,t4,t5,←eL,c1,f0,f1,f2,f3,mu _ 0 (by omega),mu _ 1 (by omega),mu _ 2 (by omega),mu _ 3 (by omega)]))
    refine((ho62 h5 h1.nx h0.nx c nP ho Wq hh2).call P).mono P ?_;rintro _ h6 ⟨rfl,o6⟩;refine kM ?_;exact⟨rfl,(oo.t o5).t o6⟩
   ·have e2:gn c nP there=oU c.hY (decide (nP.iC<c.n)) (decide (c.n<nP.iC)):=by unfold gn;rw[w];rfl
    rw[e2];repeat' (first|((with_reducible refine gh ?_);(conv =>whnf);(with_reducible refine⟨?_⟩))|((with_reducible refine bE rfl ?_);(conv =>arg 2;whnf))|((with_reducible first|refine iB ?_ ?_|refine g_ ?_ ?_|refine hP ?_ ?_)<;>intro hb<;>(try simp only[hb]))|(simp only[B,F,ab,ae,af,ag,ah,ai, ↓reduceIte,eq_self,t3,t4,t5,←eL,c1,f0,f1,f2,f3,mu _ 0 (by omega),mu _ 1 (by omega),mu _ 2 (by omega),mu _ 3 (by omega)]))
    refine((ho64 h5 h1.nx h0.nx c nP ho Wq hh2).call P).mono P ?_;rintro _ h6 ⟨rfl,o6⟩;refine kM ?_;exact⟨rfl,(oo.t o5).t o6⟩
   ·have e2:gn c nP there=oU c.hY (decide (nP.mod<c.n)) (decide (c.n<nP.mod)):=by unfold gn;rw[w];rfl
    rw[e2];repeat' (first|((with_reducible refine gh ?_);(conv =>whnf);(with_reducible refine⟨?_⟩))|((with_reducible refine bE rfl ?_);(conv =>arg 2;whnf))|((with_reducible first|refine iB ?_ ?_|refine g_ ?_ ?_|refine hP ?_ ?_)<;>intro hb<;>(try simp only[hb]))|(simp only[B,F,ab,ae,af,ag,ah,ai, ↓reduceIte,eq_self,t3,t4,t5,←eL,c1,f0,f1,f2,f3,mu _ 0 (by omega),mu _ 1 (by omega),mu _ 2 (by omega),mu _ 3 (by omega)]))
    refine((ho65 h5 h1.nx h0.nx c nP ho Wq hh2).call P).mono P ?_;rintro _ h6 ⟨rfl,o6⟩;refine kM ?_;exact⟨rfl,(oo.t o5).t o6⟩
   ·have e2:gn c nP there=(there&&oU c.hY (cE nP.val c.val) (Q3 nP.val c.val)):=by unfold gn;rw[w];rfl
    rw[e2];repeat' (first|((with_reducible refine gh ?_);(conv =>whnf);(with_reducible refine⟨?_⟩))|((with_reducible refine bE rfl ?_);(conv =>arg 2;whnf))|((with_reducible first|refine iB ?_ ?_|refine g_ ?_ ?_|refine hP ?_ ?_)<;>intro hb<;>(try simp only[hb]))|(simp only[B,F,ab,ae,af,ag,ah,ai, ↓reduceIte,eq_self,t3,t4,t5,←eL,c1,f0,f1,f2,f3,mu _ 0 (by omega),mu _ 1 (by omega),mu _ 2 (by omega),mu _ 3 (by omega)]))
    refine((ho66 h5 h2.nx h1.nx h0.nx c nP there ho ht5 Wq hh2).call P).mono P ?_;rintro _ h6 ⟨rfl,o6⟩;refine kM ?_;exact⟨rfl,(oo.t o5).t o6⟩
  have Jt:∀j,j<5→cellAt h3 h0.nx j=c.cs[j]? :=fun j hj=>by rw[bo (o3.1.2 h0.nx (by omega) (by simp))];exact nI j hj
  have KK:∀j,j<5→cellAt h3 h1.nx j=kv.cs[j]? :=fun j hj=>by rw[bo (o3.1.2 h1.nx (by omega) (by simp))];exact Jv j hj
  have Q6:cj h3 h1.nx=true:=kw Jy o3 (by omega) (by simp);have x3:=o3.1.1;cases there with
  |true=>
   refine oq ?_ (@sc [1,1,1]) (V ht3<|@ak);exact⟨key kv _ h3 KK Jt ht3 x3 wF (by exact sT) (by exact sT) (by exact sT)⟩
  |false=>
   obtain⟨h4,dm⟩:∃h4,h4=h3.cm h1.nx 0 wE.cs:=⟨_,rfl⟩;have o4:Og h3 h4 [h1.nx]:=by rw[dm];exact(Og.refl _ _).cm (.inl (by simp))
   have hk4:∀j,j<5→cellAt h4 h1.nx j=wE.cs[j]? :=fun j hj=>by rw[dm,b_ Q6,if_pos ⟨rfl,au _,by rw[KV.len];omega⟩,aD]
   have Tk:∀j,j<5→cellAt h4 h0.nx j=c.cs[j]? :=fun j hj=>by rw[bo (o4.1.2 h0.nx (by omega) (by simp;omega))];exact Jt j hj
   have ht4:cellAt h4 h2.nx 0=some (.bool false):=kc ht3 o4 (by omega) (by simp;omega);have rJ:Og h0 h4 []:=⟨⟨by have:=wF.1.1;have:=o4.1.1;omega,fun c hc _=>by rw[o4.1.2 c (by have:=wF.1.1;omega) (by simp;omega)];exact wF.1.2 c hc (by simp)⟩,o4.2.trans wF.2⟩;rw[zkv]at dm;have z0:cellAt h3 h1.nx 0=some (.str kv.key):=KK 0 (by omega);have z1:cellAt h3 h1.nx 1=some (.str kv.val):=KK 1 (by omega);have z2:cellAt h3 h1.nx 2=some (.int .u64 (.ofNat kv.iC)):=KK 2 (by omega);have z3:cellAt h3 h1.nx 3=some (.int .u64 (.ofNat kv.mod)):=KK 3 (by omega);have z4:cellAt h3 h1.nx 4=some (.int .u64 (.ofNat kv.im)):=KK 4 (by omega);refine oq ?_ (@sc [1,1,1]) (V ht3<|V @ak<|V @al<|V Q6<|V z0<|V z1<|V z2<|V z3<|V z4<|V ez<|dm.symm);exact⟨key wE _ h4 hk4 Tk ht4 (by have:=o4.1.1;omega) rJ (by exact sT) (by exact sT) (by exact sT)⟩
theorem inC(h:H)(k key fin:List Nat):bW P (.enter 73 [.str k,.str key,.str fin] h) (cQ h (.bool (fL k key fin))):=by
 unfold fL;by_cases q:fin=[]
 ·have d1:decide (fin=[])=true:=decide_eq_true q
  rw[if_pos q];refine bn (fn:=Tryz.f73) (c:=bD Tryz.f73) Tryz.func73 rfl ?_;show bB P 73 24 none _ _ _ _ _;refine bp ?_;refine rN ?_ (V ez<|V d1<|V @rH<|@ji);exact⟨rfl,Og.refl _ _⟩
 ·have d1:decide (fin=[])=false:=decide_eq_false q
  rw[if_neg q];cases q2:cE k key with
  |true=>
   refine bn (fn:=Tryz.f73) (c:=bD Tryz.f73) Tryz.func73 rfl ?_;show bB P 73 24 none _ _ _ _ _;refine bp ?_;refine rN ?_ (V ez<|V e00<|V d1<|V @rH<|V @ji<|V q2<|@ak);exact⟨rfl,Og.refl _ _⟩
  | false=>
   by_cases q3:fin=[0]
   ·have d3:decide (fin=[0])=true:=decide_eq_true q3
    refine bn (fn:=Tryz.f73) (c:=bD Tryz.f73) Tryz.func73 rfl ?_;show bB P 73 24 none _ _ _ _ _;refine bp ?_;refine rN ?_ (V ez<|V e00<|V d1<|V d3<|V @rH<|V @ji<|V q2<|@al);exact⟨rfl,Og.refl _ _⟩
   ·have d3:decide (fin=[0])=false:=decide_eq_false q3
    refine bn (fn:=Tryz.f73) (c:=bD Tryz.f73) Tryz.func73 rfl ?_;show bB P 73 24 none _ _ _ _ _;refine bp ?_;refine rN ?_ (V ez<|V e00<|V d1<|V d3<|V @rH<|V @ji<|V q2<|@al);exact⟨rfl,Og.refl _ _⟩
def jw(rev main comp:Nat):Nat:=if main<rev then 10 else if ¬rev=0∧rev<comp then 9 else 0
def iG(o:Op)(main comp:Nat):Nat:=if o.kind=0 then jw o.rev main comp else 0
theorem Ws(h:H)(o:Op)(main comp:Nat):bW P (.enter 30 [.agg o.cs,.int .u64 (.ofNat main),.int .u64 (.ofNat comp)] h) (cQ h (.int .i64 (.ofNat (iG o main comp)))):=by
 unfold Op.cs;refine bn (fn:=Tryz.f30) (c:=bD Tryz.f30) Tryz.func30 rfl ?_;show bB P 30 26 none _ _ _ _ _;refine bp ?_;repeat' (first|((with_reducible refine gh ?_);(conv =>whnf);(with_reducible refine⟨?_⟩))|((with_reducible refine bE rfl ?_);(conv =>arg 2;whnf))|((with_reducible first|refine iB ?_ ?_|refine g_ ?_ ?_|refine hP ?_ ?_)<;>intro hb<;>(try simp only[hb]))|(simp only[B,F,ab,ae,af,ag,ah,ai, ↓reduceIte,eq_self]))
 all_goals refine⟨congrArg (AV.int .i64) (congrArg an ?_),(Og.refl _ _).new _ _⟩
 all_goals(simp only[iG,jw];grind)
structure StW(h:H)(b main comp:Nat):Prop where
 c1:cellAt h b 1=some (.int .u64 (.ofNat main))
 c2:cellAt h b 2=some (.int .u64 (.ofNat comp))
theorem Q8(h:H)(b rev main comp:Nat)(a:StW h b main comp):bW P (.enter 65 [.ptr b 0,.int .u64 (.ofNat rev)] h) (cQ h (.int .i64 (.ofNat (jw rev main comp)))):=by
 obtain⟨c1,c2⟩:=a;refine bn (fn:=Tryz.f65) (c:=bD Tryz.f65) Tryz.func65 rfl ?_;show bB P 65 21 none _ _ _ _ _;refine bp ?_;repeat' (first|((with_reducible refine gh ?_);(conv =>whnf);(with_reducible refine⟨?_⟩))|((with_reducible refine bE rfl ?_);(conv =>arg 2;whnf))|((with_reducible first|refine iB ?_ ?_|refine g_ ?_ ?_|refine hP ?_ ?_)<;>intro hb<;>(try simp only[hb]))|(simp only[B,F,ab,ae,af,ag,ah,ai, ↓reduceIte,eq_self,c1,c2]))
 all_goals refine⟨congrArg (AV.int .i64) (congrArg an ?_),Og.refl _ _⟩
 all_goals(simp only[jw];grind)
structure RkI(h0:H)(b:Nat)(r:Rq)(vc vt ve:AV)(l:List Op)(s:Nat)(m:Nat)(ds:List Nat)(tm:T AV)(h:H)(i:Nat):Prop where
 ds:ds=[]
 nn:m=l.length-i
 ii:i≤l.length
 t1:tm.get 1=some (.ptr b 0)
 ts:tm.get s=some (.int .i64 (.ofNat i))
 ok:∀j x,j<i→l[j]? =some x→qv x=true
 y5:cellAt h b 5=some vt
 y6:cellAt h b 6=some ve
 ra:ua h r vc vt ve
 lt:b<h.nx
 oo:Og h0 h []
theorem Mt{l:List Op}(ok:∀j x,j<l.length→l[j]? =some x→qv x=true):l.all qv=true:=by
 rw[List.all_eq_true];intro x hx;obtain⟨j,hj⟩:=List.mem_iff_getElem?.1 hx;exact ok j x (List.getElem?_eq_some_iff.1 hj).1 hj
theorem IB(h0:H)(r:Rq)(vc vt ve:AV)(ra:ua h0 r vc vt ve):bW P (.enter 34 [.agg (r.cs vc vt ve)] h0) (cQ h0 (.int .i64 (.ofNat (cW r)))):=by
 have oc:=cH ra.sc;have ot:=cH ra.st;have oe:=cH ra.se;obtain⟨h1,cC⟩:∃h1,h1=h0.bq 38 (r.cs vc vt ve):=⟨_,rfl⟩;have o1:Og h0 h1 []:=by rw[cC];exact(Og.refl _ _).new _ _
 have c1:∀j,cellAt h1 h0.nx j=(r.cs vc vt ve)[j]? :=fun j=>by rw[cC,bJ,if_pos rfl]
 have x1:h1.nx=h0.nx+1:=by rw[cC];rfl
 have bx:n_ h0 38 (r.cs vc vt ve)= .val (.ptr h0.nx 0) h1:=by
  rw[cC];refine jb (xl fun v hv=>?_);unfold Rq.cs at hv;simp only[List.mem_cons,List.mem_nil_iff,or_false]at hv;rcases hv with rfl|rfl|rfl|rfl|rfl|rfl|rfl|rfl<;>first|rfl|assumption
 have y0:cellAt h1 h0.nx 0=some (.int .i64 r.kind):=c1 0;have y4:cellAt h1 h0.nx 4=some vc:=c1 4;have y5:cellAt h1 h0.nx 5=some vt:=c1 5;have y6:cellAt h1 h0.nx 6=some ve:=c1 6;have Za:=ra.bU o1;have lt:=ra.st.len (P:=P) vK;have le:=ra.se.len (P:=P) vK;by_cases q0:r.kind=0
 ·have d0:(r.kind != an 0)=false:=by rw[q0];rfl
  refine bn (fn:=Tryz.f34) (c:=bD Tryz.f34) Tryz.func34 rfl ?_;show bB P 34 54 none _ _ _ _ _;refine bp ?_;refine rN ?_ (V bx<|V y0<|V y4<|V y5<|V y6<|d0);refine((Uh h1 vc r.eO Za.sc Za.zc).call P).mono P ?_;rintro _ h2 ⟨rfl,o2⟩;have z5:=kc y5 o2 (by omega) (by simp);have z6:=kc y6 o2 (by omega) (by simp);by_cases q1:nq r.eO=0
  ·have d1:decide (nq r.eO=0)=true:=decide_eq_true q1
   by_cases q2:6<r.th.length
   ·have d2:decide (6<r.th.length)=true:=decide_eq_true q2
    have e:cW r=11:=if_neg (fun h=>by have:=h.2.2.1;omega);rw[e];refine rN ?_ (V z5<|V z6<|V d1<|V @ak<|V lt<|V ot<|d2);exact⟨rfl,o1.t o2⟩
   have d2:decide (6<r.th.length)=false:=decide_eq_false q2;by_cases q3:6<r.el.length
   ·have d3:decide (6<r.el.length)=true:=decide_eq_true q3
    have e:cW r=11:=if_neg (fun h=>by have:=h.2.2.2.1;omega);rw[e];refine rN ?_ (V z5<|V z6<|V d1<|V @ak<|V lt<|V ot<|V d2<|V le<|V oe<|d3);exact⟨rfl,o1.t o2⟩
   have d3:decide (6<r.el.length)=false:=decide_eq_false q3;have Da:=Za.bU o2;have xx2:=o2.1.1;refine rN ?_ (V z5<|V z6<|V d1<|V @ak<|V lt<|V ot<|V d2<|V le<|V oe<|d3);refine cn (fun m ds tm h=>∃i,RkI h0 h0.nx r vc vt ve r.th 3 m ds tm h i) r.th.length rfl ⟨0,rfl,rfl,au _,by exact sT,by exact sT,fun j x hj=>absurd hj (by omega),z5,z6,Da,by omega,o1.t o2⟩ (fun m ds tm h hI=>?_);clear z5 z6 Da;obtain⟨i,rfl,rfl,ii,t1,t3,ok,z5,z6,Da,fW,oo⟩:=hI;by_cases hi:i<r.th.length
   ·have di:decide (i<r.th.length)=true:=decide_eq_true hi
    have dX:(i<r.th.length)=True:=by simp[hi]
    obtain⟨x,hx⟩:∃x,r.th[i]? =some x:=⟨_,aq hi⟩;have st:=Da.st;obtain⟨bv,ov,cv,rfl,qw,-⟩:=Da.st.place (by omega);obtain⟨q0,q1,q2,q3,q4,q5,q6,q7,q8⟩:=Op.at st hx;have w1:bV .i64 (an i+an 1)=an (i+1):=cq (by omega);refine rN ?_ (V t1<|V t3<|V z5<|V z6<|V lt<|V ot<|V di<|V dX<|V q0<|V q1<|V q2<|V q3<|V q4<|V q5<|V q6<|V q7<|q8);refine((Wm h x).call P).mono P ?_;rintro _ h3 ⟨rfl,o3⟩;cases q:qv x with
    | true=>
     refine rN ?_ (V @ak<|V t3<|w1);refine⟨r.th.length-(i+1),by omega,i+1,rfl,rfl,by omega,by exact sT,by exact sT,fun j y hj hy=>?_,kc z5 o3 fW (by simp),kc z6 o3 fW (by simp),Da.bU o3,by have:=o3.1.1;omega,oo.t o3⟩;by_cases e:j<i
     ·exact ok j y e hy
     ·obtain rfl:j=i:=by omega
      rw[hx]at hy;cases hy;exact q
    | false=>
     have e:cW r=11:=if_neg (fun h=>by
      have:=(List.all_eq_true.1 h.2.2.2.2.1) x (az hx);rw[q]at this;cases this)
     rw[e];refine rN ?_ (@al);exact⟨rfl,oo.t o3⟩
   ·have di:decide (i<r.th.length)=false:=decide_eq_false hi
    obtain rfl:i=r.th.length:=by omega
    have aT:=Mt ok;clear ok;refine rN ?_ (V t1<|V t3<|V z5<|V z6<|V lt<|V ot<|di);refine cn (fun m ds tm h=>∃i,RkI h0 h0.nx r vc vt ve r.el 4 m ds tm h i) r.el.length rfl ⟨0,rfl,rfl,au _,by exact sT,by exact sT,fun j x hj=>absurd hj (by omega),z5,z6,Da,fW,oo⟩ (fun m ds tm h hI=>?_);clear z5 z6 Da t1 t3 fW oo;obtain⟨i,rfl,rfl,ii,t1,t4,ok,z5,z6,Da,fW,oo⟩:=hI;by_cases hi:i<r.el.length
    ·have di:decide (i<r.el.length)=true:=decide_eq_true hi
     have dX:(i<r.el.length)=True:=by simp[hi]
     obtain⟨x,hx⟩:∃x,r.el[i]? =some x:=⟨_,aq hi⟩;have st:=Da.se;obtain⟨bv,ov,cv,rfl,qw,-⟩:=Da.se.place (by omega);obtain⟨q0,q1,q2,q3,q4,q5,q6,q7,q8⟩:=Op.at st hx;have w1:bV .i64 (an i+an 1)=an (i+1):=cq (by omega);refine rN ?_ (V t1<|V t4<|V z5<|V z6<|V le<|V oe<|V di<|V dX<|V q0<|V q1<|V q2<|V q3<|V q4<|V q5<|V q6<|V q7<|q8);refine((Wm h x).call P).mono P ?_;rintro _ h3 ⟨rfl,o3⟩;cases q:qv x with
     | true=>
      refine rN ?_ (V @ak<|V t4<|w1);refine⟨r.el.length-(i+1),by omega,i+1,rfl,rfl,by omega,by exact sT,by exact sT,fun j y hj hy=>?_,kc z5 o3 fW (by simp),kc z6 o3 fW (by simp),Da.bU o3,by have:=o3.1.1;omega,oo.t o3⟩;by_cases e:j<i
      ·exact ok j y e hy
      ·obtain rfl:j=i:=by omega
       rw[hx]at hy;cases hy;exact q
     | false=>
      have e:cW r=11:=if_neg (fun h=>by
       have:=(List.all_eq_true.1 h.2.2.2.2.2) x (az hx);rw[q]at this;cases this)
      rw[e];refine rN ?_ (@al);exact⟨rfl,oo.t o3⟩
    ·have di:decide (i<r.el.length)=false:=decide_eq_false hi
     obtain rfl:i=r.el.length:=by omega
     have e:cW r=0:=if_pos ⟨q0,q1,by omega,by omega,aT,Mt ok⟩;rw[e];refine rN ?_ (V t1<|V t4<|V z5<|V z6<|V le<|V oe<|di);exact⟨rfl,oo⟩
  ·have d1:decide (nq r.eO=0)=false:=decide_eq_false q1
   have e:cW r=11:=if_neg (fun h=>q1 h.2.1);rw[e];refine rN ?_ (V d1<|@al);exact⟨rfl,o1.t o2⟩
 ·have d0:(r.kind != an 0)=true:=by simpa using q0
  have e:cW r=11:=if_neg (fun h=>q0 h.1);rw[e];refine bn (fn:=Tryz.f34) (c:=bD Tryz.f34) Tryz.func34 rfl ?_;show bB P 34 54 none _ _ _ _ _;refine bp ?_;refine rN ?_ (V bx<|V y0<|V y4<|V y5<|V y6<|d0);exact⟨rfl,o1⟩
theorem Rec.len(x:Rec):x.cs.length=8:=rfl
theorem Rec.at{h:H}{b o n:Nat}{cap:ur}{l:List Rec}(sl:br h (.slice b o n cap) n (l.flatMap Rec.cs)){i:Nat}{x:Rec}(hx:l[i]? =some x):cellAt h b (o+i*8)=some (.int .u64 (.ofNat x.main))∧cellAt h b (o+(i*8+1))=some (.int .u64 (.ofNat x.sub))∧cellAt h b (o+(i*8+2))=some (.str x.kv.key)∧cellAt h b (o+(i*8+3))=some (.str x.kv.val)∧cellAt h b (o+(i*8+4))=some (.int .u64 (.ofNat x.kv.iC))∧cellAt h b (o+(i*8+5))=some (.int .u64 (.ofNat x.kv.mod))∧cellAt h b (o+(i*8+6))=some (.int .u64 (.ofNat x.kv.im))∧cellAt h b (o+(i*8+7))=some (.bool x.dW):=by
 have g:∀k,k<8→cellAt h b (o+(i*8+k))=x.cs[k]? :=fun k hk=>jv Rec.len sl hx hk;exact⟨g 0 (by omega),g 1 (by omega),g 2 (by omega),g 3 (by omega),g 4 (by omega),g 5 (by omega),g 6 (by omega),g 7 (by omega)⟩
theorem jl:P.underlying 60=some (.slice 91):=by kernel_rfl
def jx(key:List Nat)(main:Nat)(l:List Rec):KV×Bool:=l.foldl (fun s r=>if r.kv.key=key∧r.main≤main then(r.kv, !r.dW)else s) (wE,false)
def pZ(key:List Nat)(main:Nat)(l:List Rec):KV×Bool:=if(jx key main l).2 then((jx key main l).1,true)else(wE,false)
theorem Ul{key:List Nat}{main:Nat}{l:List Rec}{i:Nat}{r:Rec}(h:l[i]? =some r):jx key main (l.take (i+1))=if r.kv.key=key∧r.main≤main then(r.kv, !r.dW)else jx key main (l.take i):=by
 unfold jx;rw[List.take_add_one,h,List.foldl_append];rfl
structure FiI(h0:H)(b6 b8:Nat)(va:AV)(l:List Rec)(key:List Nat)(main:Nat)(m:Nat)(ds:List Nat)(tm:T AV)(h:H)(i:Nat):Prop where
 ds:ds=[]
 nn:m=l.length-i
 ii:i≤l.length
 t0:tm.get 0=some va
 t1:tm.get 1=some (.str key)
 t2:tm.get 2=some (.int .u64 (.ofNat main))
 t6:tm.get 6=some (.ptr b6 0)
 t8:tm.get 8=some (.ptr b8 0)
 t9:tm.get 9=some (.bool (jx key main (l.take i)).2)
 t10:tm.get 10=some (.int .i64 (.ofNat i))
 c6:∀j,j<5→cellAt h b6 j=wE.cs[j]?
 c8:∀j,j<5→cellAt h b8 j=(jx key main (l.take i)).1.cs[j]?
 w6:cj h b6=true
 w8:cj h b8=true
 l6:h0.nx≤b6∧b6<h.nx
 l8:h0.nx≤b8∧b8<h.nx
 ne:b6≠b8
 oo:Og h0 h []
theorem Q9(h0:H)(va:AV)(l:List Rec)(key:List Nat)(main:Nat)(sl:br h0 va l.length (l.flatMap Rec.cs))(hz:l.length≤1000000):bW P (.enter 62 [va,.str key,.int .u64 (.ofNat main)] h0) (cQ h0 (.tuple [.agg (pZ key main l).1.cs,.bool (pZ key main l).2])):=by
 have hlen:=sl.len (P:=P) jl;obtain⟨h1,cC⟩:∃h1,h1=h0.bq 83 [.str [],.str [],.int .u64 (.ofNat 0),.int .u64 (.ofNat 0),.int .u64 (.ofNat 0)]:=⟨_,rfl⟩;obtain⟨h2,cJ⟩:∃h2,h2=(h1.bq 83 [.str [],.str [],.int .u64 (.ofNat 0),.int .u64 (.ofNat 0),.int .u64 (.ofNat 0)]).cm h1.nx 0 [.str [],.str [],.int .u64 (.ofNat 0),.int .u64 (.ofNat 0),.int .u64 (.ofNat 0)]:=⟨_,rfl⟩;have o1:Og h0 h1 []:=by rw[cC];exact(Og.refl _ _).new _ _
 have o2:Og h1 h2 []:=by rw[cJ];exact((Og.refl _ _).new _ _).cm (.inr (aw _))
 have x1:h1.nx=h0.nx+1:=by rw[cC];rfl
 have x2:h2.nx=h1.nx+1:=by rw[cJ,bI,dt]
 have wn:cj (h1.bq 83 [.str [],.str [],.int .u64 (.ofNat 0),.int .u64 (.ofNat 0),.int .u64 (.ofNat 0)]) h1.nx=true:=by rw[cY,if_pos rfl]
 have c6:∀j,j<5→cellAt h2 h0.nx j=wE.cs[j]? :=fun j hj=>by rw[bo (o2.1.2 h0.nx (by omega) (by simp)),cC,bJ,if_pos rfl];rfl
 have c8:∀j,j<5→cellAt h2 h1.nx j=wE.cs[j]? :=fun j hj=>by rw[cJ,b_ wn,if_pos ⟨rfl,au _,by simpa using hj⟩,aD];rfl
 have w6:cj h2 h0.nx=true:=by rw[bC (o2.1.2 h0.nx (by omega) (by simp)),cC,cY,if_pos rfl]
 have w8:cj h2 h1.nx=true:=by rw[cJ,bN,wn]
 refine bn (fn:=Tryz.f62) (c:=bD Tryz.f62) Tryz.func62 rfl ?_;show bB P 62 51 none _ _ _ _ _;refine bp ?_;refine rN ?_ (V ez<|V cC.symm<|cJ.symm);refine cn (fun m ds tm h=>∃i,FiI h0 h0.nx h1.nx va l key main m ds tm h i) l.length rfl ⟨0,rfl,rfl,au _,by simp only[B,F,ab,ae,af,ag,ah,ai, ↓reduceIte,eq_self],by simp only[B,F,ab,ae,af,ag,ah,ai, ↓reduceIte,eq_self],by simp only[B,F,ab,ae,af,ag,ah,ai, ↓reduceIte,eq_self],by simp only[B,F,ab,ae,af,ag,ah,ai, ↓reduceIte,eq_self],by simp only[B,F,ab,ae,af,ag,ah,ai, ↓reduceIte,eq_self],by simp only[B,F,ab,ae,af,ag,ah,ai, ↓reduceIte,eq_self];rfl,by simp only[B,F,ab,ae,af,ag,ah,ai, ↓reduceIte,eq_self],c6,c8,w6,w8,⟨aw _,by omega⟩,⟨by omega,by omega⟩,by omega,o1.t o2⟩ (fun m ds tm h hI=>?_);clear c6 c8 w6 w8;obtain⟨i,rfl,rfl,ii,t0,t1,t2,t6,t8,t9,t10,c6,c8,w6,w8,l6,l8,ne,oo⟩:=hI;by_cases hi:i<l.length
 ·have di:decide (i<l.length)=true:=decide_eq_true hi
  have dX:(i<l.length)=True:=by simp[hi]
  obtain⟨x,hx⟩:∃x,l[i]? =some x:=⟨_,aq hi⟩;have jk:=br.only oo.1 sl (fun _ _=>by simp);obtain⟨bv,ov,cv,rfl,qw,-⟩:=sl.place (by omega);obtain⟨q0,q1,q2,q3,q4,q5,q6,q7⟩:=Rec.at jk hx;have w1:bV .i64 (an i+an 1)=an (i+1):=cq (by omega);have hs:=Ul (key:=key) (main:=main) hx;by_cases p:x.kv.key=key∧x.main≤main
  ·rw[if_pos p]at hs
   have d1:decide (x.kv.key=key)=true:=decide_eq_true p.1;have d2:decide (x.main≤main)=true:=decide_eq_true p.2;have z0:=c8 0 (by omega);have z1:=c8 1 (by omega);have z2:=c8 2 (by omega);have z3:=c8 3 (by omega);have z4:=c8 4 (by omega);obtain⟨h5,eL⟩:∃h5,h5=h.cm h1.nx 0 [.str x.kv.key,.str x.kv.val,.int .u64 (.ofNat x.kv.iC),.int .u64 (.ofNat x.kv.mod),.int .u64 (.ofNat x.kv.im)]:=⟨_,rfl⟩;have o5:Og h h5 [h1.nx]:=by rw[eL];exact(Og.refl _ _).cm (.inl (by simp))
   have x5:h5.nx=h.nx:=by rw[eL,bI]
   have Um:cellAt h5 bv (ov+(i*8+7))=some (.bool x.dW):=by rw[bo (o5.1.2 bv (by have:=oo.1.1;omega) (by simp;omega))];exact q7
   have Wt:cellAt h h1.nx 0=some (.str (jx key main (l.take i)).1.key):=z0;have Wu:cellAt h h1.nx 1=some (.str (jx key main (l.take i)).1.val):=z1;have Wv:cellAt h h1.nx 2=some (.int .u64 (.ofNat (jx key main (l.take i)).1.iC)):=z2;have Ww:cellAt h h1.nx 3=some (.int .u64 (.ofNat (jx key main (l.take i)).1.mod)):=z3;have Wx:cellAt h h1.nx 4=some (.int .u64 (.ofNat (jx key main (l.take i)).1.im)):=z4;refine rN ?_ (V t0<|V t1<|V t2<|V t6<|V t8<|V t9<|V t10<|V hlen<|V di<|V dX<|V q0<|V q1<|V q2<|V q3<|V q4<|V q5<|V q6<|V q7<|V d1<|V d2<|V w8<|V Wt<|V Wu<|V Wv<|V Ww<|V Wx<|V eL.symm<|V Um<|w1);refine⟨l.length-(i+1),by omega,i+1,rfl,rfl,by omega,by exact sT,by exact sT,by exact sT,by exact sT,by exact sT,by rw[hs];exact sT,by exact sT,fun j hj=>?_,fun j hj=>?_,?_,?_,⟨l6.1,by omega⟩,⟨l8.1,by omega⟩,ne,⟨⟨by have:=oo.1.1;omega,fun c hc _=>?_⟩,o5.2.trans oo.2⟩⟩
   ·rw[bo (o5.1.2 h0.nx l6.2 (by simp;omega))];exact c6 j hj
   ·rw[hs,eL,b_ w8,if_pos ⟨rfl,au _,by simpa using hj⟩,aD];rfl
   ·exact kw w6 o5 l6.2 (by simp;omega)
   ·rw[eL,bN];exact w8
   ·rw[o5.1.2 c (by have:=oo.1.1;omega) (by simp;omega)];exact oo.1.2 c hc (by simp)
  ·rw[if_neg p]at hs
   have fin:∀bZ:T AV,bZ.get 0=some (AV.slice bv ov l.length cv)→bZ.get 1=some (.str key)→bZ.get 2=some (.int .u64 (.ofNat main))→bZ.get 6=some (.ptr h0.nx 0)→bZ.get 8=some (.ptr h1.nx 0)→bZ.get 9=some (.bool (jx key main (l.take i)).2)→bZ.get 10=some (.int .i64 (.ofNat (i+1)))→
     ∃m,m<l.length-i∧∃i,FiI h0 h0.nx h1.nx (AV.slice bv ov l.length cv) l key main m [] bZ h i:=fun bZ g0 g1 g2 g6 g8 g9 zu=>
    ⟨l.length-(i+1),by omega,i+1,rfl,rfl,by omega,g0,g1,g2,g6,g8,by rw[hs];exact g9,zu,c6,fun j hj=>by rw[hs];exact c8 j hj,w6,w8,l6,l8,ne,oo⟩
   by_cases p1:x.kv.key=key
   ·have d1:decide (x.kv.key=key)=true:=decide_eq_true p1
    have d2:decide (x.main≤main)=false:=decide_eq_false (fun e=>p ⟨p1,e⟩);refine rN ?_ (V t0<|V t1<|V t2<|V t6<|V t8<|V t9<|V t10<|V hlen<|V di<|V dX<|V q0<|V q1<|V q2<|V q3<|V q4<|V q5<|V q6<|V q7<|V d1<|V d2<|w1);exact fin _ (by exact sT) (by exact sT) (by exact sT) (by exact sT) (by exact sT) (by exact sT) (by exact sT)
   ·have d1:decide (x.kv.key=key)=false:=decide_eq_false p1
    refine rN ?_ (V t0<|V t1<|V t2<|V t6<|V t8<|V t9<|V t10<|V hlen<|V di<|V dX<|V q0<|V q1<|V q2<|V q3<|V q4<|V q5<|V q6<|V q7<|V d1<|w1);exact fin _ (by exact sT) (by exact sT) (by exact sT) (by exact sT) (by exact sT) (by exact sT) (by exact sT)
 ·have di:decide (i<l.length)=false:=decide_eq_false hi
  obtain rfl:i=l.length:=by omega
  rw[List.take_length]at t9 c8;have Wt:cellAt h h1.nx 0=some (.str (jx key main l).1.key):=c8 0 (by omega);have Wu:cellAt h h1.nx 1=some (.str (jx key main l).1.val):=c8 1 (by omega);have Wv:cellAt h h1.nx 2=some (.int .u64 (.ofNat (jx key main l).1.iC)):=c8 2 (by omega);have Ww:cellAt h h1.nx 3=some (.int .u64 (.ofNat (jx key main l).1.mod)):=c8 3 (by omega);have Wx:cellAt h h1.nx 4=some (.int .u64 (.ofNat (jx key main l).1.im)):=c8 4 (by omega);have k0:cellAt h h0.nx 0=some (.str []):=c6 0 (by omega);have k1:cellAt h h0.nx 1=some (.str []):=c6 1 (by omega);have k2:cellAt h h0.nx 2=some (.int .u64 (.ofNat 0)):=c6 2 (by omega);have k3:cellAt h h0.nx 3=some (.int .u64 (.ofNat 0)):=c6 3 (by omega);have k4:cellAt h h0.nx 4=some (.int .u64 (.ofNat 0)):=c6 4 (by omega);cases q:(jx key main l).2 with
  |false=>
   rw[q]at t9;have e:pZ key main l=(wE,false):=by unfold pZ;rw[q];rfl
   rw[e];refine rN ?_ (V ez<|V t0<|V t1<|V t2<|V t6<|V t8<|V t9<|V t10<|V hlen<|V di<|V @al<|V w6<|V k0<|V k1<|V k2<|V k3<|k4);exact⟨rfl,oo.cm (.inr l6.1)⟩
  |true=>
   rw[q]at t9;have e:pZ key main l=((jx key main l).1,true):=by unfold pZ;rw[q];rfl
   rw[e];refine rN ?_ (V ez<|V t0<|V t1<|V t2<|V t6<|V t8<|V t9<|V t10<|V hlen<|V di<|V @ak<|V w6<|V k0<|V k1<|V k2<|V k3<|V k4<|V Wt<|V Wu<|V Wv<|V Ww<|Wx);exact⟨rfl,oo.cm (.inr l6.1)⟩
abbrev encS:List Nat→AV:=AV.str
theorem Q_:P.underlying 78=some (.map 9 91):=by kernel_rfl
theorem Wy:Ir P 9 encS:=QH (by kernel_rfl)
abbrev View:=List (List Nat×Rec)
def mR(W:View):List (List Nat×AV):=W.map fun p=>(p.1,.agg p.2.cs)
def qx(k:List Nat)(r:Rec):View→View
 |[]=>[(k,r)]
 |(a,x)::W=>if k=a then(a,r)::W else(a,x)::qx k r W
def ub(k:List Nat):View→View
 |[]=>[]
 |(a,x)::W=>if k=a then W else(a,x)::ub k W
def fw(W:View)(r:Rec):View:=if r.dW then ub r.kv.key W else qx r.kv.key r W
theorem bxR(h:H)(c:Rec):n_ h 91 c.cs= .val (.ptr h.nx 0) (h.bq 91 c.cs):=jb rfl
theorem Ra(k:List Nat)(r:Rec):∀W:View,fH k (.agg r.cs) (mR W)=mR (qx k r W)
 |[]=>rfl
 |(a,x)::W=>by
  have ih:=Ra k r W;show fH k (.agg r.cs) ((a,.agg x.cs)::mR W)=_;unfold fH qx;by_cases q:k=a
  ·rw[if_pos q,if_pos q];rfl
  ·rw[if_neg q,if_neg q,ih];rfl
theorem Rb(k:List Nat):∀W:View,om k (mR W)=mR (ub k W)
 |[]=>rfl
 |(a,x)::W=>by
  have ih:=Rb k W;show om k ((a,.agg x.cs)::mR W)=_;unfold om ub;by_cases q:k=a
  ·rw[if_pos q,if_pos q]
  ·rw[if_neg q,if_neg q,ih];rfl
theorem Zd(h0:H)(r:Nat)(W:View)(x:Rec)(m:fu encS h0 r (mR W)):bW P (.enter 48 [.map r,.agg x.cs] h0) (fun v h'=>v= .tuple []∧fu encS h' r (mR (fw W x))∧Og h0 h' [r]):=by
 have Wg:=m.lt;obtain⟨h1,cC⟩:∃h1,h1=h0.bq 91 x.cs:=⟨_,rfl⟩;have o1:Og h0 h1 []:=by rw[cC];exact(Og.refl _ _).new _ _
 have KJ:n_ h0 91 x.cs= .val (.ptr h0.nx 0) h1:=by rw[cC];exact bxR h0 x
 have c1:∀j,cellAt h1 h0.nx j=x.cs[j]? :=fun j=>by rw[cC,bJ,if_pos rfl]
 have x1:h1.nx=h0.nx+1:=by rw[cC];rfl
 have y0:cellAt h1 h0.nx 0=some (.int .u64 (.ofNat x.main)):=c1 0;have y1:cellAt h1 h0.nx 1=some (.int .u64 (.ofNat x.sub)):=c1 1;have y2:cellAt h1 h0.nx 2=some (.str x.kv.key):=c1 2;have y3:cellAt h1 h0.nx 3=some (.str x.kv.val):=c1 3;have y4:cellAt h1 h0.nx 4=some (.int .u64 (.ofNat x.kv.iC)):=c1 4;have y5:cellAt h1 h0.nx 5=some (.int .u64 (.ofNat x.kv.mod)):=c1 5;have y6:cellAt h1 h0.nx 6=some (.int .u64 (.ofNat x.kv.im)):=c1 6;have y7:cellAt h1 h0.nx 7=some (.bool x.dW):=c1 7;have m1:=m.bU o1.1 (by simp);cases q:x.dW with
 |true=>
  rw[q]at y7;obtain⟨h2,hd,m2,x2,o2,g2⟩:=Is (P:=P) Q_ Wy m1 x.kv.key [9] [];rw[Rb]at m2;have e:fw W x=ub x.kv.key W:=by unfold fw;rw[q];rfl
  rw[e];refine bn (fn:=Tryz.f48) (c:=bD Tryz.f48) Tryz.func48 rfl ?_;show bB P 48 15 none _ _ _ _ _;refine bp ?_;refine rN ?_ (V KJ<|V y2<|V y7<|hd);exact⟨rfl,m2,o1.s1 ⟨o2,g2⟩⟩
 | false=>
  rw[q]at y7;obtain⟨h2,hu,m2,x2,o2,g2⟩:=BW (P:=P) Q_ Wy m1 x.kv.key (.agg x.cs);rw[Ra]at m2;have e:fw W x=qx x.kv.key x W:=by unfold fw;rw[q];rfl
  rw[e];refine bn (fn:=Tryz.f48) (c:=bD Tryz.f48) Tryz.func48 rfl ?_;show bB P 48 15 none _ _ _ _ _;refine bp ?_;have Ih:lB P 78 (.map r) (.str x.kv.key) (.agg [.int .u64 (.ofNat x.main),.int .u64 (.ofNat x.sub),.str x.kv.key,.str x.kv.val,.int .u64 (.ofNat x.kv.iC),.int .u64 (.ofNat x.kv.mod),.int .u64 (.ofNat x.kv.im),.bool false]) h1=some h2:=by
   have h:=hu;unfold Rec.cs at h;rw[q]at h;exact h
  refine rN ?_ (V KJ<|V y0<|V y1<|V y2<|V y3<|V y4<|V y5<|V y6<|V y7<|V @pN<|V Ih<|@FV);exact⟨_,rfl,_,rfl,rfl,m2,o1.s1 ⟨o2,g2⟩⟩
theorem KV.at{h:H}{b o n:Nat}{cap:ur}{l:List KV}(sl:br h (.slice b o n cap) n (l.flatMap KV.cs)){i:Nat}{x:KV}(hx:l[i]? =some x):cellAt h b (o+i*5)=some (.str x.key)∧cellAt h b (o+(i*5+1))=some (.str x.val)∧cellAt h b (o+(i*5+2))=some (.int .u64 (.ofNat x.iC))∧cellAt h b (o+(i*5+3))=some (.int .u64 (.ofNat x.mod))∧cellAt h b (o+(i*5+4))=some (.int .u64 (.ofNat x.im)):=by
 have g:∀k,k<5→cellAt h b (o+(i*5+k))=x.cs[k]? :=fun k hk=>jv KV.len sl hx hk;exact⟨g 0 (by omega),g 1 (by omega),g 2 (by omega),g 3 (by omega),g 4 (by omega)⟩
theorem zi:P.underlying 45=some (.slice 83):=by kernel_rfl
theorem lS(a:List Nat):cL a a=true:=(eK a a).2 rfl
structure SmI(h0:H)(va vb:AV)(n:Nat)(m:Nat)(ds:List Nat)(tm:T AV)(h:H)(i:Nat):Prop where
 ds:ds=[]
 nn:m=n-i
 ii:i≤n
 t0:tm.get 0=some va
 t1:tm.get 1=some vb
 t5:tm.get 5=some (.int .i64 (.ofNat i))
 oo:Og h0 h []
theorem F4(h0:H)(va vb:AV)(l:List KV)(sa:br h0 va l.length (l.flatMap KV.cs))(sb:br h0 vb l.length (l.flatMap KV.cs))(hz:l.length≤1000000):bW P (.enter 13 [va,vb] h0) (cQ h0 (.bool true)):=by
 have O0:=sa.len (P:=P) zi;have SU:=sb.len (P:=P) zi;have dd:decide (l.length=l.length)=true:=decide_eq_true rfl;refine bn (fn:=Tryz.f13) (c:=bD Tryz.f13) Tryz.func13 rfl ?_;show bB P 13 26 none _ _ _ _ _;refine bp ?_;refine rN ?_ (V O0<|V SU<|V dd<|@ak);refine cn (fun m ds tm h=>∃i,SmI h0 va vb l.length m ds tm h i) l.length rfl ⟨0,rfl,rfl,au _,by exact sT,by exact sT,by exact sT,Og.refl _ _⟩ (fun m ds tm h hI=>?_);obtain⟨i,rfl,rfl,ii,t0,t1,t5,oo⟩:=hI;by_cases hi:i<l.length
 ·have d1:decide (i<l.length)=true:=decide_eq_true hi
  have dX:(i<l.length)=True:=by simp[hi]
  obtain⟨x,hx⟩:∃x,l[i]? =some x:=⟨_,aq hi⟩;have sah:=br.only oo.1 sa (fun _ _=>by simp);have sbh:=br.only oo.1 sb (fun _ _=>by simp);obtain⟨bv,ov,cv,rfl,qw,-⟩:=sa.place (by omega);obtain⟨bw,ow,cw,rfl,Jx,-⟩:=sb.place (by omega);obtain⟨a0,a1,a2,a3,a4⟩:=KV.at sah hx;obtain⟨b0,b1,b2,b3,b4⟩:=KV.at sbh hx;have w1:bV .i64 (an i+an 1)=an (i+1):=cq (by omega);have e1:=lS x.key;have e2:=lS x.val;have e3:decide (x.iC=x.iC)=true:=decide_eq_true rfl;have e4:decide (x.mod=x.mod)=true:=decide_eq_true rfl;have e5:decide (x.im=x.im)=true:=decide_eq_true rfl;refine rT ?_ (V t0<|V t1<|V t5<|V O0<|V SU<|V d1<|V dX<|V a0<|V a1<|V a2<|V a3<|V a4<|V b0<|V b1<|V b2<|V b3<|V b4<|V e1<|V e2<|V e3<|V e4<|V e5<|w1);exact⟨l.length-(i+1),by omega,i+1,rfl,rfl,by omega,by exact sT,by exact sT,by exact sT,oo⟩
 ·have d1:decide (i<l.length)=false:=decide_eq_false hi
  refine rN ?_ (V t0<|V t1<|V t5<|V O0<|V SU<|d1);exact⟨rfl,oo⟩
theorem Re(h0:H)(va vb:AV)(l:List Rec)(sa:br h0 va l.length (l.flatMap Rec.cs))(sb:br h0 vb l.length (l.flatMap Rec.cs))(hz:l.length≤1000000):bW P (.enter 51 [va,vb] h0) (cQ h0 (.bool true)):=by
 have O0:=sa.len (P:=P) jl;have SU:=sb.len (P:=P) jl;have dd:decide (l.length=l.length)=true:=decide_eq_true rfl;refine bn (fn:=Tryz.f51) (c:=bD Tryz.f51) Tryz.func51 rfl ?_;show bB P 51 26 none _ _ _ _ _;refine bp ?_;refine rN ?_ (V O0<|V SU<|V dd<|@ak);refine cn (fun m ds tm h=>∃i,SmI h0 va vb l.length m ds tm h i) l.length rfl ⟨0,rfl,rfl,au _,by exact sT,by exact sT,by exact sT,Og.refl _ _⟩ (fun m ds tm h hI=>?_);obtain⟨i,rfl,rfl,ii,t0,t1,t5,oo⟩:=hI;by_cases hi:i<l.length
 ·have d1:decide (i<l.length)=true:=decide_eq_true hi
  have dX:(i<l.length)=True:=by simp[hi]
  obtain⟨x,hx⟩:∃x,l[i]? =some x:=⟨_,aq hi⟩;have sah:=br.only oo.1 sa (fun _ _=>by simp);have sbh:=br.only oo.1 sb (fun _ _=>by simp);obtain⟨bv,ov,cv,rfl,qw,-⟩:=sa.place (by omega);obtain⟨bw,ow,cw,rfl,Jx,-⟩:=sb.place (by omega);obtain⟨a0,a1,a2,a3,a4,a5,a6,a7⟩:=Rec.at sah hx;obtain⟨b0,b1,b2,b3,b4,b5,b6,b7⟩:=Rec.at sbh hx;have w1:bV .i64 (an i+an 1)=an (i+1):=cq (by omega);have e1:=lS x.kv.key;have e2:=lS x.kv.val;have e3:decide (x.kv.iC=x.kv.iC)=true:=decide_eq_true rfl;have e4:decide (x.kv.mod=x.kv.mod)=true:=decide_eq_true rfl;have e5:decide (x.kv.im=x.kv.im)=true:=decide_eq_true rfl;have e6:decide (x.main=x.main)=true:=decide_eq_true rfl;have e7:decide (x.sub=x.sub)=true:=decide_eq_true rfl;have e8:(x.dW==x.dW)=true:=by simp
  refine rT ?_ (V t0<|V t1<|V t5<|V O0<|V SU<|V d1<|V dX<|V a0<|V a1<|V a2<|V a3<|V a4<|V a5<|V a6<|V a7<|V b0<|V b1<|V b2<|V b3<|V b4<|V b5<|V b6<|V b7<|V e1<|V e2<|V e3<|V e4<|V e5<|V e6<|V e7<|V e8<|w1);exact⟨l.length-(i+1),by omega,i+1,rfl,rfl,by omega,by exact sT,by exact sT,by exact sT,oo⟩
 ·have d1:decide (i<l.length)=false:=decide_eq_false hi
  refine rN ?_ (V t0<|V t1<|V t5<|V O0<|V SU<|d1);exact⟨rfl,oo⟩
structure l_(h:H)(b:Nat)(L:List Rec)(rev comp:Nat)(v:AV):Prop where
 lt:b<h.nx
 c0:cellAt h b 0=some v
 c1:cellAt h b 1=some (.int .u64 (.ofNat rev))
 c2:cellAt h b 2=some (.int .u64 (.ofNat comp))
 wr:cj h b=true
 sl:br h v L.length (L.flatMap Rec.cs)
theorem Rf(h0:H)(b main:Nat):bW P (.enter 37 [.ptr b 0,.int .u64 (.ofNat main)] h0) (fun v h'=>v= .func 74 [] [.ptr h0.nx 0,.ptr (h0.nx+1) 0]∧h'=(h0.bq 24 [.ptr b 0]).bq 29 [.int .u64 (.ofNat main)]):=by
 refine bn (fn:=Tryz.f37) (c:=bD Tryz.f37) Tryz.func37 rfl ?_;show bB P 37 6 none _ _ _ _ _;refine bp ?_;repeat' (first|((with_reducible refine gh ?_);(conv =>whnf);(with_reducible refine⟨?_⟩))|((with_reducible refine bE rfl ?_);(conv =>arg 2;whnf))|((with_reducible first|refine iB ?_ ?_|refine g_ ?_ ?_|refine hP ?_ ?_)<;>intro hb<;>(try simp only[hb]))|(simp only[B,F,ab,ae,af,ag,ah,ai, ↓reduceIte,eq_self]))
theorem newC(h0:H):bW P (.enter 4 [] h0) (fun v h'=>v= .ptr h0.nx 0∧Og h0 h' []∧l_ h' h0.nx [] 1 0 .bh∧h'.nx=h0.nx+1):=by
 obtain⟨h1,cC⟩:∃h1,h1=h0.bq 62 [.bh,.int .u64 (.ofNat 1),.int .u64 (.ofNat 0)]:=⟨_,rfl⟩;have o1:Og h0 h1 []:=by rw[cC];exact(Og.refl _ _).new _ _
 have x1:h1.nx=h0.nx+1:=by rw[cC];rfl
 have k:l_ h1 h0.nx [] 1 0 .bh:=⟨by omega,by rw[cC,bJ,if_pos rfl];rfl,by rw[cC,bJ,if_pos rfl];rfl,by rw[cC,bJ,if_pos rfl];rfl,by rw[cC,cY,if_pos rfl],.none⟩;refine bn (fn:=Tryz.f4) (c:=bD Tryz.f4) Tryz.func4 rfl ?_;show bB P 4 3 none _ _ _ _ _;refine bp ?_;refine rN ?_ (cC.symm);exact⟨o1,k,x1⟩
structure StAt(h:H)(b:Nat)(L:List Rec)(rev comp:Nat)(v:AV):Prop where
 lt:b<h.nx
 c0:cellAt h b 0=some v
 c1:cellAt h b 1=some (.int .u64 (.ofNat rev))
 c2:cellAt h b 2=some (.int .u64 (.ofNat comp))
 wr:cj h b=true
 sl:br h v L.length (L.flatMap Rec.cs)
theorem StAt.w{h:H}{b:Nat}{L:List Rec}{rev comp:Nat}{v:AV}(s:StAt h b L rev comp v):StW h b rev comp:=⟨s.c1,s.c2⟩
end
end Go.Proofs.YtnedigoajoflaaaGreat.M
