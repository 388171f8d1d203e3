/-
  AX: regions whose order is drawn: every order that may be drawn holds all operations, each behind those that it must come behind.
-/
import Derived.Test.YtnedigoajoflaaaGreatAxD
import Derived.Orders
set_option linter.unusedSimpArgs false
set_option linter.unusedVariables false
set_option linter.unusedSectionVars false
set_option linter.defProp false
set_option maxHeartbeats 8000000
open Array renaming getD_eq_getD_getElem?→ak,getElem?_setIfInBounds→aw,getElem?_toList→aA,getElem?_eq_getElem→aD,all_eq_true_iff_forall_mem→aG,getElem?_eq_none→aH,length_toList→aJ,getElem?_replicate→aM,toArray_toList→aR
open List renaming mem_cons→al,mem_cons_of_mem→aB,length_cons→aN,mem_reverse→aO,getElem?_eq_none→aQ,mem_of_getElem?→aS,range→aU
open Bool renaming and_eq_true→an,not_eq_true'→aF,false_eq_true→aL,or_eq_true→aP
open Option renaming bind_some→ao,getD_some→aq,map_some→aE
open Nat renaming eq_of_beq_eq_true→au,ne_of_beq_eq_false→az,le_of_ble_eq_true→aC,le_trans→aK
namespace Go.AX
open Go.RowKit
theorem oL{n:Nat}:∀{l:List Nat},yV n l=true↔n∈l
 |[]=>by simp[yV]
 | m::l=>by
  simp only[yV,al];cases h:Nat.beq n m
  ·have:=az h
   simp only[this,false_or];exact oL
  ·have:=au h
   simp[this]
theorem Aq{B:List Nat}:∀{l:List Nat},JF B l=true↔∀e,e∈l→e∈B
 |[]=>by simp[JF]
 | m::l=>by
  simp only[JF,al,forall_eq_or_imp];cases h:yV m B
  ·simp only[aL,false_iff,not_and]
   intro h2;rw[oL.2 h2]at h;cases h
  ·simp only[oL.1 h,true_and];exact Aq
theorem Hc{B:List Nat}:∀{l:List Nat},Pa B l=true→∃e,e∈l∧e∈B
 |[],h=>by simp[Pa]at h
 |m::l,h=>by
  simp only[Pa]at h;split at h
  ·rename_i hm;exact⟨m,by simp,oL.1 hm⟩
  ·obtain⟨e,h1,h2⟩:=Hc h;exact⟨e,by simp[h1],h2⟩
theorem nK{e:Nat}:∀{l:List Edge},e∈cu l↔∃x,x∈l∧Region.binds .any x=true∧x.on=e
 |[]=>by simp[cu]
 | x::l=>by
  simp only[cu];split
  ·rename_i hb
   simp only[al,nK (l:=l)];constructor
   ·rintro(rfl|⟨y,h1,h2⟩)
    ·exact⟨x,.inl rfl,hb,rfl⟩
    ·exact⟨y,.inr h1,h2⟩
   ·rintro⟨y,rfl|h1,h2⟩
    ·exact .inl h2.2.symm
    ·exact .inr ⟨y,h1,h2⟩
  ·rename_i hb
   simp only[al,nK (l:=l)];constructor
   ·rintro⟨y,h1,h2⟩;exact⟨y,.inr h1,h2⟩
   ·rintro⟨y,rfl|h1,h2⟩
    ·rw[h2.1]at hb;cases hb
    ·exact⟨y,h1,h2⟩
theorem uW{p:Nat×Oper}:∀{l:List Oper}{i:Nat},p∈kD i l↔i≤p.1∧l[p.1-i]? =some p.2
 |[],i=>by simp[kD]
 | o::l,i=>by
  simp only[kD,al,uW (l:=l)];constructor
  ·rintro(rfl|⟨h1,h2⟩)
   ·simp
   ·refine⟨by omega,?_⟩
    rw[show p.1-i=(p.1-(i+1))+1 by omega];simpa using h2
  ·rintro⟨h1,h2⟩
   by_cases e:p.1=i
   ·left
    rw[e,Nat.sub_self]at h2;simp at h2;obtain⟨a,b⟩:=p;simp only at e h2;rw[e,h2]
   ·right
    refine⟨by omega,?_⟩;rw[show p.1-i=(p.1-(i+1))+1 by omega]at h2;simpa using h2
theorem LC{ops:Array Oper}{p:Nat×Oper}:p∈kD 0 ops.toList↔ops[p.1]? =some p.2:=by
 rw[uW];simp
theorem lM{ops:Array Oper}{j:Nat}{o:Oper}(h:ops[j]? =some o):kJ ops j=o.dst:=by
 unfold kJ;rw[aA,h]
theorem wS:∀{l m:List Nat},l.Nodup→(∀x,x∈l→x∈m)→l.length≤m.length
 |[],m,_,_=>by simp
 |x::l,m,hn,hs=>by
  obtain⟨h1,h2⟩:=List.nodup_cons.1 hn;have hx:=hs x (by simp);have:=wS (m:=m.erase x) h2 (fun y hy=>(List.mem_erase_of_ne (fun e:y=x=>h1 (by rw[←e];exact hy))).2 (hs y (by simp[hy])));rw[List.length_erase_of_mem hx]at this;have CG:0<m.length:=List.length_pos_iff.2 (fun e=>by rw[e]at hx;cases hx);simp only[aN];omega
theorem NH{n:Nat}{l:List Nat}(hn:l.Nodup)(fW:∀x,x∈l→x<n)(hlen:l.length=n){i:Nat}(hi:i<n):i∈l:=by
 apply Classical.byContradiction;intro h;have:=wS (l:=i::l) (m:=aU n) (List.nodup_cons.2 ⟨h,hn⟩) (fun x hx=>by
  simp only[al]at hx;rcases hx with rfl|hx
  ·exact List.mem_range.2 hi
  ·exact List.mem_range.2 (fW x hx))
 simp only[aN,List.length_range]at this;omega
def Ord(ops:Array Oper):List Nat→Prop
 |[]=>True
 |x::b=>(∀o,ops[x]? =some o→∀e,e∈cu o.after.toList→e∈b)∧Ord ops b
theorem Ar{S:List Nat}:∀{l:List (Nat×Oper)}{done:List Nat},GC done l=true→(∀x,x∈done→x∈S)→(∃p,p∈l∧p.1∉S)→
  ∃p,p∈l∧p.1∉S∧∀e,e∈cu p.2.after.toList→e∈S
 |[],_,_,_,⟨p,h,_⟩=>by simp at h
 | (i,o)::l,done,h,hs,⟨p,hp,hn⟩=>by
  simp only[GC]at h;split at h
  ·rename_i hc
   simp only[an]at hc;have JW:=Aq.1 hc.2;by_cases hi:i∈S
   ·obtain⟨q,q1,q2,q3⟩:=Ar (S:=S) h (fun x hx=>by
     simp only[al]at hx;rcases hx with rfl|hx
     ·exact hi
     ·exact hs x hx) (by
     refine⟨p,?_,hn⟩;simp only[al]at hp;rcases hp with rfl|hp
     ·exact absurd hi hn
     ·exact hp)
    exact⟨q,by simp[q1],q2,q3⟩
   ·exact⟨(i,o),by simp,hi,fun e he=>hs e (JW e he)⟩
  ·cases h
section
variable{ops:Array Oper}
theorem Hd{rem:List (Nat×Oper)}(ht:GC [] rem=true)(hr:∀p,p∈rem→ops[p.1]? =some p.2)(ha:∀i,i<ops.size→∃p,p∈rem∧p.1=i):
  ∀(fuel t:Nat)(lZ:Array Bool)(acc:List Nat),lZ.size=ops.size→(∀i,i<ops.size→(lZ.getD i false=true↔i∈acc))→(∀i,i∈acc→i<ops.size)→acc.Nodup→acc.length+fuel=ops.size→Ord ops acc→
  ∃res:List Nat,Region.linearise.go .any ops fuel t lZ acc=res.reverse∧(∀i,i<ops.size→i∈res)∧(∀i,i∈res→i<ops.size)∧res.Nodup∧Ord ops res
 |0,t,lZ,acc,mH,hl,fW,PM,hlen,Xj=>by
  refine⟨acc,rfl,fun i hi=>?_,fW,PM,Xj⟩;exact NH PM fW (by omega) hi
 | fuel+1,t,lZ,acc,mH,hl,fW,PM,hlen,Xj=>by
  unfold Region.linearise.go;obtain⟨rs,hrs⟩:∃rs,rs=(aU ops.size).filter fun i=> !lZ.getD i true&&((ops[i]?).map (·.after.all fun e=> !Region.binds .any e||lZ.getD e.on false)).getD false:=⟨_,rfl⟩;simp only[←hrs];have dH:rs≠[]:=by
   -- some is not listed
   have hex:∃i,i<ops.size∧i∉acc:=by
    apply Classical.byContradiction;intro hcon;have wT:∀i,i<ops.size→i∈acc:=fun i hi=>Classical.byContradiction fun hx=>hcon ⟨i,hi,hx⟩;have:=wS (List.nodup_range (n:=ops.size)) (fun x hx=>wT x (List.mem_range.1 hx));simp only[List.length_range]at this;omega
   obtain⟨i,hi,tI⟩:=hex;obtain⟨p,hp,Xk⟩:=ha i hi;obtain⟨q,q1,q2,q3⟩:=Ar (S:=acc) ht (by simp) ⟨p,hp,by rw[Xk];exact tI⟩;have hq:=hr q q1;have hqlt:q.1<ops.size:=(Array.getElem?_eq_some_iff.1 hq).1;have :q.1∈rs:=by
    rw[hrs,List.mem_filter];refine⟨List.mem_range.2 hqlt,?_⟩;simp only[an,aF,hq,aE,aq,aG,aP];constructor
    ·have h1:¬(lZ.getD q.1 false=true):=fun x=>q2 ((hl _ hqlt).1 x)
     have h2:lZ.getD q.1 true=lZ.getD q.1 false:=by
      rw[ak,ak,aD (by omega)];rfl
     rw[h2];simpa using h1
    ·intro e he
     cases hb:Region.binds .any e
     ·left;rfl
     ·right
      have hm:=q3 e.on (nK.2 ⟨e,by simpa using he,hb,rfl⟩);exact(hl _ (fW _ hm)).2 hm
   intro e;rw[e]at this;cases this
  have CG:0<rs.length:=List.length_pos_iff.2 dH;have tI:t%rs.length<rs.length:=Nat.mod_lt _ CG;rw[List.getElem?_eq_getElem tI];simp only;have Fy:=List.getElem_mem tI;obtain⟨i,hi⟩:∃i,i=rs[t%rs.length]:=⟨_,rfl⟩;rw[←hi]at Fy ⊢;rw[hrs,List.mem_filter]at Fy;obtain⟨m1,m2⟩:=Fy;have m1:=List.mem_range.1 m1;simp only[an,aF]at m2;have hni:i∉acc:=by
   intro hx;have:=(hl i m1).2 hx;have h2:lZ.getD i true=lZ.getD i false:=by
    rw[ak,ak,aD (by omega)];rfl
   rw[h2,this]at m2;exact absurd m2.1 (by simp)
  refine Hd ht hr ha fuel _ _ _ (by simp[mH]) (fun j hj=>?_) (fun j hj=>?_) (List.nodup_cons.2 ⟨hni,PM⟩) (by simp only[aN];omega) ⟨?_,Xj⟩
  ·rw[ak,aw]
   by_cases e:i=j
   ·subst e;rw[if_pos rfl,if_pos (by omega)];simp
   ·rw[if_neg e,←ak,hl j hj,al];exact⟨.inr,fun x=>x.resolve_left (fun x=>e x.symm)⟩
  ·simp only[al]at hj
   rcases hj with rfl|hj
   ·exact m1
   ·exact fW j hj
  ·intro o ho e he
   obtain⟨x,x1,x2,x3⟩:=nK.1 he;have m3:=m2.2;rw[ho]at m3;simp only[aE,aq,aG,aP,aF]at m3;have:=m3 x (by simpa using x1);rw[x2,x3]at this;simp only[Bool.true_eq_false,false_or]at this;have hlt':e<ops.size:=by
    apply Classical.byContradiction;intro hx;rw[ak,aH (by omega)]at this;simp at this
   exact(hl e hlt').1 this
theorem Ord.split:∀{res a b:List Nat}{x:Nat},Ord ops res→res=a++x::b→∀o,ops[x]? =some o→∀e,e∈cu o.after.toList→e∈b
 |_,[],b,x,h,rfl,o,ho,e,he=>h.1 o ho e he
 |_,y::a,b,x,h,rfl,o,ho,e,he=>Ord.split (res:=a++x::b) (a:=a) h.2 rfl o ho e he
theorem sw{r:Nat}{done:List Nat}:∀{l:List (Nat×Oper)}{p:Nat×Oper},zP r done l=some p→p∈l
 |[],p,h=>by simp[zP]at h
 |(i,o)::l,p,h=>by
  simp only[zP]at h;split at h
  ·cases h;simp
  ·simp[sw h]
theorem oM{all:List (Nat×Oper)}:∀{n:Nat}{done:List Nat}{p:Nat×Oper},p∈zQ all n done→p∈all
 |0,done,p,h=>by simp[zQ]at h
 | n +1,done,p,h=>by
  simp only[zQ]at h;split at h
  ·rename_i i o hp
   simp only[al]at h;rcases h with rfl|h
   ·exact sw hp
   ·exact oM h
  ·split at h
   ·rename_i i o hp
    simp only[al]at h;rcases h with rfl|h
    ·exact sw hp
    ·exact oM h
   ·split at h
    ·rename_i i o hp
     simp only[al]at h;rcases h with rfl|h
     ·exact sw hp
     ·exact oM h
    ·simp at h
theorem Tu{d:qi}(h:sY ops=some d)(t:Nat):d.ops=ops∧d.wait=false∧d.early=[]∧DW d (Region.linearise .any ops t):=by
 unfold sY at h;simp only at h;split at h
 ·rename_i hc
  cases h;simp only[an]at hc;obtain⟨⟨h1,h2⟩,h3⟩:=hc;have hr:∀p,p∈zQ (kD 0 ops.toList) ops.toList.length []→ops[p.1]? =some p.2:=fun p hp=>LC.1 (oM hp);have ha:∀i,i<ops.size→∃p,p∈zQ (kD 0 ops.toList) ops.toList.length []∧p.1=i:=by
   intro i hi;have hm:i∈(kD 0 ops.toList).map Prod.fst:=List.mem_map.2 ⟨(i,ops[i]),LC.2 (by simp[hi]),rfl⟩;have:=Aq.1 h2 i hm;obtain⟨p,p1,p2⟩:=List.mem_map.1 this;exact⟨p,p1,p2⟩
  obtain⟨res,r1,r2,r3,r4,r5⟩:=Hd h1 hr ha ops.size t (Array.replicate ops.size false) [] (by simp) (fun i hi=>by
   rw[ak,aM,if_pos hi];simp) (by simp) List.nodup_nil (by simp) trivial
  refine⟨rfl,rfl,rfl,?_⟩;unfold Region.linearise;rw[r1];refine⟨h3,(by rw[List.Nodup,List.pairwise_reverse];exact r4.imp (fun h=>h.symm)),?_,?_,?_,?_,?_⟩
  ·intro pre sO hs i o ho e he VJ
   have hi:i∈pre++sO:=by rw[←hs,aO];exact r2 i (Array.getElem?_eq_some_iff.1 ho).1
   rw[List.mem_append]at hi;rcases hi with hi|hi
   ·obtain⟨a,b,rfl⟩:=List.append_of_mem hi
    have qq:res=(sO.reverse++b.reverse)++i::a.reverse:=by
     have:=congrArg List.reverse hs;rw[List.reverse_reverse]at this;rw[this];simp
    have h5:=r5.split qq o ho e he;rw[qq]at r4;rw[List.nodup_append]at r4;exact absurd rfl (r4.2.2 e (by simp[VJ]) e (by simp at h5;simp[h5]))
   ·exact hi
  ·intro p hp
   have:=hr p hp;exact⟨by rw[aO];exact r2 _ (Array.getElem?_eq_some_iff.1 this).1,this⟩
  ·intro p hp;simp at hp
  ·intro i hi
   rw[aO]at hi;obtain⟨p,p1,p2⟩:=ha i (r3 i hi);left;exact⟨p.2,by rw[←p2];exact p1⟩
  ·intro x;cases x
 ·cases h
end
end Go.AX
namespace Go.AX
open Go.RowKit
section
variable{P:Program}{N:NN}{φ:cX}{w0 w:World}{d:qi}{i:Nat}{o:Oper}{rest:List Nat}{idx:List Nat}
theorem DW.read{rem:List (Nat×Oper)}(h:DW d idx)(hw:d.wait=false)(hr:d.rem=(i,o)::rem)(b:Nat):DW {d with rem,early:=(i,o,b)::d.early} idx:=by
 refine⟨h.stat,h.nodup,h.closed,fun p hp=>h.rem p (by rw[hr];simp[hp]),fun p hp=>?_,fun j hj=>?_,fun x=>by simp only[hw]at x;cases x⟩
 ·simp only[al]at hp
  rcases hp with rfl|hp
  ·exact(h.rem (i,o) (by rw[hr];simp)).2
  ·exact h.early p hp
 ·rcases h.all j hj with⟨o',ho⟩|⟨o',b',ho⟩
  ·rw[hr,al]at ho
   rcases ho with e|ho
   ·cases e;exact .inr ⟨_,_,List.mem_cons_self ..⟩
   ·exact .inl ⟨o',ho⟩
  ·exact .inr ⟨o',b',aB _ ho⟩
theorem DW.tail(h:DW d (i::rest)):(∀sO pre,rest=pre++sO→JI d.ops sO)∧rest.Nodup∧i∉rest:=
 ⟨fun sO pre e=>h.closed (i::pre) sO (by rw[e];rfl),(List.nodup_cons.1 h.nodup).2,(List.nodup_cons.1 h.nodup).1⟩
theorem DW.lag(h:DW d (i::rest))(hw:d.wait=false)(hr:∀p,p∈d.rem→p.1≠i):DW d rest:=by
 obtain⟨h1,h2,h3⟩:=h.tail;refine⟨h.stat,h2,fun pre sO e=>h1 sO pre e,fun p hp=>?_,h.early,fun j hj=>h.all j (by simp[hj]),fun x=>by rw[hw]at x;cases x⟩;obtain⟨a,b⟩:=h.rem p hp;refine⟨?_,b⟩;simp only[al]at a;exact a.resolve_left (hr p hp)
theorem Dz{pre post:List Nat}(h:DW d idx)(he:idx=pre++i::post):∀{l:List (Nat×Oper)}{B:List Nat},ib i B l=true→(∀b,b∈B→b∈i::post)→(∀p,p∈l→p∈d.rem)→∀p,p∈l→p.1∈post∧p.1≠i
 |[],_,_,_,_,p,hp=>by cases hp
 | (j,oj)::l,B,hc,hB,hl,p,hp=>by
  simp only[ib]at hc;split at hc
  ·cases hc
  ·rename_i dH
   have dH:=az dH;split at hc
   ·rename_i ha
    obtain⟨e,e1,e2⟩:=Hc ha;have hj:=(h.rem (j,oj) (hl _ (by simp))).2;have Fy:j∈i::post:=h.closed pre (i::post) he j oj hj e e1 (hB e e2);have hpost:j∈post:=by
     simp only[al]at Fy;exact Fy.resolve_left dH
    simp only[al]at hp;rcases hp with rfl|hp
    ·exact⟨hpost,dH⟩
    ·refine Dz h he hc (fun b hb=>?_) (fun q hq=>hl q (by simp[hq])) p hp
     simp only[al]at hb;rcases hb with rfl|hb
     ·exact Fy
     ·exact hB b hb
   ·cases hc
theorem kY{p:Nat×Oper×Nat}:∀{l:List (Nat×Oper×Nat)}{B:List Nat},p∈dQ B l→p∈l
 |[],_,h=>by simp[dQ]at h
 | (j,oj,b)::l,B,h=>by
  simp only[dQ]at h;split at h
  ·exact aB _ (kY h)
  ·simp only[al]at h
   rcases h with rfl|h
   ·simp
   ·exact aB _ (kY h)
theorem wU{post:List Nat}(GY:JI d.ops post):∀{l:List (Nat×Oper×Nat)}{B:List Nat},(∀e,e∈B→e∉post)→(∀p,p∈l→d.ops[p.1]? =some p.2.1)→∀p,p∈l→p.1∈post→p∈dQ B l
 |[],_,_,_,p,hp,_=>by cases hp
 | (j,oj,b)::l,B,hB,hl,p,hp,hq=>by
  simp only[dQ];split
  ·rename_i hm
   have hj:=hB j (oL.1 hm);simp only[al]at hp;rcases hp with rfl|hp
   ·exact absurd hq hj
   ·refine wU GY (fun e he hx=>?_) (fun p hp=>hl p (by simp[hp])) p hp hq
    rw[List.mem_append]at he;rcases he with he|he
    ·exact hj (GY j oj (hl (j,oj,b) (by simp)) e he hx)
    ·exact hB e he hx
  ·simp only[al]at hp
   rcases hp with rfl|hp
   ·simp
   ·exact aB _ (wU GY hB (fun p hp=>hl p (by simp[hp])) p hp hq)
theorem DW.DB{rem:List (Nat×Oper)}{post:List Nat}(h:DW d (i::post))(hr:d.rem=(i,o)::rem):
  ∀p,p∈d.early→p.1∈post→p∈dQ (cu o.after.toList) d.early:=by
 obtain⟨h1,h2,h3⟩:=h.tail;have GY:=h1 post [] rfl;have hi:=(h.rem (i,o) (by rw[hr];simp)).2;exact wU GY (fun e he hx=>h3 (GY i o hi e he hx)) h.early
theorem DW.write{rem:List (Nat×Oper)}{post:List Nat}(h:DW d (i::post))(hw:d.wait=false)(hr:d.rem=(i,o)::rem)(dH:∀p,p∈rem→p.1≠i):
  DW {d with rem,early:=dQ (cu o.after.toList) d.early} post:=by
 obtain⟨h1,h2,h3⟩:=h.tail;refine⟨h.stat,h2,fun pre sO e=>h1 sO pre e,fun p hp=>?_,fun p hp=>h.early p (kY hp),fun j hj=>?_,fun x=>by simp only[hw]at x;cases x⟩
 ·obtain⟨a,b⟩:=h.rem p (by rw[hr];simp[hp])
  simp only[al]at a;exact⟨a.resolve_left (dH p hp),b⟩
 ·rcases h.all j (by simp[hj])with⟨o',ho⟩|⟨o',b',ho⟩
  ·rw[hr,al]at ho
   rcases ho with e|ho
   ·cases e;exact absurd hj h3
   ·exact .inl ⟨o',ho⟩
  ·exact .inr ⟨o',b',h.DB hr _ ho hj⟩
theorem DW.waits{rem:List (Nat×Oper)}{post:List Nat}(h:DW d (i::post))(hr:d.rem=(i,o)::rem)(dH:∀p,p∈rem→p.1≠i):
  DW {d with rem:=(i,o)::rem,early:=dQ (cu o.after.toList) d.early,wait:=true} (i::post):=by
 refine⟨h.stat,h.nodup,h.closed,fun p hp=>h.rem p (by rw[hr];exact hp),fun p hp=>h.early p (kY hp),fun j hj=>?_,fun _=>⟨i,o,rem,post,rfl,rfl,dH⟩⟩;simp only[al]at hj;rcases hj with rfl|hj
 ·exact .inl ⟨o,by simp⟩
 ·rcases h.all j (by simp[hj])with⟨o',ho⟩|⟨o',b',ho⟩
  ·exact .inl ⟨o',by rw[hr]at ho;exact ho⟩
  ·exact .inr ⟨o',b',h.DB hr _ ho hj⟩
theorem DW.back{rem:List (Nat×Oper)}(h:DW d idx)(hw:d.wait=true)(hr:d.rem=(i,o)::rem):∃post,idx=i::post∧d.ops[i]? =some o∧DW {d with rem,wait:=false} post:=by
 obtain⟨i',o',rem',post,e1,e2,e3⟩:=h.wait hw;rw[hr]at e1;cases e1;subst e2;obtain⟨h1,h2,h3⟩:=h.tail;refine⟨post,rfl,(h.rem (i,o) (by rw[hr];simp)).2,h.stat,h2,fun pre sO e=>h1 sO pre e,fun p hp=>?_,h.early,fun j hj=>?_,fun x=>by cases x⟩
 ·obtain⟨a,b⟩:=h.rem p (by rw[hr];simp[hp])
  simp only[al]at a;exact⟨a.resolve_left (e3 p hp),b⟩
 ·rcases h.all j (by simp[hj])with⟨o',ho⟩|⟨o',b',ho⟩
  ·rw[hr,al]at ho
   rcases ho with e|ho
   ·cases e;exact absurd hj h3
   ·exact .inl ⟨o',ho⟩
  ·exact .inr ⟨o',b',ho⟩
theorem pq{t k:Nat}{es:List Nat}:∀{l:List (Nat×Oper)},zR t k es l=true→∀p,p∈l→p.2.dst=some t→p.1≠k∧(p.1∈es∨CB p.2=false)
 |[],_,p,hp,_=>by cases hp
 | (j, oj)::l,h,p,hp,ht=>by
  simp only[zR]at h;simp only[al]at hp;split at h
  ·rename_i hn
   rcases hp with rfl|hp
   ·simp only at ht;rw[ht]at hn;cases hn
   ·exact pq h p hp ht
  ·rename_i dd hd
   split at h
   ·rename_i hn
    rcases hp with rfl|hp
    ·simp only at ht;rw[ht]at hd;cases hd
     exact absurd rfl (az hn)
    ·exact pq h p hp ht
   ·split at h
    ·cases h
    ·rename_i h1
     split at h
     ·rename_i h2
      rcases hp with rfl|hp
      ·refine⟨az h1,?_⟩
       simp only[aP,an,aF]at h2;rcases h2 with h2|h2
       ·exact .inl (oL.1 h2)
       ·exact .inr h2.1
      ·exact pq h p hp ht
     ·cases h
theorem ye{k:Nat}{es:List Nat}{all:List (Nat×Oper)}:∀{l:List Tmp},zS k es all l=true→∀t,t∈l→zR t k es all=true
 |[],_,t,ht=>by cases ht
 | u::l,h,t,ht=>by
  simp only[zS]at h;split at h
  ·rename_i hu
   simp only[al]at ht;rcases ht with rfl|ht
   ·exact hu
   ·exact ye h t ht
  ·cases h
theorem As{ops:Array Oper}{all:List (Nat×Oper)}:∀{l:List (Nat×Oper)},GD ops all l=true→∀p,p∈l→zS p.1 (cu p.2.after.toList) all (slotsOf ops p.2)=true
 |[],_,p,hp=>by cases hp
 | (k,ok)::l,h,p,hp=>by
  simp only[GD]at h;split at h
  ·rename_i hs
   simp only[al]at hp;rcases hp with rfl|hp
   ·exact hs
   ·exact As h p hp
  ·cases h
theorem DW.free(h:DW d (i::rest))(hi:d.ops[i]? =some o):∀t,t∈slotsOf d.ops o→∀j,j∈i::rest→isE d.ops j=true→kJ d.ops j≠some t:=by
 intro t ht j hj hE hd;obtain⟨h1,h2,h3⟩:=h.tail;have hs:=ye (As h.stat (i,o) (LC.2 hi)) t ht;cases hoj:d.ops[j]? with
 |none=>unfold kJ at hd;rw[aA,hoj]at hd;cases hd
 | some oj=>
  rw[lM hoj]at hd;obtain⟨a,b⟩:=pq hs (j,oj) (LC.2 hoj) hd;simp only[al]at hj;rcases hj with e|hj
  ·exact a e
  ·rcases b with b|b
   ·exact h3 (h1 rest [] rfl i o hi j b hj)
   ·unfold isE at hE
    rw[hoj]at hE;simp only at hE b;rw[b]at hE;cases hE
theorem mY{tm:T AV}{t:Nat}:∀{l:List Tmp},(iY tm l).get t=if t∈l then tm.get t else none
 |[]=>by simp[iY]
 |u::l=>by
  simp only[iY,T.bS,mY (l:=l),al];by_cases e:t=u
  ·subst e;simp
  ·simp[e]
theorem iQ{t:Tmp}:∀{l:List Operand},.tmp t∈l→t∈tmpsOf l
 |[],h=>by cases h
 | x::l,h=>by
  simp only[al]at h;rcases h with rfl|h
  ·simp[tmpsOf]
  ·have:=iQ h
   cases x<;>simp[tmpsOf,this]
theorem iR{ops:Array Oper}{t:Tmp}(h:t∈tmpsOf o.op.operands.toList):t∈slotsOf ops o:=by
 unfold slotsOf;split
 ·exact h
 ·split
  ·exact aB _ h
  ·exact h
theorem Au{ops:Array Oper}{idx:List Nat}{nt:Nat}{tm:T AV}{tmps:Array Value}(tx:TX φ ops idx nt tm tmps){l:List Tmp}(hf:∀t,t∈l→∀j,j∈idx→isE ops j=true→kJ ops j≠some t):
  ∃mj,TR φ nt (iY tm l) mj∧∀t,t∈l→mj.getD t undef=tmps.getD t undef:=by
 obtain⟨h1,h2⟩:=tx;have hg:∀t,(Array.ofFn (n:=nt) fun i=>if i.val∈l then tmps.getD i.val undef else undef).getD t undef=if t∈l then tmps.getD t undef else undef:=by
  intro t;rw[ak];by_cases ht:t<nt
  ·rw[aD (by simpa using ht)];simp
  ·rw[aH (by simpa using ht)]
   split
   ·rw[ak,aH (by omega)]
   ·rfl
 refine⟨Array.ofFn (n:=nt) fun i=>if i.val∈l then tmps.getD i.val undef else undef,⟨by simp,fun t=>?_⟩,fun t ht=>by rw[hg,if_pos ht]⟩;rw[hg,mY];by_cases ht:t∈l
 ·rw[if_pos ht,if_pos ht];exact h2 t (hf t ht)
 ·rw[if_neg ht,if_neg ht];exact mQ
theorem He{ops:Array Oper}{nt:Nat}{tm:T AV}{tmps mj:Array Value}(tr:TR φ nt (iY tm (slotsOf ops o)) mj)(hs:∀t,t∈slotsOf ops o→mj.getD t undef=tmps.getD t undef):
  dL (iY tm (slotsOf ops o)) ops o=Region.wanted o (yielded ops tmps):=by
 unfold dL Region.wanted;cases hg:o.guard with
 |none=>rfl
 | some x=>
  obtain⟨j,want⟩:=x;simp only[yielded];cases hj:ops[j]? with
  |none=>unfold kJ;rw[aA,hj];simp
  | some oj=>
   rw[lM hj];simp only[ao];cases hd:oj.dst with
   |none=>simp
   | some dd=>
    simp only[ao];have hr:=tr.2 dd;have tI:dd∈slotsOf ops o:=by unfold slotsOf;rw[hg];simp only[lM hj,hd];simp
    rw[hs dd tI]at hr;cases ht:(iY tm (slotsOf ops o)).get dd with
    | none=>
     rw[ht]at hr;simp only;cases hc:tmps[dd]? with
     |none=>simp
     | some c=>
      have e:tmps.getD dd undef=c:=by rw[ak,hc];rfl
      rw[e]at hr;cases c with
      |bool b=>
       simp only[Option.getD_none,jd,mP]at hr;obtain⟨a,ha,_⟩:=hr;cases ha
      |_=>simp
    | some v=>
     rw[ht,aq]at hr;cases hc:tmps[dd]? with
     |none=>
      have e:tmps.getD dd undef=undef:=by rw[ak,hc];rfl
      rw[e]at hr;cases v with
      |bool b=>simp[undef]at hr
      |_=>simp
     | some c=>
      have e:tmps.getD dd undef=c:=by rw[ak,hc];rfl
      rw[e]at hr;cases v with
      |bool b=>simp only[fa]at hr;subst hr;simp
      |slice b o len cp=>obtain⟨a,c',e'⟩:=cR hr;subst e';simp
      |_=>
       cases c with
       |bool b=>simp at hr
       |_=>simp
theorem Fz{tm:T AV}{h:H}{cs:Array SelectCase}{b:Bool}:bF P tm h (.select cs b)= .fail:=rfl
theorem wV{h:H}(hr:HR N φ h w)(hN:N≤w.heap.size){ops:Array Oper}{idx:List Nat}{nt:Nat}{tm:T AV}{tmps:Array Value}(tx:TX φ ops idx nt tm tmps)
  (hf:∀t,t∈slotsOf ops o→∀j,j∈idx→isE ops j=true→kJ ops j≠some t):
  dL (iY tm (slotsOf ops o)) ops o=Region.wanted o (yielded ops tmps)∧RR P N φ w ((execOp (ev tmps) o).run P w) (bF P (iY tm (slotsOf ops o)) h o.op):=by
 obtain⟨mj,tr,hs⟩:=Au tx hf;refine⟨He tr hs,?_⟩;have:=Dw (P:=P) hr hN tr o;by_cases FA:∃cs b,o.op= .select cs b
 ·obtain⟨cs,b,e⟩:=FA
  rw[e,Fz];trivial
 ·rw[execOp_congr (ρ:=ev tmps) (ρ':=ev mj) o (fun cs b e=>FA ⟨cs,b,e⟩) (fun x hx=>?_)]
  ·exact this
  ·cases x with
   |tmp t=>exact(hs t (iR (iQ (by simpa using hx)))).symm
   |_=>rfl
end
end Go.AX
namespace Go.AX
open Go.RowKit
theorem yf:∀{a b:List Nat},cL a b=true→a=b
 |[],[],_=>rfl
 |[],_::_,h=>by simp[cL]at h
 |_::_,[],h=>by simp[cL]at h
 |x::a,y::b,h=>by
  simp only[cL]at h;split at h
  ·rename_i e;rw[au e,yf h]
  ·cases h
theorem Hf{j k:IntKind}(h:IntKind.Tf j k=true):j=k:=by cases j<;>cases k<;>first|rfl|(simp[IntKind.Tf]at h)
mutual
theorem AV.j_:∀{a b:AV},AV.same a b=true→a=b
 | .bool a,b,h=>by cases b<;>simp[AV.same]at h;rw[h]
 | .int k a,b,h=>by
  cases b<;>simp[AV.same]at h;rw[Hf h.1,h.2]
 | .str a,b,h=>by cases b<;>simp[AV.same]at h;rw[yf h]
 | .cN,b,h=>by cases b<;>simp[AV.same]at h;rfl
 | .ptr a c,b,h=>by cases b<;>simp[AV.same]at h;rw[h.1,h.2]
 | .bh,b,h=>by cases b<;>simp[AV.same]at h;rfl
 | .dq,b,h=>by cases b<;>simp[AV.same]at h;rfl
 | .slice a o l (.exact c),b,h=>by
  cases b with
  |slice a' o' l' c'=>cases c'<;>simp[AV.same]at h;rw[h.1.1.1,h.1.1.2,h.1.2,h.2]
  |_=>simp[AV.same]at h
 | .slice a o l (.iK c),b,h=>by
  cases b with
  |slice a' o' l' c'=>cases c'<;>simp[AV.same]at h;rw[h.1.1.1,h.1.1.2,h.1.2,h.2]
  |_=>simp[AV.same]at h
 | .dB,b,h=>by cases b<;>simp[AV.same]at h;rfl
 | .map a,b,h=>by cases b<;>simp[AV.same]at h;rw[h]
 | .func f x y,b,h=>by
  cases b with
  |func g x' y'=>
   simp only[AV.same,an]at h;rw[au h.1.1,AV.lL h.1.2,AV.lL h.2]
  |_=>simp[AV.same]at h
 | .yield a,b,h=>by cases b<;>simp[AV.same]at h;rw[h]
 | .nilFunc,b,h=>by cases b<;>simp[AV.same]at h;rfl
 | .iface t x,b,h=>by
  cases b with
  |iface u y=>
   simp only[AV.same,an]at h;rw[au h.1,AV.j_ h.2]
  |_=>simp[AV.same]at h
 | .nilIface,b,h=>by cases b<;>simp[AV.same]at h;rfl
 | .agg x,b,h=>by
  cases b with
  |agg y=>simp only[AV.same]at h;rw[AV.lL h]
  |_=>simp[AV.same]at h
 | .tuple x,b,h=>by
  cases b with
  |tuple y=>simp only[AV.same]at h;rw[AV.lL h]
  |_=>simp[AV.same]at h
theorem AV.lL:∀{a b:List AV},AV.kH a b=true→a=b
 |[],[],_=>rfl
 |[],_::_,h=>by simp[AV.kH]at h
 |_::_,[],h=>by simp[AV.kH]at h
 |x::a,y::b,h=>by
  simp only[AV.kH,an]at h;rw[AV.j_ h.1,AV.lL h.2]
end
theorem Av:∀{a b:List AV},si a b=true→a=b
 |[],[],_=>rfl
 |[],_::_,h=>by simp[si]at h
 |_::_,[],h=>by simp[si]at h
 |x::l,y::m,h=>by
  simp only[si,an]at h;rw[AV.j_ h.1,Av h.2]
theorem T.j_:∀{a b:T AV},T.same a b=true→a=b
 | .row xs,.row ys,h=>by simp only[T.same]at h;rw[Av h]
 | .e,.e,_=>rfl
 | .e,.n ..,h=>by simp[T.same]at h
 | .n ..,.e,h=>by simp[T.same]at h
 | .n l v r,.n l' v' r',h=>by
  cases v<;>cases v'<;>simp only[T.same,an,aL]at h
  ·rw[T.j_ h.1,T.j_ h.2]
  ·rw[AV.j_ h.1,T.j_ h.2.1,T.j_ h.2.2]
section
variable{P:Program}{N:NN}{φ:cX}{w0 w:World}{d:qi}{i:Nat}{o:Oper}{rest:List Nat}{idx:List Nat}
theorem PN{h h':H}{x:Option AV}{v:AV}(e:eM h x= .val v h'):h'=h:=by
 cases x with
 |none=>cases e
 |some y=>cases e;rfl
theorem NI{b:Builtin}(hb:b= .len∨b= .cap∨b= .min∨b= .max){ts:List TypeId}{args:List AV}{h h':H}{v:AV}(e:bQ P b ts args h= .val v h'):h'=h:=by
 unfold bQ at e;rcases hb with rfl|rfl|rfl|rfl<;>split at e<;>first
  |contradiction
  |(cases e;rfl)
  |(cases e;done)
  |(split at e<;>first|(cases e;rfl)|(cases e;done))
theorem PO{op:BinOp}{t:TypeId}{h h':H}{v:AV}(e:lW P op t h= .val v h'):h'=h:=by
 unfold lW at e;repeat' (first|(cases e;rfl)|(cases e;done)|split at e)
theorem Hg{op:Op}(hr:cO op=true){tm:T AV}{h h':H}{v:AV}(e:bF P tm h op= .val v h'):h'=h:=by
  cases op with
  | call c=>
    obtain⟨callee,args,ts⟩:=c;cases callee with
    | builtin b=>
      have hb:b= .len∨b= .cap∨b= .min∨b= .max:=by cases b<;>simp[cO]at hr<;>simp
      simp only[bF]at e;split at e
      ·cases e
      ·exact NI hb e
    |_=>simp[cO]at hr
  | makeFunc fn a b=>
    cases fn with
    | func f=>
      simp only[bF]at e;split at e
      ·cases e;rfl
      ·cases e
    |_=>simp only[bF]at e;cases e
  | _=>
    first
    |(simp[cO]at hr;done)
    | (simp only[bF]at e
       first
       |exact PN e
       | (repeat' split at e
          all_goals first|exact PN e|exact PO e|(cases e;done)|(cases e;rfl)))
def NN.less(N:NN)(b:Nat):NN:={n:=N.n,res:=fun x=>if x=b then none else N.res x}
theorem OR.less{L:Loc}{b:Nat}:∀{ob:iI},OR φ N L w ob→OR φ (N.less b) L w ob
 | .cells ..,x=>x
 | .map ..,x=>x
 | .xO ..,x=>x
 | .jW ..,x=>x
 | .mapIter ..,x=>x
 | .loop _,x=>x
 | .deferred _,x=>x
theorem HR.fill{h:H}{w':World}(hr:HR N φ h w){b:Nat}(hb:N.res b≠none){ob:iI}(hg:h.t.get b=some ob){O:Obj}(hw:w'.heap=w.heap.push O){base K:Nat}
  (ho:OR (φ.ins b ⟨w.heap.size,base,K⟩) (N.less b) ⟨w.heap.size,base,K⟩ w' ob):HR (N.less b) (φ.ins b ⟨w.heap.size,base,K⟩) h w'∧φ.le (φ.ins b ⟨w.heap.size,base,K⟩):=by
 obtain⟨wD,sP⟩:=hr.res b hb;have hle:φ.le (φ.ins b ⟨w.heap.size,base,K⟩):=cX.qK _ wD;refine⟨⟨fun x ox hx hn=>?_,fun x ox y oy L1 L2 hx hy h1 h2 e=>?_,fun x hx=>?_,fun x hx=>?_,fun g hg=>hle _ _ (hr.CD g hg)⟩,hle⟩
 ·by_cases q:x=b
  ·subst q;rw[hg]at hx;cases hx;exact⟨_,cX.cS _ _ _,ho⟩
  ·have VE:N.res x=none:=by simpa[NN.less,q]using hn
   obtain⟨L,g1,g2⟩:=hr.obj x ox hx VE;have fW:=g2.lt;refine⟨L,hle _ _ g1,(g2.less.le hle).congr ?_⟩;rw[hw,Array.getElem?_push,if_neg (by omega)]
 ·by_cases q:x=b<;>by_cases r:y=b
  ·rw[q,r]
  ·subst q;rw[cX.cS]at h1;cases h1;rw[cX.fO _ _ r]at h2
   have:=(hr.get hy h2).lt;simp only at e;omega
  ·subst r;rw[cX.cS]at h2;cases h2;rw[cX.fO _ _ q]at h1
   have:=(hr.get hx h1).lt;simp only at e;omega
  ·rw[cX.fO _ _ q]at h1;rw[cX.fO _ _ r]at h2
   exact hr.inj x ox y oy L1 L2 hx hy h1 h2 e
 ·rw[cX.fO _ _ (by omega)];exact hr.lt x hx
 ·have q:x≠b:=by
   intro e;subst e;simp[NN.less]at hx
  have Nv:N.res x≠none:=by simpa[NN.less,q]using hx
  rw[cX.fO _ _ q];exact hr.res x Nv
theorem Aw{t:TypeId}{l:List AV}{ob:Option iI}(h:h_ t l ob=true):ob=some (.cells (kQ l) (T.ofRow l) ⟨0,t+1⟩ false):=by
 unfold h_ at h;split at h
 ·simp only[an]at h
  rw[au h.1,T.j_ h.2.1,au h.2.2]
 ·cases h
theorem NJ{nt:Nat}{tm:T AV}{t:Tmp}{v:AV}(h:lY nt tm (some t) v=true):tm.get t=some v∧t<nt:=by
 simp only[lY]at h;split at h
 ·cases h
 ·rename_i hb
  split at h
  ·rename_i u hu
   exact⟨by rw[hu,AV.j_ h],aC hb⟩
  ·cases h
theorem TX.put{nt:Nat}{tm:T AV}{tmps:Array Value}(tx:TX φ d.ops (i::rest) nt tm tmps)(hi:d.ops[i]? =some o){v:AV}{cv:Value}(hs:lY nt tm o.dst v=true)(hv:VR φ v cv):
  TX φ d.ops rest nt tm (match o.dst with|some t=>tmps.setIfInBounds t cv|none=>tmps):=by
 obtain⟨h1,h2⟩:=tx;cases hd:o.dst with
 |none=>
  refine⟨h1,fun t ht=>h2 t fun j hj hE=>?_⟩;simp only[al]at hj;rcases hj with rfl|hj
  ·rw[lM hi,hd];simp
  ·exact ht j hj hE
 | some t0=>
  rw[hd]at hs;obtain⟨g1,g2⟩:=NJ hs;refine⟨by simp[h1],fun t ht=>?_⟩;simp only;rw[ak,aw];by_cases e:t0=t
  ·subst e
   rw[if_pos rfl,if_pos (by rw[h1];exact g2),g1];exact hv
  ·rw[if_neg e,←ak]
   refine h2 t fun j hj hE=>?_;simp only[al]at hj;rcases hj with rfl|hj
   ·rw[lM hi,hd];simpa using e
   ·exact ht j hj hE
def Keeps(N N':NN)(k i:Nat):Prop:=N'.n=N.n∧∀b j q,¬(j=k∧q=i)→N.res b=some (j,q)→N'.res b=some (j,q)
theorem Ka{h:H}(_hr:HR N φ h w){nt:Nat}{tm:T AV}{tmps:Array Value}(tr:TR φ nt tm tmps)(CQ:cG o=true){t:TypeId}{l:List AV}(hf:nW P tm o.op=some (t,l)):
  ∃cl:List Value,(execOp (ev tmps) o).run P w= .ok (.value (.pointer (some ⟨w.heap.size,0,none⟩))) {w with heap:=w.heap.push (.cells cl.toArray t)}∧bH (VR φ) l cl∧(∀a,a∈l→a.one=true):=by
 obtain⟨dst,op,ty,pos,after,guard⟩:=o;cases op with
 | alloc t=>
  simp only[nW]at hf;split at hf
  ·rename_i z hz
   cases hf;obtain⟨cz,h1,h2,h3,_⟩:=fQ (w:=w) (φ:=φ) hz;refine⟨cz.cells.toList,?_,h2.cells,h3⟩;simp only[execOp,Instr.alloc,newVar,newRow,Sem.run_bind,run_newObj,Result.andThen_ok,Sem.run_pure,aR,h1]
  ·cases hf
 | box t x=>
  simp only[nW]at hf;split at hf
  ·rename_i v hv
   split at hf
   ·rename_i ho
    cases hf;have:=bR tr hv;refine⟨(ev tmps x).cells.toList,?_,this.cells,jH ho⟩;simp only[execOp,Instr.box,newVar,newRow,Sem.run_bind,run_newObj,Result.andThen_ok,Sem.run_pure,aR]
   ·cases hf
  ·cases hf
 |_=>simp only[nW]at hf;cases hf
section
variable{fn:FuncId}{tmps:Array Value}{ck:List Item}{ds:List Deferred}{kd:CallKind}{ro:Option Nat}{cs:List Frame}
theorem FB(h:cO o.op=true):∀c,o.op≠.defer c:=by
 intro c e;rw[e]at h;cases h
theorem CR(h:cG o=true):∀c,o.op≠.defer c:=by
 intro c e;unfold cG at h;rw[e]at h;cases hg:o.guard<;>rw[hg]at h<;>cases h
theorem CT(h:cG o=true):o.guard=none:=by
 unfold cG at h;cases hg:o.guard with
 |none=>rfl
 |some g=>rw[hg]at h;cases ho:o.op<;>rw[ho]at h<;>cases h
theorem FD{s d:TypeId}{x:Operand}{tm:T AV}{h h':H}{v:AV}(e:bF P tm h (.convert s d x)= .val v h')(hv:(∃k n,v= .int k n)∨(∃s,v= .str s)∨v=jd):h'=h:=by
 simp only[bF]at e;split at e
 ·split at e
  ·unfold iz at e
   repeat' (first|(cases e;rfl)|(cases e;done)|split at e)
  ·unfold fA at e
   repeat' (first|(cases e;rfl)|(cases e;done)|split at e)
  ·unfold gF at e
   split at e
   ·simp only[cT]at e;cases e;rfl
   ·cases e;rfl
   ·split at e
    ·cases e
     rcases hv with⟨k,n,hv⟩|⟨s,hv⟩|hv<;>cases hv
    ·cases e
   ·repeat' (first|(cases e;rfl)|(cases e;done)|split at e)
   ·repeat' (first|(cases e;rfl)|(cases e;done)|split at e)
   ·repeat' (first|(cases e;rfl)|(cases e;done)|split at e)
   ·cases e
 ·cases e
theorem uX{tm:T AV}{h:H}{ops:Array Oper}{v:AV}(hv:eR P tm h ops o=some v):
  (∃h',qH P tm h ops o= .val v h')∧(∀c,o.op≠.defer c)∧CB o=true∧∀tm' h'',bF P tm' h o.op= .val v h''→h''=h:=by
 unfold eR at hv;split at hv
 ·rename_i hr
  split at hv
  ·rename_i v' h' hex
   cases hv;exact⟨⟨h',hex⟩,FB hr,by unfold CB;rw[hr];rfl,fun tm' h'' e=>Hg hr e⟩
  ·cases hv
 ·split at hv
  ·rename_i hc
   have Ao:∃a b x,o.op= .convert a b x:=by
    unfold eV at hc;split at hc
    ·rename_i a b x e;exact⟨a,b,x,e⟩
    ·cases hc
   have hs:CB o=true:=by unfold CB;rw[hc];simp
   obtain⟨a,b,x,Ao⟩:=Ao;split at hv
   ·rename_i v' h' hex
    split at hv
    ·cases hv
     refine⟨⟨h',hex⟩,(by rw[Ao];simp),hs,fun tm' h'' e=>?_⟩;rw[Ao]at e;exact FD e (.inl ⟨_,_,rfl⟩)
    ·cases hv
     refine⟨⟨h',hex⟩,(by rw[Ao];simp),hs,fun tm' h'' e=>?_⟩;rw[Ao]at e;exact FD e (.inr (.inl ⟨_,rfl⟩))
    ·cases hv
     refine⟨⟨h',hex⟩,(by rw[Ao];simp),hs,fun tm' h'' e=>?_⟩;rw[Ao]at e;exact FD e (.inr (.inr rfl))
    ·cases hv
   ·cases hv
  ·cases hv
theorem Kb{nt:Nat}{tm:T AV}{tmps:Array Value}(tr:TR φ nt tm tmps){t:TypeId}{l:List AV}{n:Nat}(hf:gH P tm o.op=some (t,l,n)):
  ∃cl:List Value,(execOp (ev tmps) o).run P w= .ok (.value (.slice (some ⟨w.heap.size,0,none⟩) n n)) {w with heap:=w.heap.push (.cells cl.toArray t)}∧bH (VR φ) l cl∧(∀a,a∈l→a.one=true):=by
 obtain⟨dst,op,ty,pos,after,guard⟩:=o;cases op with
 | buildSlice t' len parts=>
  simp only[gH]at hf;split at hf
  ·rename_i ps hps
   have JR:=su tr hps;obtain⟨cl,h1,h2⟩:=Ps (P:=P) (w:=w) (φ:=φ) (cparts:=(parts.map fun p=>(p.1,ev tmps p.2))) hf (by rw[Array.toList_map];exact JR);refine⟨cl,?_,h2,Pr hf⟩;simp only[execOp,Sem.run_bind,h1,Result.andThen_ok,Sem.run_pure]
  ·cases hf
 | makeSlice t' a b=>
  simp only[gH]at hf;split at hf
  ·rename_i x y hx hy
   obtain⟨cl,h1,h2,h3⟩:=Pt (P:=P) (w:=w) (φ:=φ) hf (bR tr hx) (bR tr hy);refine⟨cl,?_,h2,h3⟩;simp only[execOp,Sem.run_bind,h1,Result.andThen_ok,Sem.run_pure]
  ·cases hf
 |_=>simp only[gH]at hf;cases hf
theorem LD(h:sN o=true):(∃t n ps,o.op= .buildSlice t n ps)∨∃t a b,o.op= .makeSlice t a b:=by
 unfold sN at h;split at h
 ·rename_i t n ps e;exact .inl ⟨t,n,ps,e⟩
 ·rename_i t a b e;exact .inr ⟨t,a,b,e⟩
 ·cases h
theorem tP(h:sN o=true):(∀cs b,o.op≠.select cs b)∧(∀c,o.op≠.defer c)∧cO o.op=false∧eV o.op=false:=by
 rcases LD h with⟨t,n,ps,e⟩|⟨t,a,b,e⟩<;>rw[e]<;>refine⟨by simp,by simp,rfl,rfl⟩
theorem Tv{k b nt:Nat}{tm:T AV}{h:H}(hw:DW d (i::rest))(hi:d.ops[i]? =some o)(tx:TX φ d.ops (i::rest) nt tm tmps)(hr:HR N φ h w)(hN:N≤w.heap.size)
  (eH:qI P nt tm h d.ops o b=true)(qq:GA o=true→N.res b=some (k,i)):
  ∃N' gA mj w',Keeps N N' k i∧φ.le gA∧Steps P (lone ⟨fn,tmps,.inRegion d.ops (i::rest)::ck,ds,.run,kd,ro⟩ cs w) (lone ⟨fn,mj,.inRegion d.ops rest::ck,ds,.run,kd,ro⟩ cs w')∧
   TX gA d.ops rest nt tm mj∧HR N' gA h w'∧Below N w w'∧N'.n≤w'.heap.size:=by
 have zU:=hw.free hi;unfold qI at eH;split at eH
 ·rename_i CQ
  split at eH
  ·rename_i hnf
   split at eH
   ·cases eH
   ·rename_i v hv
    obtain⟨⟨h',hex⟩,hdf,_,uF⟩:=uX hv;obtain⟨e1,e2⟩:=wV (P:=P) hr hN tx zU;unfold qH at hex;split at hex
    ·rename_i Xl
     rw[hex]at e2;have hh:=uF _ _ hex;subst hh;obtain⟨gA,cv,w',g1,g2,g3,g4,g5⟩:=e2;have jV:=nJ (P:=P) (fn:=fn) (k:=ck) (ds:=ds) (kd:=kd) (ro:=ro) (cs:=cs) (rest:=rest) hi (by rw[←e1];exact Xl) (.inr hdf) g1;refine⟨N,gA,_,w',⟨rfl,fun _ _ _ _ x=>x⟩,g3,jV,?_,g4,g5,aK hN g5.size⟩;simp only[hi,ao];exact(tx.le g3).put hi eH g2
    ·rename_i Xl
     cases hex;have jV:=An (P:=P) (fn:=fn) (tmps:=tmps) (k:=ck) (ds:=ds) (kd:=kd) (ro:=ro) (cs:=cs) (w:=w) (ops:=d.ops) (i:=i) (rest:=rest) (by rw[hi];simp only[aE,aq];rw[←e1];exact Xl);refine⟨N,φ,_,w,⟨rfl,fun _ _ _ _ x=>x⟩,φ.le_refl,jV,?_,hr,Below.refl _ _,hN⟩;simp only[hi,ao];exact tx.put hi eH mQ
  ·rename_i LF
   have qq:=qq (by unfold GA;rw[LF,Bool.or_true]);obtain⟨hop1,hop2,-,-⟩:=tP LF;split at eH
   ·cases eH
   ·rename_i Xl
    split at eH
    ·cases eH
    ·rename_i t l n hl
     split at eH
     ·cases eH
     ·rename_i Ph
      have hg:=Aw Ph;obtain⟨ti,tr,hs⟩:=Au tx zU;obtain⟨e1,-⟩:=wV (P:=P) (o:=o) hr hN tx zU;obtain⟨cl,nB,GY,j7⟩:=Kb (P:=P) (w:=w) tr hl;have Kd:execOp (ev tmps) o=execOp (ev ti) o:=by
       refine execOp_congr (ρ:=ev tmps) (ρ':=ev ti) o hop1 (fun x hx=>?_)
       ·cases x with
        |tmp t=>exact(hs t (iR (iQ (by simpa using hx)))).symm
        |_=>rfl
      have jV:=nJ (P:=P) (fn:=fn) (tmps:=tmps) (k:=ck) (ds:=ds) (kd:=kd) (ro:=ro) (cs:=cs) (rest:=rest) hi (by rw[←e1];exact Xl) (.inr hop2) (by rw[Kd];exact nB);have Ax:=hr.fill (w':={w with heap:=w.heap.push (.cells cl.toArray t)}) (b:=b) (by rw[qq];simp) hg (O:=.cells cl.toArray t) rfl (base:=0) (K:=0) (by
       have hle:φ.le (φ.ins b ⟨w.heap.size,0,0⟩):=cX.qK _ (hr.res b (by rw[qq];simp)).1;refine⟨cl.toArray,t,(0,0),by simp,by simp[GY.length],fun j v hj=>?_,fun _=>⟨hN,by simp⟩,⟨fun e=>absurd rfl e,fun _=>rfl,fun _=>rfl,fun _ _=>rfl⟩⟩;rw[T.eG]at hj;obtain⟨cv,zV,hR⟩:=GY.get hj;exact⟨by rw[dY];exact(List.getElem?_eq_some_iff.1 hj).1,j7 v (aS hj),cv,by simpa using zV,hR.le hle⟩)
      refine⟨N.less b,_,_,_,⟨rfl,fun x j q dH hx=>?_⟩,Ax.2,jV,?_,Ax.1,fc _ hN,?_⟩
      ·have :x≠b:=by
        intro e;subst e;rw[qq]at hx;cases hx;exact dH ⟨rfl,rfl⟩
       simp[NN.less,this,hx]
      ·simp only[hi,ao]
       exact(tx.le Ax.2).put hi eH (by rw[dT];exact⟨_,cX.cS _ _ _,by simp⟩)
      ·simp only[Array.size_push];have :(N.less b).n=N.n:=rfl;omega
 ·rename_i CQ
  have qq:=qq (by unfold GA;rw[CQ];rfl);split at eH
  ·cases eH
  ·rename_i t l hl
   split at eH
   ·cases eH
   ·rename_i Ph
    have hg:=Aw Ph;obtain⟨ti,tr,hs⟩:=Au tx zU;obtain⟨cl,nB,GY,j7⟩:=Ka (P:=P) (w:=w) hr tr CQ hl;have Kd:execOp (ev tmps) o=execOp (ev ti) o:=by
     refine execOp_congr (ρ:=ev tmps) (ρ':=ev ti) o (fun cs b e=>?_) (fun x hx=>?_)
     ·unfold cG at CQ;rw[e]at CQ;cases hgd:o.guard<;>rw[hgd]at CQ<;>cases CQ
     ·cases x with
      |tmp t=>exact(hs t (iR (iQ (by simpa using hx)))).symm
      |_=>rfl
    have jV:=nJ (P:=P) (fn:=fn) (tmps:=tmps) (k:=ck) (ds:=ds) (kd:=kd) (ro:=ro) (cs:=cs) (rest:=rest) hi (by unfold Region.wanted;rw[CT CQ]) (.inr (CR CQ)) (by rw[Kd];exact nB);have Ax:=hr.fill (w':={w with heap:=w.heap.push (.cells cl.toArray t)}) (b:=b) (by rw[qq];simp) hg (O:=.cells cl.toArray t) rfl (base:=0) (K:=0) (by
     have hle:φ.le (φ.ins b ⟨w.heap.size,0,0⟩):=cX.qK _ (hr.res b (by rw[qq];simp)).1;refine⟨cl.toArray,t,(0,0),by simp,by simp[GY.length],fun j v hj=>?_,fun _=>⟨hN,by simp⟩,⟨fun e=>absurd rfl e,fun _=>rfl,fun _=>rfl,fun _ _=>rfl⟩⟩;rw[T.eG]at hj;obtain⟨cv,zV,hR⟩:=GY.get hj;exact⟨by rw[dY];exact(List.getElem?_eq_some_iff.1 hj).1,j7 v (aS hj),cv,by simpa using zV,hR.le hle⟩)
    refine⟨N.less b,_,_,_,⟨rfl,fun x j q dH hx=>?_⟩,Ax.2,jV,?_,Ax.1,fc _ hN,?_⟩
    ·have :x≠b:=by
      intro e;subst e;rw[qq]at hx;cases hx;exact dH ⟨rfl,rfl⟩
     simp[NN.less,this,hx]
    ·simp only[hi,ao]
     exact(tx.le Ax.2).put hi eH (dS.2 ⟨_,cX.cS _ _ _,by simp⟩)
    ·simp only[Array.size_push];have :(N.less b).n=N.n:=rfl;omega
end
end
end Go.AX
namespace Go.AX
open Go.RowKit
section
variable{P:Program}{K:lI}{N:NN}{φ:cX}{w0 w:World}{bot:List Frame}{s s':S}{fr:Frame}{cs:List Frame}
theorem TR.set{nt:Nat}{tm:T AV}{tmps:Array Value}(tr:TR φ nt tm tmps){d:Nat}(hd:d<nt){v:AV}{cv:Value}(hv:VR φ v cv):TR φ nt (tm.set d (some v)) (tmps.setIfInBounds d cv):=by
 refine⟨by simp[tr.1],fun i=>?_⟩;rw[T.bS];by_cases e:i=d
 ·subst e
  rw[if_pos rfl,aq,ak,aw,if_pos rfl,if_pos (by rw[tr.1];exact hd)];exact hv
 ·rw[if_neg e,ak,aw,if_neg (fun x=>e x.symm),←ak]
  exact tr.2 i
theorem PQ{a:bY}{fr:Frame}(tr:TR φ a.nt a.tm fr.tmps){d:Option Tmp}{v:AV}{cv:Value}(hv:VR φ v cv):
  TR φ a.nt (a.qn d v) (match d with|some d=>fr.tmps.setIfInBounds d cv|none=>fr.tmps):=by
 unfold bY.qn;cases d with
 |none=>exact tr
 | some d=>
  simp only;split
  ·rename_i h
   exact tr.set (by have:=aC h;omega) hv
  ·rename_i h
   have J4:¬d<a.nt:=fun x=>by rw[show Nat.blt d a.nt=true from Nat.ble_eq_true_of_le x]at h;cases h
   have :fr.tmps.setIfInBounds d cv=fr.tmps:=by
    rw[Array.setIfInBounds];rw[dif_neg (by rw[tr.1];exact J4)]
   rw[this];exact tr
theorem sx{ops:Array Oper}{idx:List Nat}{o:Oper}{l:List Oper}(h:idx.map (fun j=>ops[j]?)=(o::l).map some):
  ∃i rest,idx=i::rest∧ops[i]? =some o∧rest.map (fun j=>ops[j]?)=l.map some:=by
 cases idx with
 |nil=>simp at h
 |cons i rest=>
  simp only[List.map_cons,List.cons.injEq]at h;exact⟨i,rest,rfl,h.1,h.2⟩
theorem qV{c c':bY}{cc:Frame}(hc:FR φ c cc){v:AV}{cv:Value}(hv:VR φ v cv)(h:c.sg v=some c'):FR φ c' (cc.finish cv):=by
 obtain⟨fn,nt,tm,todo,defers,mode,kind,ro,dr⟩:=c;obtain⟨mJ,dC,e9,nL,fg,dM,nM⟩:=cc;obtain⟨h1,h2,h3,h4,h5,h6,h7⟩:=hc;unfold bY.sg at h;split at h
 ·rename_i ops o l k he
  simp only at he;subst he;obtain⟨ci,ck,rfl,hi,hk⟩:=bH.bM.1 h3;obtain⟨idx,rfl,FE⟩:=hi;obtain⟨i,rest,rfl,ho,LG⟩:=sx FE;simp only[Option.some.injEq]at h;subst h;have Fo:=PQ (a:=⟨fn,nt,tm,.ops ops (o::l)::k,defers,mode,kind,ro,dr⟩) (fr:=⟨mJ,dC,.inRegion ops (i::rest)::ck,nL,fg,dM,nM⟩) h2 (d:=o.dst) hv;simp only[Frame.finish,ho,ao];exact⟨h1,Fo,⟨⟨rest,rfl,LG⟩,hk⟩,h4,h5,h6,h7⟩
 ·rename_i l k he
  simp only at he;subst he;obtain⟨ci,ck,rfl,⟨L,hL,rfl⟩,hk⟩:=bH.bM.1 h3;simp only[Option.some.injEq]at h;subst h;exact⟨h1,h2,⟨⟨L,hL,rfl⟩,hk⟩,h4,h5,h6,h7⟩
 ·rename_i k he
  simp only at he;subst he;obtain⟨ci,ck,rfl,hi,hk⟩:=bH.bM.1 h3;simp only[IR]at hi;subst hi;simp only[Option.some.injEq]at h;subst h;exact⟨h1,h2,hk,h4,h5,h6,h7⟩
 ·cases h
theorem Ay{c c':bY}{v:AV}(h:c.sg v=some c'):c'.dr=c.dr:=by
 unfold bY.sg at h;split at h<;>first|(cases h;rfl)|cases h
theorem TX.done{ops:Array Oper}{i:Nat}{o:Oper}{post:List Nat}{a:bY}{tmps:Array Value}(tx:TX φ ops (i::post) a.nt a.tm tmps)(hi:ops[i]? =some o)(hd:mi a.nt o.dst=true){v:AV}{cv:Value}(hv:VR φ v cv):
  TX φ ops post a.nt (a.qn o.dst v) (match o.dst with|some t=>tmps.setIfInBounds t cv|none=>tmps):=by
 obtain⟨h1,h2⟩:=tx;unfold bY.qn;cases tQ:o.dst with
 |none=>
  refine⟨h1,fun t ht=>h2 t fun j hj hE=>?_⟩;simp only[al]at hj;rcases hj with rfl|hj
  ·rw[lM hi,tQ];simp
  ·exact ht j hj hE
 | some t0=>
  rw[tQ]at hd;have fW:t0<a.nt:=aC hd;have PS:Nat.blt t0 a.nt=true:=hd;simp only[PS];refine⟨by simp[h1],fun t ht=>?_⟩;rw[T.bS,ak,aw];by_cases e:t0=t
  ·subst e
   rw[if_pos rfl,if_pos rfl,if_pos (by rw[h1];exact fW)];exact hv
  ·rw[if_neg e,if_neg (fun x=>e x.symm),←ak]
   refine h2 t fun j hj hE=>?_;simp only[al]at hj;rcases hj with rfl|hj
   ·rw[lM hi,tQ];simpa using e
   ·exact ht j hj hE
theorem ig{k:Nat}{c c':bY}{cc:Frame}(hc:F2 N k φ c cc){v:AV}{cv:Value}(hv:VR φ v cv)(h:c.finish v=some c'):F2 N k φ c' (cc.finish cv):=by
 cases hd:c.dr with
 |none=>
  unfold bY.finish at h;rw[hd]at h;simp only at h;exact .mk ((Ay h).trans hd) (qV (hc.un hd) hv h)
 | some d=>
  unfold bY.finish at h;rw[hd]at h;simp only at h;obtain⟨idx,ck,hx⟩:=hc.jd hd;obtain⟨g1,g2,g3,g4,g5,g6,g7,g8,g9,zu⟩:=hx;unfold bY.Fc at h;split at h
  ·rename_i i o rem hw hr
   split at h
   ·rename_i tQ
    cases h;obtain⟨post,rfl,ho,Ke⟩:=g5.back hw hr;obtain⟨mJ,dC,e9,nL,fg,dM,nM⟩:=cc;simp only at g2;subst g2;refine .Lq (d:={d with rem,wait:=false}) rfl (idx:=post) (ck:=ck) ⟨g1,rfl,?_,g4,Ke,fun p h1 h2 h3=>g6 p h1 (by simp[h2]) h3,g7,g8,g9,zu⟩;simp only[Frame.finish,ho,ao];exact g3.done ho tQ hv
   ·cases h
  ·cases h
theorem Kf{c:bY}{cc:Frame}(hc:FR φ c cc){l:List mL}{l':List PanicEntry}(hl:bH (PR φ) l l'):FR φ (c.O_ l) (cc.raise l'):=by
 obtain⟨fn,nt,tm,todo,defers,mode,kind,ro,dr⟩:=c;obtain⟨mJ,dC,e9,nL,fg,dM,nM⟩:=cc;obtain⟨h1,h2,h3,h4,h5,h6,h7⟩:=hc;cases mode with
 |run=>simp only[MR]at h5;subst h5;exact⟨h1,h2,h3,h4,⟨l',rfl,hl⟩,h6,h7⟩
 |returning=>simp only[MR]at h5;subst h5;exact⟨h1,h2,h3,h4,⟨l',rfl,hl⟩,h6,h7⟩
 |panicking ch=>obtain⟨ch',e,hch⟩:=h5;simp only at e;subst e;exact⟨h1,h2,h3,h4,⟨_,rfl,hl.append hch⟩,h6,h7⟩
theorem Az{c c':bY}{v:AV}(hd:c.dr=none)(h:c.finish v=some c'):c.sg v=some c':=by
 unfold bY.finish at h;rw[hd]at h;exact h
theorem AD{c c':bY}{v:AV}(hd:c.dr=none)(h:c.finish v=some c'):c'.dr=none:=
 (Ay (Az hd h)).trans hd
theorem F2.mode{k:Nat}{c:bY}{cc:Frame}(h:F2 N k φ c cc):MR φ c.mode cc.mode:=by
 cases hd:c.dr with
 |none=>exact(h.un hd).mode
 |some d=>obtain⟨idx,ck,x⟩:=h.jd hd;exact x.mode
theorem F2.AE{k:Nat}{c:bY}{cc:Frame}(h:F2 N k φ c cc){m:zK}{m':FrameMode}(hm:MR φ m m'):F2 N k φ {c with mode:=m} {cc with mode:=m'}:=by
 cases hd:c.dr with
 |none=>have x:=h.un hd;exact .mk rfl ⟨x.fn,x.tm,x.todo,x.defers,hm,x.kind,x.round⟩
 |some d=>obtain⟨idx,ck,x⟩:=h.jd hd;exact .Lq (d:=d) rfl ⟨x.fn,x.here,x.tm,x.todo,x.dw,x.lag,x.defers,hm,x.kind,x.round⟩
theorem wW{k:Nat}{c c':bY}{cc:Frame}(hc:F2 N k φ c cc){l:List mL}{l':List PanicEntry}(hl:bH (PR φ) l l')(h:c.raise l=some c'):F2 N k φ c' (cc.raise l'):=by
 unfold bY.raise at h;split at h
 ·rename_i hd
  cases h;exact .mk hd (Kf (hc.un hd) hl)
 ·rename_i hd hm
  cases h;have h5:=hc.mode;rw[hm]at h5;simp only[MR]at h5;have e:cc.raise l'={cc with mode:=.panicking l'}:=by
   obtain⟨mJ,dC,e9,nL,fg,dM,nM⟩:=cc;simp only at h5;subst h5;rfl
  rw[e];exact hc.AE ⟨l',rfl,hl⟩
 ·cases h
theorem F2.PT{k:Nat}{c:bY}{cc:Frame}(h:F2 N k φ c cc):cc.fn=c.fn∧bH (DR φ) c.defers cc.defers:=by
 cases hd:c.dr with
 |none=>exact⟨(h.un hd).fn,(h.un hd).defers⟩
 |some d=>obtain⟨idx,ck,x⟩:=h.jd hd;exact⟨x.fn,x.defers⟩
theorem AF{id:Nat}:∀{k:List iL}{ck:List Item},bH (IR φ) k ck→
  (∀k',j6 id k=some k'→∃Xm,exitTo id ck=some Xm∧bH (IR φ) k' Xm)∧(j6 id k=none→exitTo id ck=none)
 |[],ck,h=>by rw[bH.ct]at h;subst h;exact⟨fun _ h=>by simp[j6]at h,fun _=>rfl⟩
 | i::k,ck,h=>by
  obtain⟨ci,cr,rfl,hi,hk⟩:=bH.bM.1 h;obtain⟨Hh,Hi⟩:=AF (id:=id) hk;cases i with
  | inBlock id'=>
   simp only[IR]at hi;subst hi;simp only[j6,exitTo];cases hb:Nat.beq id' id
   ·have:=az hb
    have e:(id'==id)=false:=by simp[this]
    simp only[e,aL,if_false];exact⟨Hh,Hi⟩
   ·have:=au hb
    subst this;simp only[beq_self_eq_true,if_true];exact⟨fun k' h=>by simp only[Option.some.injEq]at h;subst h;exact⟨_,rfl,hk⟩,fun h=>by cases h⟩
  |code c=>simp only[IR]at hi;subst hi;exact⟨Hh,Hi⟩
  |inLoop c=>simp only[IR]at hi;subst hi;exact⟨Hh,Hi⟩
  |inScope c=>simp only[IR]at hi;subst hi;exact⟨Hh,Hi⟩
  |ops o l=>obtain⟨idx,rfl,_⟩:=hi;exact⟨Hh,Hi⟩
  |inRangeFunc l=>obtain⟨L,_,rfl⟩:=hi;exact⟨Hh,Hi⟩
  |endRangeFunc l=>obtain⟨L,_,rfl⟩:=hi;exact⟨Hh,Hi⟩
  |beginRound=>simp only[IR]at hi;subst hi;exact⟨Hh,Hi⟩
theorem AG{id:Nat}:∀{k:List iL}{ck:List Item},bH (IR φ) k ck→
  (∀k',pa id k=some k'→∃Xm,gotoIn id ck=some Xm∧bH (IR φ) k' Xm)∧(pa id k=none→gotoIn id ck=none)
 |[],ck,h=>by rw[bH.ct]at h;subst h;exact⟨fun _ h=>by simp[pa]at h,fun _=>rfl⟩
 | i::k,ck,h=>by
  obtain⟨ci,cr,rfl,hi,hk⟩:=bH.bM.1 h;obtain⟨Hh,Hi⟩:=AG (id:=id) hk;cases i with
  |inScope c=>
   simp only[IR]at hi;subst hi;simp only[pa,gotoIn];cases hb:findLabel c id with
   |none=>exact⟨Hh,Hi⟩
   |some rest=>exact⟨fun k' h=>by simp only[Option.some.injEq]at h;subst h;exact⟨_,rfl,rfl,rfl,hk⟩,fun h=>by cases h⟩
  |code c=>simp only[IR]at hi;subst hi;exact⟨Hh,Hi⟩
  |inLoop c=>simp only[IR]at hi;subst hi;exact⟨Hh,Hi⟩
  |inBlock c=>simp only[IR]at hi;subst hi;exact⟨Hh,Hi⟩
  |ops o l=>obtain⟨idx,rfl,_⟩:=hi;exact⟨Hh,Hi⟩
  |inRangeFunc l=>obtain⟨L,_,rfl⟩:=hi;exact⟨Hh,Hi⟩
  |endRangeFunc l=>obtain⟨L,_,rfl⟩:=hi;exact⟨Hh,Hi⟩
  |beginRound=>simp only[IR]at hi;subst hi;exact⟨Hh,Hi⟩
theorem yg{a:AV}{b:Bool}(h:VR φ a (.bool b)):a= .bool b:=by
 cases a with
 |slice b o len c=>obtain⟨a,c,e⟩:=cR h;cases e
 |bool b=>simp at h;rw[h]
 |_=>simp at h
theorem tR{a:bY}{fr:Frame}(tr:TR φ a.nt a.tm fr.tmps)(ops:Array Oper)(o:Oper):jA a ops o=Region.wanted o (yielded ops fr.tmps):=by
 unfold jA Region.wanted;cases hg:o.guard with
 |none=>rfl
 | some x=>
  obtain⟨j,want⟩:=x;simp only[yielded,aA];cases hj:ops[j]? with
  |none=>simp
  | some oj=>
   simp only[ao];cases hd:oj.dst with
   |none=>simp
   | some d=>
    simp only[ao];have hr:=tr.2 d;cases ht:a.tm.get d with
    | none=>
     rw[ht]at hr;simp only;cases hc:fr.tmps[d]? with
     |none=>simp
     |some c=>
      have e:fr.tmps.getD d undef=c:=by rw[ak,hc];rfl
      rw[e]at hr;cases c with
      |bool b=>have:=yg hr;simp[jd]at this
      |_=>simp
    | some v=>
     rw[ht,aq]at hr;cases hc:fr.tmps[d]? with
     |none=>
      have e:fr.tmps.getD d undef=undef:=by rw[ak,hc];rfl
      rw[e]at hr;cases v with
      |bool b=>simp[undef]at hr
      |_=>simp
     | some c=>
      have e:fr.tmps.getD d undef=c:=by rw[ak,hc];rfl
      rw[e]at hr;cases v with
      |bool b=>
       simp only[fa]at hr;subst hr;simp
      |_=>
       cases c with
       |bool b=>have:=yg hr;simp at this
       |_=>simp
theorem NK(ops:Array Oper):(aU ops.size).map (fun j=>ops[j]?)=ops.toList.map some:=by
 apply List.ext_getElem?;intro i;rw[List.getElem?_map,List.getElem?_map];by_cases h:i<ops.size
 ·simp[h]
 ·rw[aQ (by simp;omega),aQ (by simp;omega)];rfl
def CU(P:Program)(N:NN)(w0:World)(bot:List Frame)(φ:cX)(fr:Frame)(cs:List Frame)(w:World)(s':S):Prop:=
 ∃gA tO mS w',φ.le gA∧Steps P (lone fr (cs++bot) w) (lone tO (mS++bot) w')∧SR N w0 gA s' tO mS w'
theorem jJ{k:List iL}{ck:List Item}(hs:SR N w0 φ s fr cs w)(hd:s.fr.dr=none)(h:to s k=some s')
  (jV:Steps P (lone fr (cs++bot) w) (lone {fr with todo:=ck} (cs++bot) w))(hk:bH (IR φ) k ck):CU P N w0 bot φ fr cs w s':=by
 simp only[to,Option.some.injEq]at h;subst h;have hf:=hs.fr.un hd;exact⟨φ,{fr with todo:=ck},cs,w,φ.le_refl,jV,.mk hd ⟨hf.fn,hf.tm,hk,hf.defers,hf.mode,hf.kind,hf.round⟩,hs.cs,hs.h,hs.below,hs.size⟩
theorem qX{h:H}(hr:HR N φ h w){l:Nat}{r:fC}{L:Loc}(hb:h.t.get l=some (.loop r))(hL:φ l=some L):
  ∃tmps D,N≤L.B∧w.heap[L.B]? =some (.loop {state:=r.state,pending:=r.pending,fn:=r.fn,tmps,params:=r.params.toArray,assign:=r.assign,body:=r.body,defers:=D})∧
   TR φ r.nt r.tm tmps∧(∃M,φ r.defers=some M∧D=M.B)∧
   (Instr.getLoop L.B).run P w= .ok {state:=r.state,pending:=r.pending,fn:=r.fn,tmps,params:=r.params.toArray,assign:=r.assign,body:=r.body,defers:=D} w:=by
 obtain⟨hN,tmps,D,h1,h2,h3⟩:=hr.get hb hL;refine⟨tmps,D,hN,h1,h2,h3,?_⟩;simp only[Instr.getLoop,Sem.run_bind,cP h1 (fun _ _ _=>by simp),Result.andThen_ok,Sem.run_pure]
theorem AH{h:H}(hr:HR N φ h w){l:Nat}{r r':fC}{L:Loc}(hb:h.t.get l=some (.loop r))(hL:φ l=some L){tmps:Array Value}{D:Nat}
  (ht:TR φ r'.nt r'.tm tmps)(hd:∃M,φ r'.defers=some M∧D=M.B)(hN:N≤L.B):
  HR N φ {h with t:=h.t.set l (some (.loop r'))} (jg w L.B (.loop {state:=r'.state,pending:=r'.pending,fn:=r'.fn,tmps,params:=r'.params.toArray,assign:=r'.assign,body:=r'.body,defers:=D})):=by
 have fW:=(hr.get hb hL).lt;exact hr.set hb hL _ (fun k hk=>by rw[eY fW,if_neg hk]) ⟨hN,tmps,D,by rw[eY fW,if_pos rfl],ht,hd⟩
theorem FF{v:AV}{cv:Value}{h:H}{c:bY}{mS:List bY}(gI:s.cs=c::mS)(hk:s.fr.kind= .normal)(hd:sW s v h=some s')
  (hr:CS N φ s.cs cs)(hv:VR φ v cv)(hh:HR N φ h w)(hb:Below N w0 w)(hN:N≤w.heap.size):
  ∃cc zn,cs=cc::zn∧SR N w0 φ s' (cc.finish cv) zn w:=by
 unfold sW at hd;rw[gI]at hr hd;obtain⟨cc,zn,rfl,h1,h2⟩:=hr;simp only[hk]at hd;split at hd
 ·rename_i c' hf
  cases hd;exact⟨cc,zn,rfl,ig h1 hv hf,h2,hh,hb,hN⟩
 ·cases hd
theorem FG{l:Nat}{jump:Option Code}(hs:SR N w0 φ s fr cs w)(jS:s.fr.dr=none)(pW:s.fr.roundOf=some l)(hm:s.fr.mode= .run)(h:mM s jump=some s')
  (ht:fr.todo=[]∧jump=none∨(∃k,fr.todo= .code .ret::k)∧jump=some .ret∨(∃id k,fr.todo= .code (.exit id)::k∧exitTo id k=none∧jump=some (.exit id))∨∃id k,fr.todo= .code (.goto id)::k∧gotoIn id k=none∧jump=some (.goto id)):
  CU P N w0 bot φ fr cs w s':=by
 obtain⟨hF,gI,hh,hb,hN⟩:=hs;obtain⟨f1,f2,f3,f4,f5,f6,f7⟩:=hF.un jS;unfold mM at h;rw[pW]at h;simp only at h;split at h
 ·rename_i r hk hl
  have h7:=f7;rw[pW]at h7;obtain⟨L,hL,Hj⟩:=h7;obtain⟨tmps,D,g0,g1,g2,g3,g4⟩:=qX (P:=P) hh hl hL;obtain⟨r',Ny⟩:∃r':fC,r'={r with state:=Gz jump,pending:=jump}:=⟨_,rfl⟩;rw[←Ny]at h;have NL:=AH (r':=r') hh hl hL (tmps:=tmps) (D:=D) (by rw[Ny];exact g2) (by rw[Ny];exact g3) g0;have nB:(Instr.endRound L.B jump).run P w= .ok (.bool jump.isNone) (jg w L.B (.loop {state:=r'.state,pending:=r'.pending,fn:=r'.fn,tmps,params:=r'.params.toArray,assign:=r'.assign,body:=r'.body,defers:=D})):=by
   simp only[Instr.endRound,Sem.run_bind,g4,Result.andThen_ok,ey g1 (fun _ _ _=>by simp),Sem.run_pure,Ny];cases jump<;>rfl
  cases hc:s.cs with
  |nil=>unfold sW at h;rw[hc]at h;cases h
  |cons c mS=>
   obtain⟨cc,zn,rfl,hsr⟩:=FF hc hk h gI (fa.2 rfl) NL (hb.trans (fF _ g0)) (by rw[kU];exact hN);refine⟨φ,_,zn,_,φ.le_refl,?_,hsr⟩;obtain⟨mJ,dC,e9,nL,fg,dM,nM⟩:=fr;simp only at f6 Hj ht;rw[hm]at f5;simp only[MR]at f5;rw[hk]at f6;subst f6;subst f5;subst Hj;exact J8 ht nB
 ·cases h
theorem sy{jump:Option Code}(hs:SR N w0 φ s fr cs w)(jS:s.fr.dr=none)(hm:s.fr.mode= .run)(h:mM s jump=some s')
  (ht:fr.todo=[]∧jump=none∨(∃k,fr.todo= .code .ret::k)∧jump=some .ret∨(∃id k,fr.todo= .code (.exit id)::k∧exitTo id k=none∧jump=some (.exit id))∨∃id k,fr.todo= .code (.goto id)::k∧gotoIn id k=none∧jump=some (.goto id)):
  CU P N w0 bot φ fr cs w s':=by
 cases pW:s.fr.roundOf with
 |some l=>exact FG hs jS pW hm h ht
 | none=>
  obtain⟨hF,gI,hh,hb,hN⟩:=hs;obtain⟨f1,f2,f3,f4,f5,f6,f7⟩:=hF.un jS;unfold mM at h;rw[pW]at h;simp only at h;rw[pW]at f7;simp only[Pf]at f7;rw[hm]at f5;simp only[MR]at f5;obtain⟨mJ,dC,e9,nL,fg,dM,nM⟩:=fr;simp only at f5 f7 ht;subst f5;subst f7;rcases ht with⟨rfl,rfl⟩|⟨⟨k,rfl⟩,rfl⟩|⟨id,k,rfl,hk,rfl⟩|⟨id,k,rfl,hk,rfl⟩
  ·cases h
   exact⟨φ,_,cs,w,φ.le_refl,m_end,⟨.mk jS ⟨f1,f2,f3,f4,rfl,f6,by rw[pW];rfl⟩,gI,hh,hb,hN⟩⟩
  ·cases h
   exact⟨φ,_,cs,w,φ.le_refl,m_ret,⟨.mk jS ⟨f1,f2,f3,f4,rfl,f6,by rw[pW];rfl⟩,gI,hh,hb,hN⟩⟩
  ·cases h
  ·cases h
theorem kZ{f:FuncId}{args:List AV}{cargs:Array Value}{kd:CallKind}{a:bY}(ha:bH (VR φ) args cargs.toList)(h:lX P f args kd=some a):
  FR φ a (Frame.enter P f cargs kd):=by
 unfold lX at h;split at h
 ·rename_i fn hf
  split at h
  ·rename_i c hc
   cases h;refine⟨rfl,⟨?_,fun i=>?_⟩,?_,trivial,rfl,rfl,rfl⟩
   ·have:=ha.length
    simp only[aJ]at this;simp only[Frame.enter,hf,aE,aq,Array.size_append,Array.size_replicate,this,Nat.max_def];split<;>omega
   ·simp only[Frame.enter,hf,aE,aq,T.sj]
    rw[ak];cases hi:args[i]? with
    |some v=>
     obtain⟨cv,zV,hR⟩:=ha.get hi;rw[aA]at zV;have fW:i<cargs.size:=(Array.getElem?_eq_some_iff.1 zV).1;rw[Array.getElem?_append_left fW,zV];exact hR
    | none=>
     have J4:cargs.size≤i:=by
      have:=List.getElem?_eq_none_iff.1 hi;have h2:=ha.length;simp only[aJ]at h2;omega
     rw[Array.getElem?_append_right J4,aM];split
     ·exact mQ
     ·exact mQ
   ·simp only[Frame.enter,hf,ao,hc,aq]
    exact⟨rfl,trivial⟩
  ·cases h
 ·cases h
theorem mZ{f:FuncId}{args:List AV}{kd:CallKind}{a:bY}(h:lX P f args kd=some a):a.dr=none:=by
 unfold lX at h;split at h
 ·split at h
  ·cases h;rfl
  ·cases h
 ·cases h
theorem tj{nt:Nat}:∀{ps:List Tmp}{args:List AV}{tm tm':T AV}{tmps:Array Value}{cargs:List Value},iA nt tm ps args=some tm'→TR φ nt tm tmps→bH (VR φ) args cargs→
  TR φ nt tm' ((ps.zip cargs).foldl (fun t(x:Tmp×Value)=>t.setIfInBounds x.1 x.2) tmps)∧ps.length=cargs.length
 |[],[],tm,tm',tmps,cargs,h,tr,ha=>by
  rw[bH.ct]at ha;subst ha;simp only[iA,Option.some.injEq]at h;subst h;exact⟨tr,rfl⟩
 | p::ps,a::args,tm,tm',tmps,cargs,h,tr,ha=>by
  obtain⟨c,cr,rfl,h1,h2⟩:=bH.bM.1 ha;simp only[iA]at h;split at h
  ·rename_i hb
   have fW:p<nt:=aC hb;obtain⟨g1,g2⟩:=tj h (tr.set fW h1) h2;exact⟨g1,by simp[g2]⟩
  ·cases h
 |[],_::_,_,_,_,_,h,_,_=>by cases h
 |_::_,[],_,_,_,_,h,_,_=>by cases h
theorem Hk{a:bY}{fr:Frame}(hk:fr.kind=a.kind){acs:List bY}{cs:List Frame}(gI:CS N φ acs cs){v:AV}{Ty:List bY}(h:zO a acs=some (v,Ty)):
  (∃cv mS,tryRecover fr (cs++bot)=some (cv,mS++bot)∧VR φ v cv∧CS N φ Ty mS)∨tryRecover fr (cs++bot)=none∧v= .nilIface∧Ty=acs:=by
 unfold zO at h;split at h
 ·rename_i hkn
  cases h;right;refine⟨?_,rfl,rfl⟩;rw[←hk]at hkn;unfold tryRecover;rw[hkn]
 ·rename_i c rest hkn
  rw[←hk]at hkn;obtain⟨cc,cr,rfl,h1,h2⟩:=gI;have f5:=h1.mode;split at h
  ·rename_i v' sX hm
   cases h;left;rw[hm]at f5;obtain⟨l',e,hl⟩:=f5;obtain⟨pe,lr,rfl,⟨p1,p2,p3⟩,Fl⟩:=bH.bM.1 hl;obtain⟨pv,pr,pg⟩:=pe;simp only at p1 p2 p3;subst p1;subst p2;have tM:=h1.AE (m:=.panicking ({v:=v,recovered:=true}::sX)) (m':=.panicking ({v:=pv,recovered:=true}::lr)) ⟨_,rfl,⟨rfl,rfl,p3⟩,Fl⟩;obtain⟨mJ,dC,e9,nL,fg,dM,nM⟩:=cc;simp only at e;subst e;refine⟨pv,⟨mJ,dC,e9,nL,.panicking ({v:=pv,recovered:=true}::lr),dM,nM⟩::cr,?_,p3,⟨_,_,rfl,tM,h2⟩⟩;unfold tryRecover;rw[hkn];rfl
  ·rename_i hm
   cases h;right;refine⟨?_,rfl,rfl⟩;unfold tryRecover;rw[hkn];simp only[List.cons_append];cases PU:c.mode with
   |run=>rw[PU]at f5;simp only[MR]at f5;rw[f5]
   |returning=>rw[PU]at f5;simp only[MR]at f5;rw[f5]
   | panicking ch=>
    rw[PU]at f5;obtain⟨l',e,hl⟩:=f5;rw[e];cases ch with
    |nil=>rw[bH.ct]at hl;subst hl;rfl
    |cons p sX=>
     obtain⟨pe,lr,rfl,⟨p1,p2,p3⟩,Fl⟩:=bH.bM.1 hl;obtain⟨pv,pr,pg⟩:=pe;obtain⟨av,ar⟩:=p;simp only at p1 p2;subst p1;subst p2;cases pr with
     |true=>rfl
     |false=>exact absurd PU (hm _ _)
 ·cases h
theorem DE{h:H}(hr:HR N φ h w){l:Nat}{r:fC}{L:Loc}(hb:h.t.get l=some (.loop r))(hL:φ l=some L){args:List AV}{cargs:Array Value}{tm:T AV}
  (ha:bH (VR φ) args cargs.toList)(hp:iA r.nt r.tm r.params args=some tm):
  ∃tmps,(Instr.yield L.B cargs).run P w= .ok (.round L.B r.fn tmps r.assign r.body) w∧TR φ r.nt tm tmps:=by
 obtain⟨tmps,D,g0,g1,g2,g3,g4⟩:=qX (P:=P) hr hb hL;obtain⟨p1,p2⟩:=tj hp g2 ha;refine⟨_,?_,p1⟩;have mH:¬(cargs.size≠r.params.toArray.size):=by
  simp only[List.size_toArray,p2,aJ,ne_eq,not_true_eq_false,not_false_eq_true]
 simp only[Instr.yield,Sem.run_bind,g4,Result.andThen_ok,mH,if_false,Sem.run_pure];congr 3;rw[←Array.foldl_toList,Array.toList_zip]
theorem NM(hK:eN P K){ops:Array Oper}{o:Oper}{l:List Oper}{k:List iL}(hs:SR N w0 φ s fr cs w)(jS:s.fr.dr=none)(hm:s.fr.mode= .run)(ht:s.fr.todo= .ops ops (o::l)::k)
  (hw:jA s.fr ops o=true)(h:gG P K s (bF P s.fr.tm s.h o.op)=some s'):CU P N w0 bot φ fr cs w s':=by
 obtain⟨hF,gI,hh,hb,hN⟩:=hs;have hf:=hF.un jS;have OW:=hf;obtain⟨f1,f2,f3,f4,f5,f6,f7⟩:=hf;rw[hm]at f5;simp only[MR]at f5;rw[ht]at f3;obtain⟨ci,ck,kE,⟨idx,Hl,FE⟩,hk⟩:=bH.bM.1 f3;subst Hl;obtain⟨i,rest,rfl,ho,LG⟩:=sx FE;rw[tR f2]at hw;have NO:=Dw (P:=P) hh hN f2 o;have nY:fr.roundOf=none∨∀c,o.op≠.defer c:=by
  cases pW:s.fr.roundOf with
  |none=>rw[pW]at f7;exact .inl f7
  | some x=>
   right;intro c hc;rw[hc]at h;unfold bF at h;obtain⟨callee,args,Kg⟩:=c;cases callee with
   | value f=>
    simp only at h;split at h
    ·split at h
     ·simp only[gG,pW]at h;cases h
     ·cases h
    ·cases h
   |builtin b=>cases h
   |invoke r m=>cases h
 obtain⟨mJ,dC,e9,nL,fg,dM,nM⟩:=fr;simp only at kE f5 nY hw NO;subst kE;subst f5;generalize qq:bF P s.fr.tm s.h o.op=r at h NO;cases r with
 | val v h'=>
  obtain⟨gA,cv,w',e,hv,hle,CV,mz⟩:=NO;simp only[gG]at h;split at h
  ·rename_i tO iu
   cases h;exact⟨gA,_,cs,w',hle,nJ ho hw nY e,⟨ig (hF.le hle) hv iu,gI.le hle,CV,hb.trans mz,aK hN mz.size⟩⟩
  ·cases h
 | skip h'=>
  obtain⟨gA,w',e,hle,CV,mz⟩:=NO;simp only[gG]at h;split at h
  ·rename_i tO iu
   cases h;exact⟨gA,_,cs,w',hle,Dx ho hw nY e,⟨ig (hF.le hle) mQ iu,gI.le hle,CV,hb.trans mz,aK hN mz.size⟩⟩
  ·cases h
 | enter f args h'=>
  obtain⟨cargs,e,ha,CV⟩:=NO;simp only[gG]at h;split at h
  ·rename_i v h2 Jv
   split at h
   ·rename_i tO iu
    cases h;obtain⟨cv,w',⟨gA,cv',q1,q2,q3,q4,q5⟩,jV⟩:=xR (hK.call _ _ _ _ _ Jv N φ w cargs CV hN ha) (fun e w' ⟨_,cv,he,_⟩=>⟨cv,he⟩) ⟨mJ,dC,.inRegion ops (i::rest)::ck,nL,.run,dM,nM⟩ (cs++bot);cases q1;exact⟨gA,_,cs,w',q2,Steps.trans (zr ho hw nY e) jV,⟨ig (hF.le q2) q3 iu,gI.le q2,q4,hb.trans q5,aK hN q5.size⟩⟩
   ·cases h
  split at h
  ·rename_i tO uu
   cases h;exact⟨φ,_,_::cs,w,φ.le_refl,zr ho hw nY e,⟨.mk (mZ uu) (kZ ha uu),⟨_,_,rfl,hF,gI⟩,CV,hb,hN⟩⟩
  ·cases h
 | ext f args h'=>
  obtain⟨cargs,e,ha,CV⟩:=NO;simp only[gG]at h;split at h
  ·rename_i v h2 Jv
   split at h
   ·rename_i tO iu
    cases h;obtain⟨gA,cv,w',q1,q2,q3,q4,q5⟩:=hK.ext _ _ _ _ _ Jv N φ w cargs CV hN ha;rw[q1]at e;exact⟨gA,_,cs,w',q2,nJ ho hw nY e,⟨ig (hF.le q2) q3 iu,gI.le q2,q4,hb.trans q5,aK hN q5.size⟩⟩
   ·cases h
  ·cases h
 | round lp args h'=>
  obtain⟨L,cargs,hL,e,ha,CV⟩:=NO;simp only[gG]at h;split at h
  ·rename_i rl hlp
   split at h
   ·rename_i tm' SW
    cases h;obtain⟨mj,hy,htr⟩:=DE (P:=P) CV hlp hL ha SW;rw[hy]at e;refine⟨φ,_,_::cs,w,φ.le_refl,LA ho hw nY e,⟨.mk rfl ⟨rfl,htr,⟨rfl,rfl,rfl,trivial⟩,trivial,rfl,rfl,⟨L,hL,rfl⟩⟩,⟨_,_,rfl,hF,gI⟩,CV,hb,hN⟩⟩
   ·cases h
  ·cases h
 | defer d h'=>
  obtain⟨cd,e,hd,CV⟩:=NO;simp only[gG]at h;split at h
  ·cases h
  ·rename_i pW
   rw[pW]at f7;simp only[Pf]at f7;subst f7;split at h
   ·rename_i tO iu
    cases h;have hf2:FR φ {s.fr with defers:=d::s.fr.defers} ⟨mJ,dC,.inRegion ops (i::rest)::ck,cd::nL,.run,dM,none⟩:=
     ⟨f1,f2,OW.todo,⟨hd,f4⟩,OW.mode,f6,by rw[pW];rfl⟩
    exact⟨φ,_,cs,w,φ.le_refl,Ts ho hw e,⟨ig (k:=s.cs.length) (c:={s.fr with defers:=d::s.fr.defers}) (.mk jS hf2) mQ iu,gI,CV,hb,hN⟩⟩
   ·cases h
 | recover h'=>
  obtain⟨e,CV⟩:=NO;simp only[gG]at h;split at h
  ·cases h
  ·rename_i pW
   rw[pW]at f7;simp only[Pf]at f7;subst f7;split at h
   ·rename_i v Ty hrec
    split at h
    ·rename_i tO iu
     cases h;have jV:=NG (P:=P) (cs:=cs++bot) (k:=ck) (ds:=nL) (kd:=dM) (fn:=mJ) (rest:=rest) ho hw e;rcases Hk (bot:=bot) (fr:=⟨mJ,dC,.inRegion ops (i::rest)::ck,nL,.run,dM,none⟩) f6 gI hrec with⟨cv,mS,q1,q2,q3⟩|⟨q1,q2,q3⟩
     ·rw[q1]at jV
      exact⟨φ,_,mS,w,φ.le_refl,jV,⟨.mk ((AD jS iu)) (qV OW q2 (Az jS iu)),q3,CV,hb,hN⟩⟩
     ·rw[q1]at jV
      subst q2;subst q3;exact⟨φ,_,cs,w,φ.le_refl,jV,⟨.mk ((AD jS iu)) (qV OW (GM.2 rfl) (Az jS iu)),gI,CV,hb,hN⟩⟩
    ·cases h
   ·cases h
 | panic v h'=>
  obtain⟨cv,e,hv,CV⟩:=NO;simp only[gG]at h;split at h
  ·rename_i tO hra
   cases h;exact⟨φ,_,cs,w,φ.le_refl,Tt ho hw nY e,⟨wW hF (l:=[{v,recovered:=false}]) (l':=[{v:=cv,recovered:=false}]) ⟨⟨rfl,rfl,hv⟩,trivial⟩ hra,gI,CV,hb,hN⟩⟩
  ·cases h
 |fail=>cases h
theorem CW{f:Operand}{ps:Array Tmp}{a b:Code}{k:List iL}(hs:SR N w0 φ s fr cs w)(jS:s.fr.dr=none)(hm:s.fr.mode= .run)(ht:s.fr.todo= .code (.rangeFunc f ps a b)::k)
  (h:mN P s f ps a b k=some s'):CU P N w0 bot φ fr cs w s':=by
 obtain⟨hF,gI,hh,hb,hN⟩:=hs;have hf:=hF.un jS;have OW:=hf;obtain⟨f1,f2,f3,f4,f5,f6,f7⟩:=hf;rw[hm]at f5;simp only[MR]at f5;rw[ht]at f3;obtain⟨ci,ck,kE,Cx,hk⟩:=bH.bM.1 f3;simp only[IR]at Cx;subst Cx;obtain⟨mJ,dC,e9,nL,fg,dM,nM⟩:=fr;simp only at kE f5 f1 f2;subst kE;subst f5
 -- the call of the function, once the loop's record lies there
 have call:∀{gA:cX}{h1:H}{w1:World}{l:Nat}{L:Loc}{f':AV}{g:FuncId}{args:List AV}{h2:H},φ.le gA→HR N gA h1 w1→gA l=some L→bP s.fr.tm f=some f'→
   je P f' [.yield l] h1= .enter g args h2→
   h2=h1∧∃cargs,((do let d ←resolve (ev dC) {callee:=.value f,args:= #[.const (.func (.yield L.B) #[] #[])],argTypes:= #[]} 0;invoke d.target d.args):Sem Next).run P w1= .ok (.enter g cargs) w1∧bH (VR gA) args cargs.toList:=by
  intro gA h1 w1 l L f' g args h2 hle G0 hL hev jO;have hv:=(bR f2 hev).le hle;have NO:=Dv (P:=P) G0 hv (args:=[.yield l]) (cargs:= #[.func (.yield L.B) #[] #[]]) ⟨GL.2 ⟨L,hL,rfl⟩,trivial⟩;rw[jO]at NO;obtain⟨cargs,e1,e2,e3⟩:=NO;refine⟨?_,cargs,?_,e2⟩
  ·unfold je at jO
   split at jO
   ·split at jO
    ·cases jO;rfl
    ·cases jO
   ·cases jO
   ·cases jO
  ·simpa[resolve,ev]using e1
 unfold mN at h;split at h
 ·rename_i f' hev
  simp only at h;split at h
  ·-- within a round
   rename_i lo pW;have h7:=f7;rw[pW]at h7;obtain⟨Lo,hLo,Hj⟩:=h7;simp only at Hj;subst Hj;split at h
   ·rename_i r tL
    split at h
    ·rename_i g args h2 jO
     split at h
     ·rename_i tO uu
      cases h;obtain⟨tmps0,D,g0,g1,g2,⟨M,hM,hDM⟩,g4⟩:=qX (P:=P) hh tL hLo;obtain⟨O,hO⟩:∃O:Obj,O= .loop {state:=.ready,pending:=none,fn:=mJ,tmps:=dC,params:=ps,assign:=a,body:=b,defers:=D}:=⟨_,rfl⟩;have hp:=mW hh (o:=.loop {state:=.ready,pending:=none,fn:=s.fr.fn,nt:=s.fr.nt,tm:=s.fr.tm,params:=ps.toList,assign:=a,body:=b,defers:=r.defers}) (O:=O)
       (fun ψ hle=>⟨hN,dC,D,by rw[hO,←f1];simp,f2.le hle,M,hle _ _ hM,hDM⟩)
      obtain⟨e1,cargs,e2,e3⟩:=call hp.2 hp.1 (cX.cS _ _ _) hev jO;subst e1;have nB:(Instr.enterLoop mJ dC ps a b (some Lo.B)).run P w= .ok (w.heap.size,[]) {w with heap:=w.heap.push O}:=by
       simp only[Instr.enterLoop,Sem.run_bind,g4,Result.andThen_ok,Sem.run_pure,run_newObj,hO]
      refine⟨_,_,_::cs,_,hp.2,yd nB e2,⟨.mk (mZ uu) (kZ e3 uu),⟨_,_,rfl,.mk jS ⟨f1,f2.le hp.2,⟨⟨_,cX.cS _ _ _,rfl⟩,hk.mono fun _ _=>IR.le hp.2⟩,?_,by rw[hm];rfl,f6,Pf.le hp.2 f7⟩,gI.le hp.2⟩,hp.1,hb.trans (fc _ hN),by simp;omega⟩⟩;exact f4.mono fun _ _=>DR.le hp.2
     ·cases h
    ·cases h
   ·cases h
  ·-- outside of rounds
   rename_i pW;have h7:=f7;rw[pW]at h7;simp only[Pf]at h7;subst h7;split at h
   ·rename_i g args h2 jO
    split at h
    ·rename_i tO uu
     cases h;have hp0:=mW hh (o:=.deferred (some [])) (O:=.deferred (some [])) (fun ψ hle=>⟨hN,some [],by simp,[],rfl,trivial⟩);obtain⟨w1,VL⟩:∃w1:World,w1={w with heap:=w.heap.push (.deferred (some []))}:=⟨_,rfl⟩;rw[←VL]at hp0;have hsz1:w1.heap.size=w.heap.size+1:=by rw[VL];simp
     have hN1:N≤w1.heap.size:=by omega
     obtain⟨O,hO⟩:∃O:Obj,O= .loop {state:=.ready,pending:=none,fn:=mJ,tmps:=dC,params:=ps,assign:=a,body:=b,defers:=w.heap.size}:=⟨_,rfl⟩;have hp:=mW hp0.1 (o:=.loop {state:=.ready,pending:=none,fn:=s.fr.fn,nt:=s.fr.nt,tm:=s.fr.tm,params:=ps.toList,assign:=a,body:=b,defers:=s.h.nx}) (O:=O)
      (fun ψ hle=>⟨hN1,dC,w.heap.size,by rw[hO,←f1];simp,(f2.le hp0.2).le hle,_,hle _ _ (cX.cS _ _ _),rfl⟩)
     have hle:=cX.le_trans hp0.2 hp.2;obtain⟨e1,cargs,e2,e3⟩:=call hle hp.1 (cX.cS _ _ _) hev jO;subst e1;have nB:(Instr.enterLoop mJ dC ps a b none).run P w= .ok (w1.heap.size,[{target:=.collected w.heap.size,args:= #[]}]) {w1 with heap:=w1.heap.push O}:=by
      simp only[Instr.enterLoop,Sem.run_bind,run_newObj,Result.andThen_ok,Sem.run_pure,hO,VL]
     refine⟨_,_,_::cs,_,hle,yd nB e2,⟨.mk (mZ uu) (kZ e3 uu),⟨_,_,rfl,.mk jS ⟨f1,f2.le hle,⟨⟨_,cX.cS _ _ _,rfl⟩,hk.mono fun _ _=>IR.le hle⟩,⟨⟨_,hp.2 _ _ (cX.cS _ _ _),rfl⟩,f4.mono fun _ _=>DR.le hle⟩,by rw[hm];rfl,f6,Pf.le hle f7⟩,gI.le hle⟩,hp.1,
      (hb.trans (by rw[VL];exact fc _ hN)).trans (fc _ hN1),by simp;omega⟩⟩
    ·cases h
   ·cases h
 ·cases h
theorem Kh{a:Addr}:(asAddr (.pointer (some a))).run P w= .ok a w:=rfl
theorem qY{h:H}(hr:HR N φ h w){nt:Nat}{tm:T AV}{tmps:Array Value}(tr:TR φ nt tm tmps):∀{g:ResultVar→Sem Value}(_:∀t,g (.tmp t)=pure (tmps.getD t undef))(_:∀a t,g (.cell a t)=do loadVar t (←asAddr (tmps.getD a undef))){l:List ResultVar}{vs:List AV},ic P tm h l=some vs→
  ∃Hm:List Value,(l.mapM g).run P w= .ok Hm w∧bH (VR φ) vs Hm
 |_,_,_,[],vs,h=>by simp only[ic,Option.some.injEq]at h;subst h;exact⟨[],rfl,trivial⟩
 | g,ga,gb,.tmp t::l,vs,h=>by
  simp only[ic]at h;split at h
  ·rename_i vs' G7
   cases h;obtain⟨Hm,h1,h2⟩:=qY hr tr ga gb G7;refine⟨tmps.getD t undef::Hm,?_,tr.2 t,h2⟩;simp only[List.mapM_cons,ga,Sem.run_bind,Sem.run_pure,Result.andThen_ok,h1]
  ·cases h
 | g,ga,gb,.cell a t::l,vs,h=>by
  simp only[ic]at h;split at h
  ·rename_i b o eH hta
   have NP:=tr.2 a;rw[hta,aq,dS]at NP;obtain⟨L,hL,NP⟩:=NP;split at h
   ·rename_i v vs' hv G7
    cases h;obtain⟨Hm,h1,h2⟩:=qY hr tr ga gb G7;obtain⟨L',tc,cv,h3,h4⟩:=Ds (P:=P) hr hL eH hv;rw[hL]at tc;cases tc;refine⟨cv::Hm,?_,h4,h2⟩;simp only[List.mapM_cons,gb,Sem.run_bind,NP,Kh,Sem.run_pure,Result.andThen_ok,h3,h1]
   ·cases h
  ·cases h
def VM(tmps:Array Value)(x:ResultVar):Sem Value:=
 match x with
 | .tmp t=>pure (tmps.getD t undef)
 | .cell a t=>do loadVar t (←asAddr (tmps.getD a undef))
theorem Ki(fn:Func)(tmps:Array Value):results fn tmps=(do let vs ←fn.results.mapM (VM tmps);pure (if h:vs.size=1 then vs[0]else .tuple vs)):=by
 unfold results;rfl
theorem Hn{h:H}(hr:HR N φ h w){nt:Nat}{tm:T AV}{tmps:Array Value}(tr:TR φ nt tm tmps){fn:Func}{v:AV}(hv:Fe P fn tm h=some v):
  ∃cv,(results fn tmps).run P w= .ok cv w∧VR φ v cv:=by
 have key:∀vs,ic P tm h fn.results.toList=some vs→∃Hm:List Value,(results fn tmps).run P w= .ok (if hh:Hm.toArray.size=1 then Hm.toArray[0]else .tuple Hm.toArray) w∧bH (VR φ) vs Hm:=by
  intro vs G7;rw[Ki];simp only[Sem.run_bind,Array.mapM_eq_mapM_toList,Sem.run_map];obtain⟨Hm,h1,h2⟩:=qY (P:=P) hr tr (g:=VM tmps) (fun _=>rfl) (fun _ _=>rfl) G7;refine⟨Hm,?_,h2⟩;rw[h1];rfl
 unfold Fe at hv;split at hv
 ·rename_i v' G7
  cases hv;obtain⟨Hm,h1,h2⟩:=key _ G7;obtain⟨c,cr,rfl,h3,h4⟩:=bH.bM.1 h2;rw[bH.ct]at h4;subst h4;exact⟨c,by rw[h1];rfl,h3⟩
 ·rename_i vs dH G7
  cases hv;obtain⟨Hm,h1,h2⟩:=key _ G7;refine⟨.tuple Hm.toArray,?_,mP.2 ⟨_,rfl,h2⟩⟩;rw[h1];have :¬Hm.toArray.size=1:=by
   intro e;have hl:vs.length=1:=by rw[h2.length];simpa using e
   match vs,hl with
   |[v],_=>exact dH v rfl
  rw[dif_neg this]
 ·cases hv
theorem Kj{c:zK}{m:FrameMode}(h:MR φ c m)(hn:∀v sX,c≠.panicking ({v,recovered:=true}::sX)):settle m=m:=by
 cases c with
 |run=>simp only[MR]at h;subst h;rfl
 |returning=>simp only[MR]at h;subst h;rfl
 | panicking l=>
  obtain⟨l',rfl,hl⟩:=h;cases l with
  |nil=>rw[bH.ct]at hl;subst hl;rfl
  |cons p sX=>
   obtain⟨pe,lr,rfl,⟨p1,p2,p3⟩,Fl⟩:=bH.bM.1 hl;obtain⟨pv,pr,pg⟩:=pe;obtain⟨av,ar⟩:=p;simp only at p1 p2;subst p1;subst p2;cases pr with
   |true=>exact absurd rfl (hn _ _)
   |false=>rfl
theorem Kk{l:List mL}{v:AV}{m:FrameMode}(h:MR φ (.panicking ({v,recovered:=true}::l)) m):settle m= .returning:=by
 obtain⟨l',rfl,hl⟩:=h;obtain⟨pe,lr,rfl,⟨p1,p2,p3⟩,Fl⟩:=bH.bM.1 hl;obtain⟨pv,pr,pg⟩:=pe;simp only at p1 p2;subst p1;subst p2;unfold settle;have :lr.dropWhile (!·.goexit)=[]:=by
  have :∀(l:List mL)(lr:List PanicEntry),bH (PR φ) l lr→lr.dropWhile (!·.goexit)=[]:=by
   intro l;induction l with
   |nil=>intro lr h;rw[bH.ct]at h;subst h;rfl
   |cons p l ih=>
    intro lr h;obtain⟨pe,lr',rfl,⟨_,p2,_⟩,h2⟩:=bH.bM.1 h;rw[List.dropWhile_cons_of_pos (by simp[p2])];exact ih lr' h2
  exact this l lr Fl
 simp only[this]
theorem Kl(hs:SR N w0 φ s fr cs w)(jS:s.fr.dr=none)(hm:s.fr.mode≠.run)(h:uA P s=some s'):CU P N w0 bot φ fr cs w s':=by
 obtain⟨hF,gI,hh,hb,hN⟩:=hs;have hf:=hF.un jS;have OW:=hf;obtain⟨f1,f2,f3,f4,f5,f6,f7⟩:=hf;have PV:fr.mode≠.run:=by
  cases Tz:s.fr.mode with
  |run=>exact absurd Tz hm
  |returning=>rw[Tz]at f5;simp only[MR]at f5;rw[f5];simp
  |panicking l=>rw[Tz]at f5;obtain⟨l',e,_⟩:=f5;rw[e];simp
 obtain⟨mJ,dC,e9,nL,fg,dM,nM⟩:=fr;simp only at f1 f2 f3 f4 f5 f6 f7 PV;unfold uA at h;split at h
 ·rename_i r ds Xn
  rw[Xn]at f4;obtain⟨cd,cr,rfl,⟨L,hL,rfl⟩,hr⟩:=bH.bM.1 f4;split at h
  ·rename_i calls mz
   cases h;obtain⟨hNL,c,g1,l',rfl,g2⟩:=hh.get mz hL;have fW:=(hh.get mz hL).lt;have nB:(Instr.takeDeferred L.B).run P w= .ok l' (jg w L.B (.deferred none)):=by
    simp only[Instr.takeDeferred,Sem.run_bind,cP g1 (fun _ _ _=>by simp),Result.andThen_ok,ey g1 (fun _ _ _=>by simp),Sem.run_pure]
   refine⟨φ,_,cs,_,φ.le_refl,Hb PV nB,⟨.mk jS ⟨f1,f2,f3,g2.append hr,f5,f6,f7⟩,gI,?_,hb.trans (fF _ hNL),by rw[kU];exact hN⟩⟩;exact hh.set mz hL _ (fun k hk=>by rw[eY fW,if_neg hk]) ⟨hNL,none,by rw[eY fW,if_pos rfl],rfl⟩
  ·cases h
 ·rename_i f args cap ds Xn
  rw[Xn]at f4;obtain⟨cd,cr,rfl,⟨a,b,rfl,h1,h2⟩,hr⟩:=bH.bM.1 f4;split at h
  ·rename_i eH
   split at h
   ·rename_i tO uu
    cases h;have nB:(invoke (.fn (.func f) b) a).run P w= .ok (.enter f (a++b)) w:=by
     simp only[invoke,uU eH]
    exact⟨φ,_,_::cs,w,φ.le_refl,J_ PV nB,⟨.mk (mZ uu) (kZ (by rw[Array.toList_append];exact h1.append h2) uu),⟨_,_,rfl,.mk jS ⟨f1,f2,f3,hr,f5,f6,f7⟩,gI⟩,hh,hb,hN⟩⟩
   ·cases h
  ·cases h
 ·rename_i Xn
  rw[Xn,bH.ct]at f4;subst f4;split at h
  ·rename_i Tz;exact absurd Tz hm
  ·rename_i chain Tz
   split at h
   ·rename_i c acs fn hc OX
    rw[hc]at gI;obtain⟨cc,zn,rfl,wC,nI⟩:=gI;rw[Tz]at f5;obtain⟨l',rfl,hl⟩:=f5;rw[←f1]at OX;split at h
    ·rename_i c' hra
     cases h;exact⟨φ,_,zn,w,φ.le_refl,LB OX,⟨wW wC hl hra,nI,hh,hb,hN⟩⟩
    ·cases h
   ·cases h
  ·rename_i Tz
   rw[Tz]at f5;simp only[MR]at f5;subst f5;split at h
   ·rename_i fn OX
    rw[←f1]at OX;split at h
    ·rename_i v hv
     obtain⟨cv,hr,hvr⟩:=Hn (P:=P) hh f2 hv;unfold sW at h;split at h
     ·cases h
     ·rename_i c acs hc
      rw[hc]at gI;obtain⟨cc,zn,rfl,wC,nI⟩:=gI;split at h
      ·rename_i hk
       rw[hk]at f6;subst f6;split at h
       ·rename_i c' iu
        cases h;exact⟨φ,_,zn,w,φ.le_refl,PL OX hr,⟨ig wC hvr iu,nI,hh,hb,hN⟩⟩
       ·cases h
      ·rename_i hk
       rw[hk]at f6;subst f6;split at h
       ·rename_i v' sX PU
        cases h;have jV:=Dy (cs:=zn++bot) (ro:=nM) (todo:=e9) (c:=cc) OX hr;have h5:=wC.mode;rw[PU]at h5;rw[Kk h5]at jV;exact⟨φ,_,zn,w,φ.le_refl,jV,⟨wC.AE rfl,nI,hh,hb,hN⟩⟩
       ·rename_i PU
        cases h;have jV:=Dy (cs:=zn++bot) (ro:=nM) (todo:=e9) (c:=cc) OX hr;rw[Kj wC.mode (fun v sX e=>PU v sX e)]at jV;exact⟨φ,_,zn,w,φ.le_refl,jV,⟨wC,nI,hh,hb,hN⟩⟩
      ·cases h
    ·cases h
   ·cases h
end
end Go.AX
