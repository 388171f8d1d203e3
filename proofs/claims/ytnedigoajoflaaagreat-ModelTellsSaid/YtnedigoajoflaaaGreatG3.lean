/-
  model: the document's Do: operations: walked.
-/
import Derived.Test.YtnedigoajoflaaaGreatAxI
import Derived.Test.YtnedigoajoflaaaGreatG0
import Derived.Test.YtnedigoajoflaaaGreatG2
import Derived.Test.YtnedigoajoflaaaGreatAxF
set_option linter.unusedSimpArgs false
set_option linter.unusedVariables false
set_option linter.unusedSectionVars false
set_option linter.defProp false
set_option maxHeartbeats 8000000
open Nat renaming reduceLT→ab,reduceLeDiff→ae,reduceEqDiff→af,reduceAdd→ag,reduceMul→ah,reduceSub→ai,le_refl→ak,zero_add→az,zero_le→aA,le_trans→aD,lt_of_lt_of_le→aN,min_eq_right→aac,succ_le_succ→aad,le_succ→aag,sub_zero→aaj,mul_le_mul_left→aan
open Bool renaming not_false→al,not_true→an,true_and→aG,false_and→aK,and_false→aL,or_true→aM,and_true→aP,or_false→aQ,false_or→aR,true_or→aV,and_eq_true→aW,and_self→aae
open List renaming length_append→ao,append_nil→aq,getElem?_eq_getElem→aw,mem_of_getElem?→aB,length_take→aC,map_cons→aE,append_assoc→aF,mem_singleton→aH,take_length→aJ,length_cons→aO,flatMap_append→aS,flatMap_singleton→aU,length_map→aX,find?_cons→aY,take_add_one→aZ,take_take→a_,mem_cons→bg,nodup_cons→aaa,foldl_cons→aab,length_nil→aaf,foldl_append→aah,filter_cons_of_neg→aai,map_append→aak,take_zero→aal,mem_cons_of_mem→aam
open Int renaming ofNat→au
namespace Go.Proofs.YtnedigoajoflaaaGreat.M
open Go Go.AX
noncomputable section
set_option maxRecDepth 100000
theorem yM{rev:Nat}:∀(l:List KV)(R:List Rec),(∀x,x∈R→x.main=rev+1)→∀x,x∈fx rev R l→x.main=rev+1
 |[],R,h=>h
 |y::l,R,h=>yM l (iU rev R y) fun x hx=>by
  unfold iU at hx;rcases List.mem_append.1 hx with q|q
  ·exact h x q
  ·rw[aH]at q;subst q;rfl
theorem RO{rev:Nat}{L R:List Rec}{op:Op}(h:∀x,x∈R→x.main=rev+1):∀x,x∈(sI rev L R op).2→x.main=rev+1:=by
 unfold sI;split
 ·exact h
 ·split
  ·intro x hx
   rcases List.mem_append.1 hx with q|q
   ·exact h x q
   ·rw[aH]at q;subst q;rfl
  ·exact yM _ _ h
theorem xD{rev:Nat}{L:List Rec}:∀(l:List Op)(i:Nat),i≤l.length→∀x,x∈(fy rev L (l.take i)).2→x.main=rev+1
 |l,0,_=>by rw[aal];intro x hx;cases hx
 |l,i+1,hi=>by
  obtain⟨o,ho⟩:∃o,l[i]? =some o:=⟨_,aw (by omega)⟩;rw[Cb ho];exact RO (xD l i (by omega))
structure RrH(h0 h:H)(b b3 b4 b5 base:Nat)(L:List Rec)(rev comp:Nat)(v:AV)(rq:List AV)(tk:Bool)(R:List Rec)(wa:AV)(xs:List RV)(dE:AV):Prop where
 D:zC h0 h b b3 b4 b5 L rev comp v rq 0 tk dE
 ga:bK 8 base h wa (L++R).length ((L++R).flatMap Rec.cs)
 gr:bK 5 base h dE xs.length (xs.flatMap Ga)
 ok:∀x,x∈xs→RB h base wa dE x
 nw:∀c,bA dE=some c→bA wa≠some c
 lb:b<base
 lb3:b3<base
 lb4:b4<base
 lb5:b5<base
 lv:∀c,bA v=some c→c<base
 l0:h0.nx≤base
 le:base≤h.nx
theorem zC.move{h0 h h':H}{b b3 b4 b5 rev comp err base:Nat}{L:List Rec}{v dE:AV}{rq:List AV}{tk:Bool}(d:zC h0 h b b3 b4 b5 L rev comp v rq err tk dE)(hx:h.nx≤h'.nx)(e:∀c,c<base→h'.t.get c=h.t.get c)(hg:h'.g=h.g)(lb:b<base)(lb3:b3<base)(lb4:b4<base)(lb5:b5<base)(lv:∀c,bA v=some c→c<base)(l0:h0.nx≤base):zC h0 h' b b3 b4 b5 L rev comp v rq err tk dE:=
 ⟨⟨aN d.s.lt hx,d.s.c.bG (e b lb),by rw[bC (e b lb)];exact d.s.wr,d.s.gv.bG hx (fun c q=>e c (lv c q)),.none,.inl ⟨.inl rfl,rfl,rfl⟩,d.s.nv,d.s.ns⟩,d.q.bG (e b3 lb3),d.a.bG (e b5 lb5),by rw[bC (e b5 lb5)];exact d.w5,⟨⟨aD d.oo.1.1 hx,fun c hc hn=>by rw[e c (by omega)];exact d.oo.1.2 c hc hn⟩,hg.trans d.oo.2⟩,aN d.l3 hx,aN d.l5 hx,d.n3,d.n5,d.WS,d.a4.bG (e b4 lb4),by rw[bC (e b4 lb4)];exact d.w4,aN d.l4 hx,d.n4⟩
theorem zC.oW{h0 h:H}{b b3 b4 b5 rev comp err:Nat}{L:List Rec}{v dE:AV}{rq:List AV}{tk:Bool}(d:zC h0 h b b3 b4 b5 L rev comp v rq err tk dE)(w2:AV):zC h0 (h.cm b5 4 [w2]) b b3 b4 b5 L rev comp v rq err tk w2:=by
 have k:∀c,c≠b5→(h.cm b5 4 [w2]).t.get c=h.t.get c:=fun c hc=>bT _ _ _ _ hc;have A:=d.a.put d.w5 (j:=4) (by simp[cM]) w2;rw[az]at A;exact⟨⟨by rw[bI];exact d.s.lt,d.s.c.bG (k b d.n5),by rw[bC (k b d.n5)];exact d.s.wr,d.s.gv.bG (by rw[bI];exact ak _) (fun c e=>k c (d.WS c e)),.none,.inl ⟨.inl rfl,rfl,rfl⟩,d.s.nv,d.s.ns⟩,d.q.bG (k b3 d.n3),A,by rw[bN];exact d.w5,d.oo.cm (.inl (by simp)),by rw[bI];exact d.l3,by rw[bI];exact d.l5,d.n3,d.n5,d.WS,d.a4.bG (k b4 d.n4),by rw[bC (k b4 d.n4)];exact d.w4,by rw[bI];exact d.l4,d.n4⟩
theorem opRC(hk:H)(b kn jT base:Nat)(L R:List Rec)(rev comp:Nat)(v wa:AV)(op:Op)(kd:Nat)(qz:op.kind=au kd)(h3:kd<3)(cb:cellAt hk b 0=some v)(hlen:∀(h':H)(ts:List TypeId)(xs:List AV),bQ P .len (60::ts) (v::xs) h'= .val (.int .i64 (.ofNat L.length)) h')(vo:v.one=true)(lb:b<hk.nx)(RN:b≠jT)(nab:bA wa≠some b)
  (Y:bj hk kn 0 op.cs)(Z:bj hk jT 0 [.bh,.bool false,.int .i64 (.ofNat 0),.int .i64 (.ofNat 0),.bh])(wz:cj hk jT=true)
  (ga:bK 8 base hk wa (L++R).length ((L++R).flatMap Rec.cs))(MK:kn<hk.nx)(O4:jT<hk.nx)(n16:kn≠jT)(na:∀c,bA wa=some c→c≠jT)(na5:∀c,bA wa=some c→c≠kn)(eg:base≤hk.nx)(hs:dI (L++R))(hz:(L++R).length≤400000)(hw:iG op rev comp=0)(hR:∀x,x∈R→x.main=rev+1)
  (tm:T AV)(t0:tm.get 0=some (.ptr b 0))(t12:tm.get 12=some (.int .u64 (.ofNat (rev+1))))(t13:tm.get 13=some wa)(t15:tm.get 15=some (.ptr kn 0))(t16:tm.get 16=some (.ptr jT 0))(K:KQ)
  (hK:∀bZ h2 xz k p,(∀j,j≤16→j≠13→bZ.get j=tm.get j)→bZ.get 13=some xz→OpR hk h2 jT base L (sI rev L R op).2 (sI rev L R op).1 wa xz k p→K .norm [] bZ h2):
  bB P 26 276 none (bL (bD Tryz.f26) [0,1,1,0,0,1,0,0,1,0,1,1,1,1,1,1,1,1,1,1,1,1,1,1,1]) [] tm hk K:=by
 match kd,h3,qz with
 | 0,_,qz=>
  have Qw:op.rev≤rev:=by
   unfold iG jw at hw;rw[if_pos (by rw[qz];rfl)]at hw;by_cases q:rev<op.rev
   ·rw[if_pos q]at hw;cases hw
   ·omega
  exact op0C hk b kn jT base L R rev wa op Y Z wz ga MK O4 n16 na qz hs (by omega) Qw hR tm t12 t13 t15 t16 K hK
 |1,_,qz=>exact op1C hk b kn jT base L R rev v wa op cb hlen vo lb RN nab Y Z wz ga MK O4 n16 na eg qz (by omega) tm t0 t12 t13 t15 t16 K hK
 |2,_,qz=>exact op2C hk b kn jT base L R rev v wa op cb hlen vo lb RN nab Y Z wz ga MK O4 n16 na na5 eg qz hs hz tm t0 t12 t13 t15 t16 K hK
structure DoI(h0:H)(b b3 b4 b5 base:Nat)(L:List Rec)(rev comp:Nat)(v:AV)(rq:List AV)(tk:Bool)(l:List Op)(va:AV)(m:Nat)(ds:List Nat)(tm:T AV)(h:H)(i:Nat)(wa:AV)(xs:List RV)(dE:AV):Prop where
 ds:ds=[]
 nn:m=l.length-i
 ii:i≤l.length
 t0:tm.get 0=some (.ptr b 0)
 t4:tm.get 4=some (.ptr b4 0)
 t5:tm.get 5=some (.ptr b5 0)
 t10:tm.get 10=some va
 t12:tm.get 12=some (.int .u64 (.ofNat (rev+1)))
 t13:tm.get 13=some wa
 t14:tm.get 14=some (.int .i64 (.ofNat i))
 hx:xs.map (·.1)=(fy rev L (l.take i)).1
 hh:RrH h0 h b b3 b4 b5 base L rev comp v rq tk (fy rev L (l.take i)).2 wa xs dE
theorem RP(h0 h1:H)(b b3 b4 b5 base:Nat)(L:List Rec)(rev comp:Nat)(v:AV)(rq:List AV)(tk:Bool)(l:List Op)(va wa0:AV)(hh:RrH h0 h1 b b3 b4 b5 base L rev comp v rq tk [] wa0 [] .bh)(sl:br h0 va l.length (l.flatMap Op.cs))(nb:∀c,bA va=some c→c≠b5)(hz:l.length≤1000000)(hs:dI L)(JC:L.length≤200000)(hlv:L.length≤400000)
  (hB:∀i,i≤l.length→dI (fy rev L (l.take i)).2∧(fy rev L (l.take i)).2.length≤200000)(hk:∀op,op∈l→∃kd:Nat,op.kind=au kd∧kd<3)(hw:∀op,op∈l→iG op rev comp=0)
  (tm:T AV)(t0:tm.get 0=some (.ptr b 0))(t4:tm.get 4=some (.ptr b4 0))(t5:tm.get 5=some (.ptr b5 0))(t10:tm.get 10=some va)(t12:tm.get 12=some (.int .u64 (.ofNat (rev+1))))(t13:tm.get 13=some wa0)(K:KQ)
  (hK:∀bZ h2 wa xs dE,bZ.get 0=some (.ptr b 0)→bZ.get 4=some (.ptr b4 0)→bZ.get 5=some (.ptr b5 0)→bZ.get 12=some (.int .u64 (.ofNat (rev+1)))→bZ.get 13=some wa→xs.map (·.1)=(fy rev L l).1→RrH h0 h2 b b3 b4 b5 base L rev comp v rq tk (fy rev L l).2 wa xs dE→K .norm [] bZ h2):
  bB P 26 276 none (bL (bD Tryz.f26) [0,1,1,1,1,1,1,1,1,1,1,1,1,1,1,1]) [] tm h1 K:=by
 have tL:=sl.len (P:=P) vK;have vao:=cH sl;have vo:=hh.D.s.gv.one;have hlen:=hh.D.s.gv.slice.len (P:=P) jl;refine rN ?_ (V t0<|V t4<|V t5<|V t10<|V t12<|t13);refine cn (fun m ds tm h=>∃i wa xs dE,DoI h0 b b3 b4 b5 base L rev comp v rq tk l va m ds tm h i wa xs dE) l.length rfl ⟨0,wa0,[],.bh,rfl,rfl,aA _,by exact sT,by exact sT,by exact sT,by exact sT,by exact sT,by exact sT,by exact sT,rfl,hh⟩ (fun m ds tm h hI=>?_);clear t0 t4 t5 t10 t12 t13 hh;obtain⟨i,wa,xs,dE,rfl,rfl,ii,t0,t4,t5,t10,t12,t13,t14,MF,hh⟩:=hI;by_cases hi:i<l.length
 ·have di:decide (i<l.length)=true:=decide_eq_true hi
  have dX:(i<l.length)=True:=by simp[hi]
  obtain⟨x,hx⟩:∃x,l[i]? =some x:=⟨_,aw hi⟩;have jk:=br.only hh.D.oo.1 sl (fun c e=>by simp;exact nb c e);obtain⟨bv,ov,cv,rfl,qw,-⟩:=jk.place (by omega);obtain⟨q0,q1,q2,q3,q4,q5,q6,q7,q8⟩:=Op.at jk hx;obtain⟨h2,cJ,o2,x2,y0,y1,y2,y3,y4,y5,y6,y7,y8⟩:=EH h x;obtain⟨h3,cB,o3,x3,wz,z0,z1,z2,z3,z4⟩:=KR h2 0;have IK:=o2.t o3;have w1:bV .i64 (au i+au 1)=au (i+1):=cq (by omega);obtain⟨kd,qz,KK⟩:=hk x (aB hx);have hwx:=hw x (aB hx);obtain⟨O3,WK⟩:=hB i ii;have hmR:=xD (rev:=rev) (L:=L) l i ii;have hss:=Cb (rev:=rev) (L0:=L) hx;have hxl:xs.length=i:=by
   have e:=congrArg List.length MF;rw[aX]at e;rw[e,IT,aC];omega
  obtain⟨R,hR⟩:∃R,R=(fy rev L (l.take i)).2:=⟨_,rfl⟩;rw[←hR]at hh O3 WK hmR;have D3:=hh.D.bU IK;obtain⟨c0,-⟩:=D3.s.c.u8;have g1:=hh.lb;have g3:=hh.lb3;have g4:=hh.lb4;have g5:=hh.lb5;have ge:=hh.le;have Dc:∀c,bA wa=some c→base≤c∧c<h.nx:=fun c e=>hh.ga.base e;have RC:∀c,bA dE=some c→base≤c∧c<h.nx:=fun c e=>hh.gr.base e;have Y3:=gC (show bj h2 h.nx 0 x.cs from .m9 y0 y1 y2 y3 y4 y5 y6 y7 y8) o3 (by omega) (by simp);have Z3:bj h3 h2.nx 0 [.bh,.bool false,.int .i64 (.ofNat 0),.int .i64 (.ofNat 0),.bh]:=.m5 z0 z1 z2 z3 z4;have hsLR:dI (L++R):=fun r hr=>by rcases List.mem_append.1 hr with q|q;exact hs r q;exact O3 r q
  have hzLR:(L++R).length≤400000:=by rw[ao];omega
  refine oq ?_ (@sc [0,1,1,0,0,1,0,0,1,0,1,1,1,1,1,1,1,1,1,1,1,1,1,1,1]) (V t0<|V t4<|V t5<|V t10<|V t12<|V t13<|V t14<|V tL<|V vao<|V di<|V dX<|V q0<|V q1<|V q2<|V q3<|V q4<|V q5<|V q6<|V q7<|V q8<|V cJ<|cB);refine⟨?_⟩;refine opRC h3 b h.nx h2.nx base L R rev comp v wa x kd qz KK c0 hlen vo (by omega) (by omega) (fun e=>by have:=Dc _ e;omega) Y3 Z3 wz (hh.ga.bG IK.1.1 (fun c e=>IK.1.2 c (Dc c e).2 (by simp))) (by omega) (by omega) (by omega) (fun c e=>by have:=Dc c e;omega) (fun c e=>by have:=Dc c e;omega) (by omega) hsLR hzLR hwx hmR _ (by exact sT) (by exact sT) (by exact sT) (by exact sT) (by exact sT) _ ?_;intro bZ h4 xz k p jr ML o;obtain⟨r,hre⟩:∃r,r=(sI rev L R x).1:=⟨_,rfl⟩;obtain⟨R2,hR2⟩:∃R2,R2=(sI rev L R x).2:=⟨_,rfl⟩;rw[←hre,←hR2]at o;have u0:bZ.get 0=some (.ptr b 0):=(jr 0 (by omega) (by omega)).trans (by exact sT);have u4:bZ.get 4=some (.ptr b4 0):=(jr 4 (by omega) (by omega)).trans (by exact sT);have u5:bZ.get 5=some (.ptr b5 0):=(jr 5 (by omega) (by omega)).trans (by exact sT);have u10:bZ.get 10=some (.slice bv ov l.length cv):=(jr 10 (by omega) (by omega)).trans (by exact sT);have Ru:bZ.get 12=some (.int .u64 (.ofNat (rev+1))):=(jr 12 (by omega) (by omega)).trans (by exact sT);have u14:bZ.get 14=some (.int .i64 (.ofNat i)):=(jr 14 (by omega) (by omega)).trans (by exact sT);have u16:bZ.get 16=some (.ptr h2.nx 0):=(jr 16 (by omega) (by omega)).trans (by exact sT);have x4:=o.nx;have kB:∀c,c<base→h4.t.get c=h3.t.get c:=fun c hc=>o.old c (by omega) (by omega) (fun e=>by have:=Dc c e;omega);have kN:∀c,c<h.nx→bA wa≠some c→h4.t.get c=h.t.get c:=fun c hc hn=>by rw[o.old c (by omega) (by omega) hn,IK.1.2 c hc (by simp)]
  have D4:=D3.move (base:=base) x4 kB o.g g1 g3 g4 g5 hh.lv hh.l0;obtain⟨a0,a1,a2,a3,a4,a5,a6,a7,a8⟩:=D4.a.u9;obtain⟨s0,s1,s2,s3,s4⟩:=bj.u5 (show bj h4 h2.nx 0 [k,.bool r.more,.int .i64 (.ofNat r.JA),.int .i64 (.ofNat r.del),p]from o.z);have ko:=cH o.ks;have po:=cH o.ps;have nR:=hh.gr.one;obtain⟨h5,eL⟩:∃h5,h5=h4.bq 47 [k,.bool r.more,.int .i64 (.ofNat r.JA),.int .i64 (.ofNat r.del),p]:=⟨_,rfl⟩;have o5:Og h4 h5 []:=by rw[eL];exact(Og.refl _ _).new _ _
  have x5:h5.nx=h4.nx+1:=by rw[eL];rfl
  have eZ:h5.row h4.nx 0 5=some [k,.bool r.more,.int .i64 (.ofNat r.JA),.int .i64 (.ofNat r.del),p]:=by rw[eL];exact(bj.new h4 47 [k,.bool r.more,.int .i64 (.ofNat r.JA),.int .i64 (.ofNat r.del),p]).row (by simp)
  have S4:bK 5 base h5 dE _ _:=hh.gr.bG (by omega) (fun c e=>by have:=RC c e;rw[o5.1.2 c (by omega) (by simp),kN c this.2 (hh.nw c e)]);refine rN ?_ (V u5<|V u16<|V a4<|V s0<|V s1<|V s2<|V s3<|V s4<|V ko<|V po<|V nR<|V eL.symm<|eZ);refine dz (m:=1) (new:=Ga (r,k,p)) S4 (by omega) (by omega) (by omega) rfl (by omega) (fun v7 h7 g7 x7 gV ud vM=>?_);have wG:=g7.one;have Om:=g7.cells;have nbr:∀c,c<base→bA dE≠some c:=fun c hc e=>by have:=RC c e;omega
  have D7:=(D4.bU o5).move (base:=base) (h':=h7) (by omega) (fun c hc=>gV c (by omega) (nbr c hc)) vM g1 g3 g4 g5 hh.lv hh.l0;obtain⟨-,-,-,-,e4,-⟩:=D7.a.u9;have w57:=D7.w5;have D8:=D7.oW v7;obtain⟨h8,oz⟩:∃h8,h8=h7.cm b5 4 [v7]:=⟨_,rfl⟩;rw[←oz]at D8;have k8:∀c,c≠b5→h8.t.get c=h7.t.get c:=fun c hc=>by rw[oz,bT _ _ _ _ hc]
  have x8:h8.nx=h7.nx:=by rw[oz,bI]
  refine rN ?_ (V u5<|V u14<|V wG<|V Om<|V e4<|V w57<|V oz.symm<|w1);have fz:fy rev L (l.take (i+1))=((fy rev L (l.take i)).1++[r],R2):=by
   rw[hss];unfold Oo;rw[←hR,←hre,←hR2]
  have kk:∀c,c<h4.nx→c≠b5→bA dE≠some c→h8.t.get c=h4.t.get c:=fun c hc n1 n2=>by rw[k8 c n1,gV c (by omega) n2,o5.1.2 c hc (by simp)]
  have w3b:∀c,bA xz=some c→bA wa=some c∨h3.nx≤c:=o.nw;have w3l:∀c,bA xz=some c→c<h4.nx:=fun c e=>(o.ga.base e).2;have w3r:∀c,bA xz=some c→bA dE≠some c:=fun c e e2=>by
   rcases w3b c e with q|q
   ·exact hh.nw c e2 q
   ·have:=RC c e2;omega
  have kl:=gz o.ks;have pl:=gz o.ps;have nr:∀c,h3.nx≤c→bA dE≠some c:=fun c hc e=>by have:=RC c e;omega
  refine⟨l.length-(i+1),by omega,i+1,xz,xs++[(r,k,p)],v7,rfl,rfl,by omega,by exact sT,by exact sT,by exact sT,by exact sT,by exact sT,by exact sT,by exact sT,by rw[fz,aak,MF];rfl,?_⟩;rw[fz];refine⟨D8,o.ga.bG (by omega) (fun c e=>kk c (w3l c e) (by have:=o.ga.base e;omega) (w3r c e)),?_,fun y hy=>?_,fun c e e2=>?_,g1,g3,g4,g5,hh.lv,hh.l0,by omega⟩
  ·rw[ao,aS,aU]
   exact g7.bG (by omega) (fun c e=>k8 c (by have:=g7.base e;omega))
  ·rcases List.mem_append.1 hy with q|q
   ·refine(hh.ok y q).move (by omega) (fun c hc nI n1 n2=>⟨?_,fun e=>?_,fun e=>?_⟩)
    ·rw[kk c (by omega) (by omega) n2,kN c nI n1]
    ·rcases w3b c e with q|q
     ·exact n1 q
     ·omega
    ·rw[ud]at e;cases e;omega
   ·rw[aH]at q;subst q
    refine⟨o.ks.move (by omega) (fun c e=>kk c (kl c e) (by have:=o.kb c e;omega) (nr c (o.kb c e).1)),o.ps.move (by omega) (fun c e=>kk c (pl c e) (by have:=o.pb c e;omega) (nr c (o.pb c e).1)),fun c e=>⟨by have:=o.kb c e;omega,by have:=kl c e;omega,(o.kb c e).2,fun e2=>?_⟩,fun c e=>⟨by have:=o.pb c e;omega,by have:=pl c e;omega,(o.pb c e).2,fun e2=>?_⟩⟩
    ·rw[ud]at e2;cases e2;have:=kl _ e;omega
    ·rw[ud]at e2;cases e2;have:=pl _ e;omega
  ·rw[ud]at e;cases e;have:=w3l _ e2;omega
 ·have di:decide (i<l.length)=false:=decide_eq_false hi
  obtain rfl:i=l.length:=by omega
  rw[aJ]at MF hh;refine rN ?_ (V t0<|V t4<|V t5<|V t10<|V t12<|V t13<|V t14<|V tL<|V vao<|di);exact hK _ _ wa xs dE (by exact sT) (by exact sT) (by exact sT) (by exact sT) (by exact sT) MF hh
theorem tailR{h:H}{base n m:Nat}{wa:AV}{cs0 NT:List AV}(g:bK 8 base h wa (n+m) (cs0++NT))(hc:cs0.length=n*8):∃v2,dF P 60 wa (some (.int .i64 (.ofNat n))) none none=some v2∧br h v2 m NT∧xw h v2 m NT∧(∀c,bA v2=some c→bA wa=some c):=by
 generalize hk:n+m=k at g;generalize gI:cs0++NT=cs at g;cases g with
 |none=>
  obtain rfl:n=0:=by omega
  obtain rfl:m=0:=by omega
  have e1:NT=[]:=(List.append_eq_nil_iff.1 gI).2;subst e1;exact⟨.bh,by kernel_rfl,.none,.inl ⟨.inl rfl,rfl,rfl⟩,fun c e=>e⟩
 | cell b k cs t ty h1 h2 h3 h4 h5=>
  have Ti:NT.length=m*8:=by
   have:=congrArg List.length gI;rw[ao]at this;omega
  have hd:cs.drop (n*8)=NT:=by rw[←gI,←hc,List.drop_left]
  have hr:=oT (base:=base) h2 h4 h5;rcases Nat.eq_zero_or_pos m with q|q
  ·subst q
   have e1:NT=[]:=List.length_eq_zero_iff.1 (by omega);subst e1;rcases Nat.eq_zero_or_pos n with q2|q2
   ·subst q2
    subst hk;refine⟨.slice b 0 0 (.iK 0),?_,.cell b 0 0 _ _ h2 (fun i hi=>by simp at hi),.inr ⟨b,0,_,rfl,h2,by rw[Nat.zero_mul];exact rD hr 0,rfl⟩,fun c e=>e⟩;simp only[dF,jl,show eQ P 91=true from by kernel_rfl,jz,j0,CA,tE (ak 0),Nat.beq_refl,Nat.add_zero,aaj]
   ·obtain rfl:k=n:=by omega
    refine⟨.dq,?_,.zero,.inl ⟨.inr rfl,rfl,rfl⟩,fun c e=>by cases e⟩;simp only[dF,jl,show eQ P 91=true from by kernel_rfl,jz,j0,CA,tE (ak k),QK (show k≠0 by omega),QJ (show k<k+1 by omega)]
  ·have hs:=FY (P:=P) (e:=91) (size:=8) jl (by kernel_rfl) (by kernel_rfl) b 0 k 0 n .i64 (by omega)
   have ek:k-n=m:=by omega
   rw[ek]at hs;have eZ:=hr.row (o:=0+n*8) (n:=m*8) (by omega) (by omega);rw[az,hd,List.take_of_length_le (by omega)]at eZ;refine⟨_,hs,.cell b _ m _ _ h2 (fun i hi=>?_),.inr ⟨b,_,_,rfl,h2,by rw[az];exact eZ,Ti⟩,fun c e=>e⟩;unfold cellAt;rw[h4];simp only[h5,az,←hd,List.getElem?_drop]
structure rX(h0 h':H)(b:Nat)(L:List Rec)(rev comp:Nat)(v:AV)(T:Tx)(u:AV)(xs:List RV)(dE sv:AV):Prop where
 u:u= .agg (cM T.err (if T.R=[]then rev else rev+1) comp T.tk dE)
 hx:xs.map (·.1)=T.rs
 ok:iV h' dE xs
 s:jM h' b L rev comp v T.R sv 0
 oo:Og h0 h' [b]
 rb:∀c,bA dE=some c→h0.nx≤c
 xb:∀x,x∈xs→(∀c,bA x.2.1=some c→h0.nx≤c)∧(∀c,bA x.2.2=some c→h0.nx≤c)
theorem rX.bad{h0 hS h':H}{b b4 b5 rev comp err:Nat}{L:List Rec}{v:AV}(r:UP hS h' b b4 b5 L rev comp v err rev false .bh)(o:Og h0 hS [b])(l4:h0.nx≤b4)(l5:h0.nx≤b5):
  rX h0 h' b L rev comp v ⟨err,false,[],[]⟩ (.agg (cM err rev comp false .bh)) [] .bh .bh:=
 ⟨by rw[if_pos rfl],rfl,iV.nil _,r.s,⟨⟨aD o.1.1 r.nx,fun c hc hn=>by rw[r.oo c (aN hc o.1.1) (by omega) (by omega)];exact o.1.2 c hc hn⟩,r.g.trans o.2⟩,fun c e=>(by cases e),fun x hx=>(by cases hx)⟩
theorem doEnd(ZJ h0 h:H)(b b3 b4 b5 base:Nat)(L:List Rec)(rev comp:Nat)(v:AV)(rq:List AV)(tk:Bool)(R:List Rec)(wa:AV)(xs:List RV)(dE:AV)(hh:RrH h0 h b b3 b4 b5 base L rev comp v rq tk R wa xs dE)(o00:Og ZJ h0 [b])(lb0:b<ZJ.nx)(l4:ZJ.nx≤b4)(l5:ZJ.nx≤b5)(hv:∀c,bA v=some c→c<ZJ.nx)
  (tm:T AV)(t0:tm.get 0=some (.ptr b 0))(t4:tm.get 4=some (.ptr b4 0))(t5:tm.get 5=some (.ptr b5 0))(t12:tm.get 12=some (.int .u64 (.ofNat (rev+1))))(t13:tm.get 13=some wa)(Q:AV→H→Prop)
  (hQ:∀u h' sv,rX ZJ h' b L rev comp v ⟨0,tk,xs.map (·.1),R⟩ u xs dE sv→Q u h'):
  bB P 26 276 none (bL (bD Tryz.f26) [1,1,1,1,1,1,1,1,1,1,1,1,1,1,1,1]) [] tm h (nc P Tryz.f26 Q):=by
 have g1:=hh.lb;have g3:=hh.lb3;have g4:=hh.lb4;have g5:=hh.lb5;have ge:=hh.le;have gl:=hh.l0;have n4:=hh.D.n4;have n5:=hh.D.n5;have x00:=o00.1.1;have Dc:∀c,bA wa=some c→base≤c∧c<h.nx:=fun c e=>hh.ga.base e;have RC:∀c,bA dE=some c→base≤c∧c<h.nx:=fun c e=>hh.gr.base e;have vo:=hh.D.s.gv.one;have wo:=hh.ga.one;have nR:=hh.gr.one;have hlen:=hh.D.s.gv.slice.len (P:=P) jl;obtain⟨c0,c1,c2,c3,c4,c5,c6,c7⟩:=hh.D.s.c.u8;have wr:=hh.D.s.wr;have ga:=hh.ga;rw[ao,aS]at ga;obtain⟨v2,ID,s2,k2,Uw⟩:=tailR ga (by rw[B2 Rec.len]);have MB:=k2.one;have ZC:=k2.cells;have Fl:=s2.len (P:=P) jl;have v2b:∀c,bA v2=some c→base≤c∧c<h.nx:=fun c e=>Dc c (Uw c e);obtain⟨h1,cC⟩:∃h1,h1=h.cm b 6 [v2]:=⟨_,rfl⟩;have C1:=hh.D.s.c.put wr (j:=6) (by simp) v2;rw[az,←cC]at C1;have ZE:bj h1 b 0 [v,.int .u64 (.ofNat rev),.int .u64 (.ofNat comp),.int .u64 (.ofNat 0),.int .u64 (.ofNat 0),.bh,v2,.int .u64 (.ofNat 0)]:=C1;have IL:cj h1 b=true:=by rw[cC,bN];exact wr
 have k1:∀c,c≠b→h1.t.get c=h.t.get c:=fun c hc=>by rw[cC,bT _ _ _ _ hc]
 have x1:h1.nx=h.nx:=by rw[cC,bI]
 obtain⟨-,-,-,-,-,-,i6,-⟩:=ZE.u8;have A1:=hh.D.a.bG (k1 b5 (by omega));have w51:cj h1 b5=true:=by rw[bC (k1 b5 (by omega))];exact hh.D.w5
 have A41:=hh.D.a4.bG (k1 b4 (by omega));have S8:cj h1 b4=true:=by rw[bC (k1 b4 (by omega))];exact hh.D.w4
 obtain⟨f0,f1,f2,f3,f4,f5,f6,f7,f8⟩:=A41.u9;have WM:iV h dE xs:=⟨hh.gr.slice,fun x hx=>⟨(hh.ok x hx).ks,(hh.ok x hx).ps⟩⟩;have Zv:∀c,bA dE=some c→base≤c:=fun c e=>(RC c e).1;have RF:∀x,x∈xs→(∀c,bA x.2.1=some c→base≤c)∧(∀c,bA x.2.2=some c→base≤c):=fun x hx=>⟨fun c e=>((hh.ok x hx).kb c e).1,fun c e=>((hh.ok x hx).pb c e).1⟩
 -- what lies there in the end
 have fin:∀(h4:H)(r2:Nat),h4.nx=h.nx→(∀c,c≠b→c≠b4→c≠b5→h4.t.get c=h.t.get c)→h4.t.get b=h1.t.get b→h4.g=h.g→(r2=if R=[]then rev else rev+1)→rX ZJ h4 b L rev comp v ⟨0,tk,xs.map (·.1),R⟩ (.agg (cM 0 r2 comp tk dE)) xs dE v2:=fun h4 r2 x4 k4 kb gg er=>by
  have rok4:=WM.move (h':=h4) (lo:=base) (by omega) (fun c hc nI=>k4 c (by omega) (by omega) (by omega)) Zv RF;refine⟨by rw[er],rfl,rok4,⟨by omega,ZE.bG kb,by rw[bC kb];exact IL,hh.D.s.gv.bG (by omega) (fun c e=>k4 c (hh.D.s.nv c e) (by have:=hv c e;omega) (by have:=hv c e;omega)),s2.move (by omega) (fun c e=>by have:=v2b c e;exact k4 c (by omega) (by omega) (by omega)),k2.move (by omega) (fun c e=>by have:=v2b c e;exact k4 c (by omega) (by omega) (by omega)),hh.D.s.nv,fun c e=>by have:=v2b c e;omega⟩,⟨⟨by omega,fun c hc hn=>?_⟩,?_⟩,fun c e=>by have:=Zv c e;omega,fun x hx=>⟨fun c e=>by have:=(RF x hx).1 c e;omega,fun c e=>by have:=(RF x hx).2 c e;omega⟩⟩
  ·rw[k4 c (by simpa using hn) (by omega) (by omega),hh.D.oo.1.2 c (by omega) (by simp;omega)]
   exact o00.1.2 c hc hn
  ·rw[gg,hh.D.oo.2,o00.2]
 by_cases qR:R=[]
 ·have dR:decide (0<R.length)=false:=by rw[qR];rfl
  obtain⟨a0,a1,a2,a3,a4,a5,a6,a7,a8⟩:=A1.u9;obtain⟨h3,cB⟩:∃h3,h3=h1.cm b4 0 (cM 0 rev comp tk dE):=⟨_,rfl⟩;have A3:bj h3 b4 0 (cM 0 rev comp tk dE):=by rw[cB];exact bj.cm S8 _
  obtain⟨e0,e1,e2,e3,e4,e5,e6,e7,e8⟩:=A3.u9;have k3:∀c,c≠b4→h3.t.get c=h1.t.get c:=fun c hc=>by rw[cB,bT _ _ _ _ hc]
  have f:=fin h3 rev (by rw[cB,bI,x1]) (fun c h1 h2 h3=>by rw[k3 c h2,k1 c h1]) (k3 b (by omega)) (by rw[cB,dD,cC,dD]) (by rw[if_pos qR]);unfold cM at cB;refine rN ?_ (V t0<|V t4<|V t5<|V t12<|V t13<|V c0<|V vo<|V wo<|V hlen<|V @vF<|V ID<|V MB<|V ZC<|V c6<|V wr<|V cC.symm<|V i6<|V Fl<|V dR<|V a0<|V a1<|V a2<|V a3<|V a4<|V a5<|V a6<|V a7<|V a8<|V f0<|V f1<|V f2<|V f3<|V f4<|V f5<|V f6<|V f7<|V f8<|V S8<|V nR<|V cB.symm<|V e0<|V e1<|V e2<|V e3<|V e4<|V e5<|V e6<|V e7<|e8);exact hQ _ _ _ f
 ·have dR:decide (0<R.length)=true:=decide_eq_true (List.length_pos_iff.2 qR)
  obtain⟨h2,cJ⟩:∃h2,h2=h1.cm b5 1 [.int .u64 (.ofNat (rev+1))]:=⟨_,rfl⟩;have A2:=A1.put w51 (j:=1) (by simp[cM]) (.int .u64 (.ofNat (rev+1)));rw[az,←cJ]at A2;have A2':bj h2 b5 0 (cM 0 (rev+1) comp tk dE):=A2;obtain⟨a0,a1,a2,a3,a4,a5,a6,a7,a8⟩:=A2'.u9;obtain⟨-,WG,-⟩:=A1.u9;have IC:∀c,c≠b5→h2.t.get c=h1.t.get c:=fun c hc=>by rw[cJ,bT _ _ _ _ hc]
  have ug:cj h2 b4=true:=by rw[bC (IC b4 n4)];exact S8
  obtain⟨p0,p1,p2,p3,p4,p5,p6,p7,p8⟩:=(A41.bG (IC b4 n4)).u9;obtain⟨h3,cB⟩:∃h3,h3=h2.cm b4 0 (cM 0 (rev+1) comp tk dE):=⟨_,rfl⟩;have A3:bj h3 b4 0 (cM 0 (rev+1) comp tk dE):=by rw[cB];exact bj.cm ug _
  obtain⟨e0,e1,e2,e3,e4,e5,e6,e7,e8⟩:=A3.u9;have k3:∀c,c≠b4→h3.t.get c=h2.t.get c:=fun c hc=>by rw[cB,bT _ _ _ _ hc]
  have f:=fin h3 (rev+1) (by rw[cB,bI,cJ,bI,x1]) (fun c h1 h2 h3=>by rw[k3 c h2,IC c h3,k1 c h1]) (by rw[k3 b (by omega),IC b (by omega)]) (by rw[cB,dD,cJ,dD,cC,dD]) (by rw[if_neg qR]);unfold cM at cB;refine rN ?_ (V t0<|V t4<|V t5<|V t12<|V t13<|V c0<|V vo<|V wo<|V hlen<|V @vF<|V ID<|V MB<|V ZC<|V c6<|V wr<|V cC.symm<|V i6<|V Fl<|V dR<|V WG<|V w51<|V cJ.symm<|V a0<|V a1<|V a2<|V a3<|V a4<|V a5<|V a6<|V a7<|V a8<|V p0<|V p1<|V p2<|V p3<|V p4<|V p5<|V p6<|V p7<|V p8<|V ug<|V nR<|V cB.symm<|V e0<|V e1<|V e2<|V e3<|V e4<|V e5<|V e6<|V e7<|e8);exact hQ _ _ _ f
def iW(i k:Nat)(x y:Op):Bool:=(x.kind== .ofNat 1)&&((!decide (k=i)&&(y.kind== .ofNat 1)&&decide (y.key=x.key))||((y.kind== .ofNat 2)&&fL x.key y.key y.fin))
def Tw(l:List Op):Prop:=∃(i k:Nat)(x y:Op),l[i]? =some x∧l[k]? =some y∧iW i k x y=true
structure TwI(h0:H)(va:AV)(l:List Op)(m:Nat)(ds:List Nat)(tm:T AV)(h:H)(i:Nat):Prop where
 ds:ds=[]
 nn:m=l.length-i
 ii:i≤l.length
 t0:tm.get 0=some va
 t3:tm.get 3=some (.int .i64 (.ofNat i))
 no:∀j k x y,j<i→l[j]? =some x→l[k]? =some y→iW j k x y=false
 oo:Og h0 h []
structure TxI(h0:H)(va:AV)(l:List Op)(i:Nat)(x:Op)(m:Nat)(ds:List Nat)(tm:T AV)(h:H)(k:Nat):Prop where
 ds:ds=[]
 nn:m=l.length-k
 kk:k≤l.length
 t0:tm.get 0=some va
 t3:tm.get 3=some (.int .i64 (.ofNat i))
 t4:tm.get 4=some (.int .i64 (.ofNat k))
 no:∀j y,j<k→l[j]? =some y→iW i j x y=false
 oo:Og h0 h []
theorem UR(h0:H)(va:AV)(l:List Op)(sl:br h0 va l.length (l.flatMap Op.cs))(hz:l.length≤1000000):bW P (.enter 64 [va] h0) (fun v h'=>∃b,cQ h0 (.bool b) v h'∧(b=true↔Tw l)):=by
 have hlen:=sl.len (P:=P) vK;refine bn (fn:=Tryz.f64) (c:=bD Tryz.f64) Tryz.func64 rfl ?_;show bB P 64 75 none _ _ _ _ _;refine bp ?_;refine kM ?_;refine cn (fun m ds tm h=>∃i,TwI h0 va l m ds tm h i) l.length rfl ⟨0,rfl,rfl,aA _,by exact sT,by exact sT,fun j k x y hj=>absurd hj (by omega),Og.refl _ _⟩ (fun m ds tm h hI=>?_);obtain⟨i,rfl,rfl,ii,t0,t3,no,oo⟩:=hI;by_cases hi:i<l.length
 ·have di:decide (i<l.length)=true:=decide_eq_true hi
  have dX:(i<l.length)=True:=by simp[hi]
  obtain⟨x,hx⟩:∃x,l[i]? =some x:=⟨_,aw hi⟩;have wi:bV .i64 (au i+au 1)=au (i+1):=cq (by omega);refine rN ?_ (V t0<|V t3<|V hlen<|di);refine cn (fun m ds tm h=>∃k,TxI h0 va l i x m ds tm h k) l.length rfl ⟨0,rfl,rfl,aA _,by exact sT,by exact sT,by exact sT,fun j y hj=>absurd hj (by omega),oo⟩ (fun m ds tm h hI=>?_);clear t0 t3 oo;obtain⟨k,rfl,rfl,kk,t0,t3,t4,no2,oo⟩:=hI;have jk:=br.only oo.1 sl (fun _ _=>by simp);have next:(∀y k,l[k]? =some y→iW i k x y=false)→∀j k x' y,j<i+1→l[j]? =some x'→l[k]? =some y→iW j k x' y=false:=fun hA j k' x' y hj h1 h2=>by
   by_cases e:j<i
   ·exact no j k' x' y e h1 h2
   ·obtain rfl:j=i:=by omega
    rw[hx]at h1;cases h1;exact hA y k' h2
  have IJ:=jk;obtain⟨bv,ov,cv,rfl,qw,-⟩:=sl.place (by omega);obtain⟨q0,q1,q2,q3,q4,q5,q6,q7,q8⟩:=Op.at jk hx;by_cases hk:k<l.length
  ·have dk:decide (k<l.length)=true:=decide_eq_true hk
   have uv:(k<l.length)=True:=by simp[hk]
   obtain⟨y,hy⟩:∃y,l[k]? =some y:=⟨_,aw hk⟩;obtain⟨p0,p1,p2,p3,p4,p5,p6,p7,p8⟩:=Op.at jk hy;have wk:bV .i64 (au k+au 1)=au (k+1):=cq (by omega);cases e1:x.kind== .ofNat 1 with
   |false=>
    refine rN ?_ (V t0<|V t3<|V t4<|V hlen<|V dk<|V dX<|V q0<|V e1<|wi);refine⟨l.length-(i+1),by omega,i+1,rfl,rfl,by omega,by exact sT,by exact sT,next (fun y k h=>by unfold iW;rw[e1];rfl),oo⟩
   | true=>
    have yes:iW i k x y=true→Tw l:=fun h=>⟨i,k,x,y,hx,hy,h⟩;have ee:iW i k x y=((!decide (k=i)&&(y.kind== .ofNat 1)&&decide (y.key=x.key))||((y.kind== .ofNat 2)&&fL x.key y.key y.fin)):=by unfold iW;rw[e1];rfl
    have step:∀bZ:T AV,iW i k x y=false→bZ.get 0=some (AV.slice bv ov l.length cv)→bZ.get 3=some (.int .i64 (.ofNat i))→bZ.get 4=some (.int .i64 (.ofNat (k+1)))→∀h6,Og h0 h6 []→∃m,m<l.length-k∧∃k,TxI h0 (AV.slice bv ov l.length cv) l i x m [] bZ h6 k:=fun bZ ef g0 g3 g4 h6 o6=>
     ⟨l.length-(k+1),by omega,k+1,rfl,rfl,by omega,g0,g3,g4,fun j y' hj hy'=>by
      by_cases e:j<k
      ·exact no2 j y' e hy'
      ·obtain rfl:j=k:=by omega
       rw[hy]at hy';cases hy';exact ef,o6⟩
    by_cases hki:k=i
    ·have zD:decide (k=i)=true:=decide_eq_true hki
     cases e4:y.kind== .ofNat 2 with
     |false=>
      have ef:iW i k x y=false:=by rw[ee];simp only[zD,e4,an,al,aK,aG,aL,aP,aQ,aR,aM,aV]
      refine rT ?_ (V t0<|V t3<|V t4<|V hlen<|V dk<|V dX<|V uv<|V q0<|V q1<|V q2<|V q3<|V e1<|V p0<|V p1<|V p2<|V p3<|V @an<|V @al<|V wk<|V zD<|e4);exact step _ ef (by exact sT) (by exact sT) (by exact sT) _ oo
     | true=>
      refine rT ?_ (V t0<|V t3<|V t4<|V hlen<|V dk<|V dX<|V uv<|V q0<|V q1<|V q2<|V q3<|V e1<|V p0<|V p1<|V p2<|V p3<|V @an<|V @al<|V wk<|V zD<|e4);refine((inC h x.key y.key y.fin).call P).mono P ?_;rintro _ h6 ⟨rfl,o6⟩;have I0:=br.only o6.1 IJ (fun _ _=>by simp);obtain⟨RL,UJ,UK,UL,q4',q5',q6',Um,q8'⟩:=Op.at I0 hx;obtain⟨UM,PE,UN,UO,p4',p5',p6',p7',ZI⟩:=Op.at I0 hy;cases e5:fL x.key y.key y.fin with
      |false=>
       have ef:iW i k x y=false:=by rw[ee];simp only[zD,e4,e5,an,al,aK,aG,aL,aP,aQ,aR,aM,aV]
       refine rT ?_ (V t0<|V t3<|V t4<|V hlen<|V dk<|V dX<|V uv<|V q0<|V q1<|V q2<|V q3<|V e1<|V p0<|V p1<|V p2<|V p3<|V @an<|V @al<|V wk<|V RL<|V UJ<|V UK<|V UL<|V UM<|V PE<|V UN<|V UO<|V zD<|e4);exact step _ ef (by exact sT) (by exact sT) (by exact sT) _ (oo.t o6)
      |true=>
       have et:iW i k x y=true:=by rw[ee];simp only[zD,e4,e5,an,al,aK,aG,aL,aP,aQ,aR,aM,aV]
       refine rT ?_ (V t0<|V t3<|V t4<|V hlen<|V dk<|V dX<|V uv<|V q0<|V q1<|V q2<|V q3<|V e1<|V p0<|V p1<|V p2<|V p3<|V @an<|V @al<|V wk<|V RL<|V UJ<|V UK<|V UL<|V UM<|V PE<|V UN<|V UO<|V zD<|e4);exact⟨true,⟨rfl,oo.t o6⟩,fun _=>yes et,fun _=>rfl⟩
    ·have zD:decide (k=i)=false:=decide_eq_false hki
     cases e2:y.kind== .ofNat 1 with
     | false=>
      cases e4:y.kind== .ofNat 2 with
      |false=>
       have ef:iW i k x y=false:=by rw[ee];simp only[zD,e2,e4,an,al,aK,aG,aL,aP,aQ,aR,aM,aV]
       refine rT ?_ (V t0<|V t3<|V t4<|V hlen<|V dk<|V dX<|V uv<|V q0<|V q1<|V q2<|V q3<|V e1<|V p0<|V p1<|V p2<|V p3<|V @an<|V @al<|V wk<|V zD<|V e2<|e4);exact step _ ef (by exact sT) (by exact sT) (by exact sT) _ oo
      | true=>
       refine rT ?_ (V t0<|V t3<|V t4<|V hlen<|V dk<|V dX<|V uv<|V q0<|V q1<|V q2<|V q3<|V e1<|V p0<|V p1<|V p2<|V p3<|V @an<|V @al<|V wk<|V zD<|V e2<|e4);refine((inC h x.key y.key y.fin).call P).mono P ?_;rintro _ h6 ⟨rfl,o6⟩;have I0:=br.only o6.1 IJ (fun _ _=>by simp);obtain⟨RL,UJ,UK,UL,q4',q5',q6',Um,q8'⟩:=Op.at I0 hx;obtain⟨UM,PE,UN,UO,p4',p5',p6',p7',ZI⟩:=Op.at I0 hy;cases e5:fL x.key y.key y.fin with
       |false=>
        have ef:iW i k x y=false:=by rw[ee];simp only[zD,e2,e4,e5,an,al,aK,aG,aL,aP,aQ,aR,aM,aV]
        refine rT ?_ (V t0<|V t3<|V t4<|V hlen<|V dk<|V dX<|V uv<|V q0<|V q1<|V q2<|V q3<|V e1<|V p0<|V p1<|V p2<|V p3<|V @an<|V @al<|V wk<|V RL<|V UJ<|V UK<|V UL<|V UM<|V PE<|V UN<|V UO<|V zD<|V e2<|e4);exact step _ ef (by exact sT) (by exact sT) (by exact sT) _ (oo.t o6)
       |true=>
        have et:iW i k x y=true:=by rw[ee];simp only[zD,e2,e4,e5,an,al,aK,aG,aL,aP,aQ,aR,aM,aV]
        refine rT ?_ (V t0<|V t3<|V t4<|V hlen<|V dk<|V dX<|V uv<|V q0<|V q1<|V q2<|V q3<|V e1<|V p0<|V p1<|V p2<|V p3<|V @an<|V @al<|V wk<|V RL<|V UJ<|V UK<|V UL<|V UM<|V PE<|V UN<|V UO<|V zD<|V e2<|e4);exact⟨true,⟨rfl,oo.t o6⟩,fun _=>yes et,fun _=>rfl⟩
     | true=>
      by_cases e3:y.key=x.key
      ·have d3:decide (y.key=x.key)=true:=decide_eq_true e3
       have et:iW i k x y=true:=by rw[ee];simp only[zD,e2,d3,an,al,aK,aG,aL,aP,aQ,aR,aM,aV]
       refine rT ?_ (V t0<|V t3<|V t4<|V hlen<|V dk<|V dX<|V uv<|V q0<|V q1<|V q2<|V q3<|V e1<|V p0<|V p1<|V p2<|V p3<|V @an<|V @al<|V wk<|V zD<|V e2<|d3);exact⟨true,⟨rfl,oo⟩,fun _=>yes et,fun _=>rfl⟩
      ·have d3:decide (y.key=x.key)=false:=decide_eq_false e3
       cases e4:y.kind== .ofNat 2 with
       |false=>
        have ef:iW i k x y=false:=by rw[ee];simp only[zD,e2,d3,e4,an,al,aK,aG,aL,aP,aQ,aR,aM,aV]
        refine rT ?_ (V t0<|V t3<|V t4<|V hlen<|V dk<|V dX<|V uv<|V q0<|V q1<|V q2<|V q3<|V e1<|V p0<|V p1<|V p2<|V p3<|V @an<|V @al<|V wk<|V zD<|V e2<|V d3<|e4);exact step _ ef (by exact sT) (by exact sT) (by exact sT) _ oo
       | true=>
        refine rT ?_ (V t0<|V t3<|V t4<|V hlen<|V dk<|V dX<|V uv<|V q0<|V q1<|V q2<|V q3<|V e1<|V p0<|V p1<|V p2<|V p3<|V @an<|V @al<|V wk<|V zD<|V e2<|V d3<|e4);refine((inC h x.key y.key y.fin).call P).mono P ?_;rintro _ h6 ⟨rfl,o6⟩;have I0:=br.only o6.1 IJ (fun _ _=>by simp);obtain⟨RL,UJ,UK,UL,q4',q5',q6',Um,q8'⟩:=Op.at I0 hx;obtain⟨UM,PE,UN,UO,p4',p5',p6',p7',ZI⟩:=Op.at I0 hy;cases e5:fL x.key y.key y.fin with
        |false=>
         have ef:iW i k x y=false:=by rw[ee];simp only[zD,e2,d3,e4,e5,an,al,aK,aG,aL,aP,aQ,aR,aM,aV]
         refine rT ?_ (V t0<|V t3<|V t4<|V hlen<|V dk<|V dX<|V uv<|V q0<|V q1<|V q2<|V q3<|V e1<|V p0<|V p1<|V p2<|V p3<|V @an<|V @al<|V wk<|V RL<|V UJ<|V UK<|V UL<|V UM<|V PE<|V UN<|V UO<|V zD<|V e2<|V d3<|e4);exact step _ ef (by exact sT) (by exact sT) (by exact sT) _ (oo.t o6)
        |true=>
         have et:iW i k x y=true:=by rw[ee];simp only[zD,e2,d3,e4,e5,an,al,aK,aG,aL,aP,aQ,aR,aM,aV]
         refine rT ?_ (V t0<|V t3<|V t4<|V hlen<|V dk<|V dX<|V uv<|V q0<|V q1<|V q2<|V q3<|V e1<|V p0<|V p1<|V p2<|V p3<|V @an<|V @al<|V wk<|V RL<|V UJ<|V UK<|V UL<|V UM<|V PE<|V UN<|V UO<|V zD<|V e2<|V d3<|e4);exact⟨true,⟨rfl,oo.t o6⟩,fun _=>yes et,fun _=>rfl⟩
  ·have dk:decide (k<l.length)=false:=decide_eq_false hk
   obtain rfl:k=l.length:=by omega
   refine rN ?_ (V t0<|V t3<|V t4<|V hlen<|V dk<|wi);refine⟨l.length-(i+1),by omega,i+1,rfl,rfl,by omega,by exact sT,by exact sT,next (fun y k h=>no2 k y (List.getElem?_eq_some_iff.1 h).1 h),oo⟩
 ·have di:decide (i<l.length)=false:=decide_eq_false hi
  obtain rfl:i=l.length:=by omega
  refine rN ?_ (V t0<|V t3<|V hlen<|di);refine⟨false,⟨rfl,oo⟩,⟨fun h=>(by cases h),fun⟨j,k,x,y,h1,h2,h3⟩=>?_⟩⟩;rw[no j k x y (List.getElem?_eq_some_iff.1 h1).1 h1 h2]at h3;exact h3
theorem Ch{rev comp:Nat}:∀{l:List Op},gY rev comp l=0→∀o,o∈l→iG o rev comp=0
 |[],_,o,h=>by cases h
 | a::l,hf,o,h=>by
  unfold gY at hf;by_cases q:iG a rev comp=0
  ·rw[if_pos q]at hf
   rcases List.mem_cons.1 h with rfl|h
   ·exact q
   ·exact Ch hf o h
  ·rw[if_neg q]at hf;exact absurd hf q
def US(l:List Op):Prop:=Tw l↔TwP l
theorem doC(h0:H)(b:Nat)(L:List Rec)(rev comp:Nat)(v:AV)(S:List Rec)(sv:AV)(yL:Nat)(s:jM h0 b L rev comp v S sv yL)(r:Rq)(vc vt ve:AV)(ra:ua h0 r vc vt ve)(UT:bA vc≠some b∧bA vt≠some b∧bA ve≠some b)
  (hm:∀x,x∈L→x.main≤rev)(hr:rev≤1000000)(hs:dI L)(JC:L.length≤200000)(htw:∀tk,US (jP r tk))
  (hB:∀tk i,i≤(jP r tk).length→dI (fy rev L ((jP r tk).take i)).2∧(fy rev L ((jP r tk).take i)).2.length≤200000):
  bW P (.enter 26 [.ptr b 0,.agg (r.cs vc vt ve)] h0) fun u h'=>∃xs dE UU,rX h0 h' b L rev comp v (e_ rev comp L r) u xs dE UU:=by
 have oc:=cH ra.sc;have ot:=cH ra.st;have oe:=cH ra.se;have lb:=s.lt;have De:∀c,bA v=some c→c<h0.nx:=fun c e=>(s.gv.base e).2;have hsv:∀c,bA sv=some c→c<h0.nx:=gz s.ss;have bx:=EM h0 r vc vt ve oc ot oe;obtain⟨h1,cC⟩:∃h1,h1=h0.bq 38 (r.cs vc vt ve):=⟨_,rfl⟩;rw[←cC]at bx;have o1:Og h0 h1 []:=by rw[cC];exact(Og.refl _ _).new _ _
 have x1:h1.nx=h0.nx+1:=by rw[cC];rfl
 have Y1:bj h1 h0.nx 0 (r.cs vc vt ve):=by rw[cC];exact bj.new _ _ _
 obtain⟨h2,cJ,o2,x2,ug,A2⟩:=Cc h1;have f_:=o1.t o2;have s2:=s.bU f_;have Y2:=gC Y1 o2 (by omega) (by simp);obtain⟨c0,c1,c2,c3,c4,c5,c6,c7⟩:=s2.c.u8;have Jy:=s2.wr;obtain⟨h3,cB⟩:∃h3,h3=(h2.cm b 6 [.bh]).cm b 7 [.int .u64 (.ofNat 0)]:=⟨_,rfl⟩;have C3:=(s2.c.put Jy (j:=6) (by simp) .bh).put (by rw[bN];exact Jy) (j:=7) (by simp) (.int .u64 (.ofNat 0));rw[az,az,←cB]at C3;have WR:bj h3 b 0 [v,.int .u64 (.ofNat rev),.int .u64 (.ofNat comp),.int .u64 (.ofNat 0),.int .u64 (.ofNat 0),.bh,.bh,.int .u64 (.ofNat 0)]:=C3;have w3:cj h3 b=true:=by rw[cB,bN,bN];exact Jy
 have k3:∀c,c≠b→h3.t.get c=h2.t.get c:=fun c hc=>by rw[cB,bT _ _ _ _ hc,bT _ _ _ _ hc]
 have x3:h3.nx=h2.nx:=by rw[cB,bI,bI]
 have s3:jM h3 b L rev comp v [] .bh 0:=⟨by omega,WR,w3,s2.gv.bG (by omega) (fun c e=>k3 c (s.nv c e)),.none,.inl ⟨.inl rfl,rfl,rfl⟩,s.nv,fun c e=>by cases e⟩;have wF:Og h0 h3 [b]:=by rw[cB];exact(((f_.s1 (Og.refl h2 [b])).cm (.inl (by simp))).cm (.inl (by simp)))
 obtain⟨i0,i1,i2,i3,i4,i5,i6,i7⟩:=WR.u8;have A3:=A2.bG (k3 h1.nx (by omega));have qy:cj h3 h1.nx=true:=by rw[bC (k3 h1.nx (by omega))];exact ug
 have Y3:=Y2.bG (k3 h0.nx (by omega));obtain⟨h4,dm⟩:∃h4,h4=(h3.bq 33 [.int .i64 (.ofNat 0),.int .u64 (.ofNat 0),.int .u64 (.ofNat 0),.bool false,.bh,.int .u32 (.ofNat 0),.int .u64 (.ofNat 0),.int .u64 (.ofNat 0),.int .i64 (.ofNat 0)]).cm h3.nx 0 (cM 0 rev comp false .bh):=⟨_,rfl⟩;have o4:Og h3 h4 []:=by rw[dm];exact((Og.refl _ _).new _ _).cm (.inr (ak _))
 have x4:h4.nx=h3.nx+1:=by rw[dm,bI,dt]
 have A54:bj h4 h3.nx 0 (cM 0 rev comp false .bh):=by rw[dm];exact bj.box _ _ _ _
 have w54:cj h4 h3.nx=true:=by rw[dm];exact F8 _ _ _ _
 have D4:zC h4 h4 b h0.nx h1.nx h3.nx L rev comp v (r.cs vc vt ve) 0 false .bh:=
  ⟨s3.bU o4,gC Y3 o4 (by omega) (by simp),A54,w54,Og.refl _ _,by omega,by omega,by omega,by omega,fun c e=>by have:=De c e;omega,gC A3 o4 (by omega) (by simp),kw qy o4 (by omega) (by simp),by omega,by omega⟩
 have rJ:Og h0 h4 [b]:=⟨⟨by have:=wF.1.1;omega,fun c hc hn=>by rw[o4.1.2 c (by omega) (by simp)];exact wF.1.2 c hc hn⟩,o4.2.trans wF.2⟩;have nbV:∀(w:AV)(n:Nat)(cs:List AV),br h0 w n cs→bA w≠some b→br h4 w n cs:=fun w n cs sl hn=>sl.move rJ.1.1 (fun c e=>rJ.1.2 c (gz sl c e) (by simp;intro q;subst q;exact hn e));have n1:(b=h3.nx)=False:=by simp;omega
 have ra4:ua h4 r vc vt ve:=⟨nbV vc _ _ ra.sc UT.1,nbV vt _ _ ra.st UT.2.1,nbV ve _ _ ra.se UT.2.2,ra.zc,ra.zt,ra.ze⟩;have hvc:∀c,bA vc=some c→c<h0.nx:=gz ra.sc;have hvt:∀c,bA vt=some c→c<h0.nx:=gz ra.st;have hve:∀c,bA ve=some c→c<h0.nx:=gz ra.se;obtain⟨q0,q1,q2,q3,q4,q5,q6,q7⟩:=D4.q.u8;unfold cM at dm;have hb4:b≠h1.nx:=by omega
 have hv4:∀c,bA v=some c→c≠h1.nx:=fun c e=>by have:=De c e;omega
 -- an error is returned
 have bad:∀(hE:H)(e:Nat),UP h4 hE b h1.nx h3.nx L rev comp v e rev false .bh→e_ rev comp L r=⟨e,false,[],[]⟩→∃xs dE UU,rX h0 hE b L rev comp v (e_ rev comp L r) (.agg (cM e rev comp false .bh)) xs dE UU:=fun hE e rt et=>by
  rw[et];exact⟨[],.bh,.bh,rX.bad rt rJ (by omega) (by omega)⟩
 refine bn (fn:=Tryz.f26) (c:=bD Tryz.f26) Tryz.func26 rfl ?_;show bB P 26 276 none _ _ _ _ _;refine bp ?_;repeat' (first|((with_reducible refine gh ?_);(conv =>whnf);(with_reducible refine⟨?_⟩))|((with_reducible refine cV jC ?_ rfl rfl ?_);exact rfl;(conv =>arg 4;whnf);(conv =>arg 3;whnf))|((with_reducible refine cV jD ?_ rfl rfl ?_);exact rfl;(conv =>arg 4;whnf);(conv =>arg 3;whnf))|((with_reducible refine cV jE ?_ rfl rfl ?_);exact rfl;(conv =>arg 4;whnf);(conv =>arg 3;whnf))|((with_reducible refine fh ?_ rfl rfl ?_ ?_);exact rfl;kernel_rfl;(conv =>arg 5;whnf);(conv =>arg 3;whnf))|((with_reducible refine bE rfl ?_);(conv =>arg 2;whnf))|((with_reducible first|refine iB ?_ ?_|refine g_ ?_ ?_|refine hP ?_ ?_|refine pL ?_ ?_|refine pM ?_ ?_)<;>intro hb<;>(try simp only[hb]))|((with_reducible show dh _ _ _ _ _ _ _ _ _);first|((with_reducible apply gM);exact rfl;exact rfl)|((with_reducible apply gN);exact rfl;exact rfl;exact rfl)|((with_reducible apply gP);exact rfl;exact rfl;kernel_rfl)|((with_reducible apply gQ);exact rfl;exact rfl;exact rfl)|((with_reducible apply gT);exact rfl;exact rfl;exact rfl)|((with_reducible apply gR);exact rfl;exact rfl;kernel_rfl;exact rfl)|((with_reducible apply gS);exact rfl;exact rfl;kernel_rfl;exact rfl)|((with_reducible refine gL ?_ ?_)))|((with_reducible show cU _ _ _ _ _ _ _ _ _);first|((with_reducible refine fj ?_ ?_);exact rfl)|((with_reducible apply fm);exact rfl;exact rfl)|((with_reducible refine fo ?_ ?_ ?_);exact rfl;kernel_rfl)|((with_reducible apply fp);exact rfl;exact rfl)|((with_reducible refine fq ?_ ?_ ?_ ?_ ?_);exact rfl;kernel_rfl;exact rfl)|((with_reducible apply ft);exact rfl;kernel_rfl;exact rfl)|((with_reducible refine fi ?_ ?_)))|((with_reducible show il _ _ _ _ _ _);first|(exact cK)|(refine eB ?_ ?_ ?_;exact rfl)|(apply eC;exact rfl;exact rfl)|(refine eD ?_ ?_ ?_ ?_;exact rfl;kernel_rfl)|(apply eF;exact rfl)|(apply eE;exact rfl;exact rfl))|((with_reducible refine bX ?_);kernel_rfl)|(simp only[B,xB,F,ab,ae,af,ag,ah,ai, ↓reduceIte,eq_self,bx,cJ,c6,c7,Jy,←cB,i1,i2,n1,←dm,q0,q1,q2,q3,q4,q5,q6,q7,oc,ot,oe]))
 refine((IB h4 r vc vt ve ra4).call P).mono P ?_;rintro _ h5 ⟨rfl,o5⟩;have D5:=D4.bU o5;obtain⟨e,he⟩:∃e,e=cW r:=⟨_,rfl⟩;rw[←he]
 -- an error is put and returned
 by_cases qe:e=0
 ·have de:decide (e=0)=true:=decide_eq_true qe
  subst qe;have xZ:cW r=0:=he.symm;refine oq ?_ (@sc [0,1,1,1,1,1,1]) (V de<|@an);refine⟨?_⟩;refine RK h4 h5 b h0.nx h1.nx h3.nx L rev comp v r vc vt ve D5 ra4.sc ra.zc (by omega) (fun c e=>by have:=hvc c e;omega) _ (by exact sT) (by exact sT) (by exact sT) (by exact sT) (by exact sT) _ ?_;intro bZ h6 g0 g3 g4 g5 g6 D6;obtain⟨tk,Gv⟩:∃tk,tk=UD rev L r:=⟨_,rfl⟩;have UE:(!r.eO.any (jm (dg rev L)))=tk:=Gv.symm;rw[UE]at g6;obtain⟨p0,p1,p2,p3,p4,p5,p6,p7⟩:=D6.q.u8;have k6:∀c,c<h4.nx→c≠h3.nx→h6.t.get c=h4.t.get c:=fun c hc hn=>D6.oo.1.2 c hc (by simp[hn]);have x6:=D6.oo.1.1;obtain⟨va,WO,sva,Zx,ova⟩:∃va,va=(if tk then vt else ve)∧br h4 va (jP r tk).length ((jP r tk).flatMap Op.cs)∧(jP r tk).length≤1000000∧va.one=true:=by
   refine⟨_,rfl,?_⟩;unfold jP;cases tk
   ·exact⟨ra4.se,ra.ze,oe⟩
   ·exact⟨ra4.st,ra.zt,ot⟩
  have KW:∀c,bA va=some c→c<h0.nx:=fun c e=>by
   rw[WO]at e;cases tk
   ·exact hve c e
   ·exact hvt c e
  have rest:∀tm:T AV,tm.get 0=some (.ptr b 0)→tm.get 4=some (.ptr h1.nx 0)→tm.get 5=some (.ptr h3.nx 0)→tm.get 6=some (.bool tk)→tm.get 10=some va→
    bB P 26 276 none (bL (bD Tryz.f26) [1,1,1,1,1,1,1,1,1]) [] tm h6 (nc P Tryz.f26 fun u h'=>∃xs dE UU,rX h0 h' b L rev comp v (e_ rev comp L r) u xs dE UU):=by
   clear g0 g3 g4 g5 g6;intro tm t0 t4 t5 t6 t10;have sv6:=sva.move x6 (fun c e=>k6 c (by have:=KW c e;omega) (by have:=KW c e;omega));refine rN ?_ (V t0<|V t4<|V t5<|V t6<|t10);refine((UR h6 va (jP r tk) sv6 Zx).call P).mono P ?_;rintro _ h7 ⟨bt,⟨rfl,o7⟩,hb⟩;have D7:=D6.bU o7;have Zy:bt=twB (jP r tk):=by rw[Bool.eq_iff_iff,hb,MG];exact htw tk
   cases bt with
   |true=>
    have et:e_ rev comp L r=⟨12,false,[],[]⟩:=by unfold e_;rw[if_pos xZ,←Gv,←Zy];rfl
    have D8:=D7.put 12;obtain⟨h8,oz⟩:∃h8,h8=h7.cm h3.nx 0 [.int .i64 (.ofNat 12)]:=⟨_,rfl⟩;rw[←oz]at D8;obtain⟨a0,-⟩:=D7.a.u9;have w5:=D7.w5;obtain⟨b0,b1,b2,ZH,RE,UA,b6,b7,b8⟩:=D8.a.u9;obtain⟨f0,f1,f2,f3,f4,f5,f6,f7,f8⟩:=D8.a4.u9;have w4:=D8.w4;obtain⟨h9,wH⟩:∃h9,h9=h8.cm h1.nx 0 (cM 12 rev comp false .bh):=⟨_,rfl⟩;have rt:=D8.ret wH hb4 hv4;obtain⟨u0,u1,u2,u3,u4,u5,u6,u7,u8⟩:=rt.a4.u9;unfold cM at wH;refine rN ?_ (V t4<|V t5<|V a0<|V w5<|V oz.symm<|V b0<|V b1<|V b2<|V ZH<|V RE<|V UA<|V b6<|V b7<|V b8<|V f0<|V f1<|V f2<|V f3<|V f4<|V f5<|V f6<|V f7<|V f8<|V w4<|V wH.symm<|V u0<|V u1<|V u2<|V u3<|V u4<|V u5<|V u6<|V u7<|u8);exact bad h9 12 rt et
   | false=>
    refine Iy ?_ (@sc [0,1,1,1,1,1,1,1,1,1,1]);refine⟨?_⟩;refine Ov h4 h7 b h0.nx h1.nx h3.nx L rev comp v _ tk (jP r tk) va D7 sva Zx (fun c e=>by have:=KW c e;omega) hb4 hv4 (rV xZ tk) _ (by exact sT) (by exact sT) (by exact sT) (by exact sT) (by exact sT) _ ?_ ?_
    ·intro bZ hA g4 rt hf
     clear t0 t4 t5 t6 t10;have et:e_ rev comp L r=⟨gY rev comp (jP r tk),false,[],[]⟩:=by unfold e_;rw[if_pos xZ,←Gv,←Zy,if_neg (by simp),if_neg hf]
     obtain⟨u0,u1,u2,u3,u4,u5,u6,u7,u8⟩:=rt.a4.u9;refine rN ?_ (V g4<|V u0<|V u1<|V u2<|V u3<|V u4<|V u5<|V u6<|V u7<|u8);exact bad hA _ rt et
    ·intro bZ hA g0 g4 g5 g6 zu DA hf
     clear t0 t4 t5 t6 t10;obtain⟨l,hl⟩:∃l,l=jP r tk:=⟨_,rfl⟩;have et:e_ rev comp L r=⟨0,tk,(fy rev L l).1,(fy rev L l).2⟩:=by unfold e_;rw[if_pos xZ,←Gv,←Zy,if_neg (by simp),if_pos hf,hl]
     rw[et];obtain⟨WQ,ZG,-⟩:=DA.s.c.u8;obtain⟨a0,a1,a2,a3,a4,-⟩:=DA.a.u9;have w5:=DA.w5;have vo:=DA.s.gv.one;have xA:=DA.oo.1.1;have IL:bV .u64 (au rev+au 1)=au (rev+1):=sC (by omega);obtain⟨hC,RG⟩:∃hC,hC=hA.cm h3.nx 3 [.bool tk]:=⟨_,rfl⟩;have kC:∀c,c≠h3.nx→hC.t.get c=hA.t.get c:=fun c hc=>by rw[RG,bT _ _ _ _ hc]
     have xC:hC.nx=hA.nx:=by rw[RG,bI]
     have AC:bj hC h3.nx 0 (cM 0 rev comp tk .bh):=by
      have:=DA.a.put w5 (j:=3) (by simp[cM]) (.bool tk);rw[az,←RG]at this;exact this
     have DC:zC h4 hC b h0.nx h1.nx h3.nx L rev comp v (r.cs vc vt ve) 0 tk .bh:=
      ⟨⟨by omega,DA.s.c.bG (kC b (by omega)),by rw[bC (kC b (by omega))];exact DA.s.wr,DA.s.gv.bG (by omega) (fun c e=>kC c (by have:=De c e;omega)),.none,.inl ⟨.inl rfl,rfl,rfl⟩,DA.s.nv,DA.s.ns⟩,DA.q.bG (kC h0.nx (by omega)),AC,by rw[RG,bN];exact w5,by rw[RG];exact DA.oo.cm (.inl (by simp)),by omega,by omega,by omega,by omega,fun c e=>by have:=De c e;omega,DA.a4.bG (kC h1.nx (by omega)),by rw[bC (kC h1.nx (by omega))];exact DA.w4,by omega,by omega⟩
     obtain⟨e0,e1,-⟩:=DC.s.c.u8;refine rN ?_ (V g0<|V g4<|V g5<|V g6<|V zu<|V a3<|V w5<|V RG.symm<|V e0<|V e1<|V IL<|vo);refine FZ (base:=hC.nx) (n0:=0) (cs0:=[]) (by omega) jl i45 bK.none DC.s.gv (ak _) (by omega) (fun v1 hD g1 x1' Oq bl1 gg1=>?_);rw[az,List.nil_append]at g1;have WN:=g1.one;have oD:Og hC hD []:=⟨⟨x1',fun c hc _=>Oq c hc (by simp[bA])⟩,gg1⟩;have DD:=DC.bU oD;refine oq ?_ (@sc [0,1,1,1,1,1,1,1,1,1,1,1,1,1,1,1]) (WN);refine⟨?_⟩;have hBl:=hB tk;rw[←hl]at hBl;have hh0:RrH h4 hD b h0.nx h1.nx h3.nx hC.nx L rev comp v (r.cs vc vt ve) tk [] v1 [] .bh:=
      ⟨DD,by rw[aq];exact g1,.none,fun x hx=>(by cases hx),fun c e=>(by cases e),by omega,by omega,by omega,by omega,fun c e=>by have:=De c e;omega,by omega,x1'⟩
     refine RP h4 hD b h0.nx h1.nx h3.nx hC.nx L rev comp v _ tk l va v1 hh0 (by rw[hl];exact sva) (fun c e=>by have:=KW c e;omega) (by rw[hl];exact Zx) hs JC (by omega) hBl (by rw[hl];exact rV xZ tk) (by rw[hl];exact Ch hf) _ (by exact sT) (by exact sT) (by exact sT) (by exact sT) (by exact sT) (by exact sT) _ ?_;intro Gu hE wa xs dE f0 f4 f5 f12 f13 MF hhE;refine Iy ?_ (@sc [1,1,1,1,1,1,1,1,1,1,1,1,1,1,1,1]);refine⟨?_⟩;refine doEnd h0 h4 hE b h0.nx h1.nx h3.nx hC.nx L rev comp v _ tk _ wa xs dE hhE rJ lb (by omega) (by omega) De Gu f0 f4 f5 f12 f13 _ ?_;intro u h' UU dp;rw[MF]at dp;exact⟨xs,dE,UU,dp⟩
  cases tk with
  |true=>
   refine oq ?_ (@sc [1,1,1,1,1,1,1,1,1]) (V g0<|V g3<|V g4<|V g5<|V g6<|V p0<|V p1<|V p2<|V p3<|V p4<|V p5<|V p6<|V p7<|V oc<|V ot<|oe);refine⟨?_⟩;exact rest _ (by exact sT) (by exact sT) (by exact sT) (by exact sT) (by rw[WO];exact sT)
  |false=>
   refine oq ?_ (@sc [1,1,1,1,1,1,1,1,1]) (V g0<|V g3<|V g4<|V g5<|V g6<|V p0<|V p1<|V p2<|V p3<|V p4<|V p5<|V p6<|V p7<|V oc<|V ot<|oe);refine⟨?_⟩;exact rest _ (by exact sT) (by exact sT) (by exact sT) (by exact sT) (by rw[WO];simp only[B,xB,F,ab,ae,af,ag,ah,ai, ↓reduceIte,eq_self,Bool.false_eq_true])
 ·have de:decide (e=0)=false:=decide_eq_false qe
  have e11:cW r=11:=by
   rw[he]at qe;unfold cW at qe ⊢;split at qe
   ·exact absurd rfl qe
   ·rename_i q;rw[if_neg q]
  have et:e_ rev comp L r=⟨11,false,[],[]⟩:=by unfold e_;rw[if_neg (by rw[←he];exact qe),e11]
  have D8:=D5.put 11;obtain⟨h8,oz⟩:∃h8,h8=h5.cm h3.nx 0 [.int .i64 (.ofNat 11)]:=⟨_,rfl⟩;rw[←oz]at D8;obtain⟨a0,-⟩:=D5.a.u9;have w5:=D5.w5;obtain⟨b0,b1,b2,ZH,RE,UA,b6,b7,b8⟩:=D8.a.u9;obtain⟨f0,f1,f2,f3,f4,f5,f6,f7,f8⟩:=D8.a4.u9;have w4:=D8.w4;obtain⟨h9,wH⟩:∃h9,h9=h8.cm h1.nx 0 (cM 11 rev comp false .bh):=⟨_,rfl⟩;have rt:=D8.ret wH hb4 hv4;obtain⟨u0,u1,u2,u3,u4,u5,u6,u7,u8⟩:=rt.a4.u9;unfold cM at wH;refine rN ?_ (V de<|V @al<|V a0<|V w5<|V oz.symm<|V b0<|V b1<|V b2<|V ZH<|V RE<|V UA<|V b6<|V b7<|V b8<|V f0<|V f1<|V f2<|V f3<|V f4<|V f5<|V f6<|V f7<|V f8<|V w4<|V wH.symm<|V u0<|V u1<|V u2<|V u3<|V u4<|V u5<|V u6<|V u7<|u8);exact bad h9 11 rt et
structure ZK(h0 h':H)(b:Nat)(L:List Rec)(a:Ap)(u:AV)(xs:List RV)(dE v' v:AV):Prop where
 u:u= .agg (cM a.err a.rev a.comp a.tk dE)
 hx:xs.map (·.1)=a.rs
 ok:iV h' dE xs
 s:jM h' b (L++a.R) a.rev a.comp v' [] .bh 0
 oo:Og h0 h' [b]
 vb:∀c,bA v'=some c→bA v=some c∨h0.nx≤c
theorem ZL(h:H)(err rev comp:Nat)(tk:Bool)(dE:AV):∃h1,(h.bq 33 [.int .i64 (.ofNat 0),.int .u64 (.ofNat 0),.int .u64 (.ofNat 0),.bool false,.bh,.int .u32 (.ofNat 0),.int .u64 (.ofNat 0),.int .u64 (.ofNat 0),.int .i64 (.ofNat 0)]).cm h.nx 0 [.int .i64 (.ofNat err),.int .u64 (.ofNat rev),.int .u64 (.ofNat comp),.bool tk,dE,.int .u32 (.ofNat 0),.int .u64 (.ofNat 0),.int .u64 (.ofNat 0),.int .i64 (.ofNat 0)]=h1∧Og h h1 []∧h1.nx=h.nx+1∧bj h1 h.nx 0 (cM err rev comp tk dE):=
 ⟨_,rfl,((Og.refl _ _).new _ _).cm (.inr (ak _)),by rw[bI,dt],bj.box _ _ _ _⟩
theorem Gd{h:H}{b4:Nat}(w4:cj h b4=true)(err rev comp:Nat)(tk:Bool)(dE:AV):∃h1,h.cm b4 0 [.int .i64 (.ofNat err),.int .u64 (.ofNat rev),.int .u64 (.ofNat comp),.bool tk,dE,.int .u32 (.ofNat 0),.int .u64 (.ofNat 0),.int .u64 (.ofNat 0),.int .i64 (.ofNat 0)]=h1∧Og h h1 [b4]∧h1.nx=h.nx∧bj h1 b4 0 (cM err rev comp tk dE)∧(∀c,c≠b4→h1.t.get c=h.t.get c):=
 ⟨_,rfl,(Og.refl _ _).cm (.inl (by simp)),by rw[bI],bj.cm w4 _,fun c hc=>bT _ _ _ _ hc⟩
theorem jM.far{h h':H}{b rev comp yL:Nat}{L S:List Rec}{v sv:AV}(s:jM h b L rev comp v S sv yL)(hx:h.nx≤h'.nx){d:Nat}(k:∀c,c<h.nx→c≠d→h'.t.get c=h.t.get c)(n1:b≠d)(n2:∀c,bA v=some c→c≠d)(n3:∀c,bA sv=some c→c≠d):jM h' b L rev comp v S sv yL:=
 ⟨aN s.lt hx,s.c.bG (k b s.lt n1),by rw[bC (k b s.lt n1)];exact s.wr,s.gv.bG hx (fun c e=>k c (s.gv.base e).2 (n2 c e)),s.ss.move hx (fun c e=>k c (gz s.ss c e) (n3 c e)),s.sk.move hx (fun c e=>k c (gz s.ss c e) (n3 c e)),s.nv,s.ns⟩
theorem UW(h0:H)(bm b:Nat)(L:List Rec)(rev comp:Nat)(v:AV)(s:jM h0 b L rev comp v [] .bh 0)(km:cellAt h0 bm 0=some (.ptr b 0))(lm:bm<h0.nx)(nm:bm≠b)(r:Rq)(vc vt ve:AV)(ra:ua h0 r vc vt ve)(UT:bA vc≠some b∧bA vt≠some b∧bA ve≠some b)
  (hm:∀x,x∈L→x.main≤rev)(hr:rev≤1000000)(hs:dI L)(JC:L.length≤200000)(htw:∀tk,US (jP r tk))
  (hB:∀tk i,i≤(jP r tk).length→dI (fy rev L ((jP r tk).take i)).2∧(fy rev L ((jP r tk).take i)).2.length≤200000):
  bW P (.enter 8 [.ptr bm 0,.agg (r.cs vc vt ve)] h0) fun u h'=>∃xs dE v',ZK h0 h' b L (fN rev comp L r) u xs dE v' v:=by
 have oc:=cH ra.sc;have ot:=cH ra.st;have oe:=cH ra.se;have lb:=s.lt;have De:∀c,bA v=some c→c<h0.nx:=fun c e=>(s.gv.base e).2;have bx:=EM h0 r vc vt ve oc ot oe;obtain⟨h1,cC⟩:∃h1,h1=h0.bq 38 (r.cs vc vt ve):=⟨_,rfl⟩;rw[←cC]at bx;have o1:Og h0 h1 []:=by rw[cC];exact(Og.refl _ _).new _ _
 have x1:h1.nx=h0.nx+1:=by rw[cC];rfl
 have Y1:bj h1 h0.nx 0 (r.cs vc vt ve):=by rw[cC];exact bj.new _ _ _
 obtain⟨h2,cJ,o2,x2,ug,A2⟩:=Cc h1;have f_:=o1.t o2;have s2:=s.bU f_;have Y2:=gC Y1 o2 (by omega) (by simp);obtain⟨y0,y1,y2,y3,y4,y5,y6,y7⟩:=Y2.u8;have km2:=kc km f_ lm (by simp);have Da:=ra.bU f_;by_cases q0:r.kind=0
 ·have d0:(r.kind==au 0)=true:=by rw[q0];rfl
  have ea:fN rev comp L r=⟨(e_ rev comp L r).err,if(e_ rev comp L r).R=[]then rev else rev+1,comp,(e_ rev comp L r).tk,(e_ rev comp L r).rs,(e_ rev comp L r).R⟩:=by unfold fN;rw[if_pos q0]
  rw[ea];have hTR:(e_ rev comp L r).R.length≤200000:=by
   unfold e_;split
   ·split
    ·exact aA _
    ·split
     ·have:=(hB (UD rev L r) _ (ak _)).2
      rw[aJ]at this;exact this
     ·exact aA _
   ·exact aA _
  obtain⟨T,hT⟩:∃T,T=e_ rev comp L r:=⟨_,rfl⟩;rw[←hT]at hTR;refine bn (fn:=Tryz.f8) (c:=bD Tryz.f8) Tryz.func8 rfl ?_;show bB P 8 51 none _ _ _ _ _;refine bp ?_;refine rN ?_ (V bx<|V cJ<|V km2<|V y0<|V y1<|V y2<|V y3<|V y4<|V y5<|V y6<|V y7<|d0);refine((doC h2 b L rev comp v [] .bh 0 s2 r vc vt ve Da UT hm hr hs JC htw hB).call P).mono P ?_;rintro _ h3 ⟨xs,dE,UU,dp⟩;rw[←hT]at dp ⊢;obtain⟨hu,hx,ok,s3,IU,rb,xb⟩:=dp;unfold cM at hu;subst hu;have x3:=IU.1.1;have ro:=cH ok.gr;obtain⟨r2,hr2⟩:∃r2,r2=(if T.R=[]then rev else rev+1):=⟨_,rfl⟩;rw[←hr2];obtain⟨h4,dm,o4,x4,A4⟩:=ZL h3 T.err r2 comp T.tk dE;have s4:=s3.bU o4;refine rN ?_ (V dm<|ro);refine((MI h4 b L rev comp v T.R UU 0 s4 hr (by omega)).call P).mono P ?_;rintro _ h5 ⟨rfl,o5,v',s5,vb5⟩;rw[←hr2,if_neg (by omega)]at s5;have x5:=o5.1.1;have l4b:b<h3.nx:=s3.lt;have A5:=gC A4 o5 (by omega) (by simp;omega);obtain⟨a0,a1,a2,a3,a4,a5,a6,a7,a8⟩:=A5.u9;have O1:=kw (kw (kw ug IU (by omega) (by simp;omega)) o4 (by omega) (by simp)) o5 (by omega) (by simp;omega);obtain⟨f0,f1,f2,f3,f4,f5,f6,f7,f8⟩:=(gC (gC (gC A2 IU (by omega) (by simp;omega)) o4 (by omega) (by simp)) o5 (by omega) (by simp;omega)).u9;obtain⟨h6,kO,o6,x6,A6,k6⟩:=Gd O1 T.err r2 comp T.tk dE;obtain⟨e0,e1,e2,e3,e4,e5,e6,e7,e8⟩:=A6.u9;refine rN ?_ (V a0<|V a1<|V a2<|V a3<|V a4<|V a5<|V a6<|V a7<|V a8<|V f0<|V f1<|V f2<|V f3<|V f4<|V f5<|V f6<|V f7<|V f8<|V O1<|V ro<|V kO<|V e0<|V e1<|V e2<|V e3<|V e4<|V e5<|V e6<|V e7<|e8);have RF:∀c,bA dE=some c→h2.nx≤c:=rb;have kk:∀c,c<h3.nx→c≠b→c≠h1.nx→h6.t.get c=h3.t.get c:=fun c hc n1 n2=>by rw[k6 c n2,o5.1.2 c (by omega) (by simp[n1]),o4.1.2 c hc (by simp)]
  have WM:iV h6 dE xs:=ok.move (lo:=h2.nx) (by omega) (fun c hc nI=>kk c nI (by omega) (by omega)) rb xb;have s5b:∀c,bA v'=some c→c≠h1.nx:=fun c e=>by have:=vb5 c e;omega
  exact⟨xs,dE,v',rfl,hx,WM,s5.far (by omega) (fun c hc hn=>k6 c hn) (by omega) s5b (fun c e=>by cases e),⟨⟨by omega,fun c hc hn=>by rw[kk c (by omega) (by simpa using hn) (by omega),IU.1.2 c (by omega) hn,f_.1.2 c hc (by simp)]⟩,by rw[o6.2,o5.2,o4.2,IU.2,f_.2]⟩,fun c e=>.inr (by have:=vb5 c e;omega)⟩
 ·have d0:(r.kind==au 0)=false:=by simpa using q0
  obtain⟨c0,c1,c2,-⟩:=s2.c.u8;by_cases q1:r.kind=1
  ·have d1:(r.kind==au 1)=true:=by rw[q1];rfl
   have ea:fN rev comp L r=⟨(fI rev comp r.rev).1,rev,(fI rev comp r.rev).2,false,[],[]⟩:=by unfold fN;rw[if_neg q0,if_pos q1]
   rw[ea];refine bn (fn:=Tryz.f8) (c:=bD Tryz.f8) Tryz.func8 rfl ?_;show bB P 8 51 none _ _ _ _ _;refine bp ?_;refine rN ?_ (V bx<|V cJ<|V km2<|V y0<|V y1<|V y2<|V y3<|V y4<|V y5<|V y6<|V y7<|V d0<|d1);refine((ZD h2 b L rev comp v [] .bh 0 s2 r.rev).call P).mono P ?_;rintro _ h3 ⟨rfl,o3,s3⟩;have x3:=o3.1.1;have qy:=kw ug o3 (by omega) (by simp;omega);have A3:=gC A2 o3 (by omega) (by simp;omega);by_cases qe:(fI rev comp r.rev).1=0
   ·have de:decide ((fI rev comp r.rev).1=0)=true:=decide_eq_true qe
    have ec:fI rev comp r.rev=(0,r.rev)∧comp<r.rev:=by
     unfold fI at qe ⊢;split at qe
     ·cases qe
     ·rename_i g1
      split at qe
      ·cases qe
      ·rename_i g2
       rw[if_neg g1,if_neg g2];exact⟨rfl,by omega⟩
    rw[if_pos qe]at s3;refine rN ?_ (de);refine((MI h3 b L rev comp v [] .bh r.rev s3 hr (by simp;omega)).call P).mono P ?_;rintro _ h4 ⟨rfl,o4,v',s4,vb4⟩;rw[if_pos rfl,if_pos (by omega),aq]at s4;have x4:=o4.1.1;have vS:=kw qy o4 (by omega) (by simp;omega);obtain⟨f0,f1,f2,f3,f4,f5,f6,f7,f8⟩:=(gC A3 o4 (by omega) (by simp;omega)).u9;obtain⟨i0,i1,i2,-⟩:=s4.c.u8;rw[ec.1];obtain⟨h6,kO,o6,x6,A6,k6⟩:=Gd vS 0 rev r.rev false .bh;obtain⟨e0,e1,e2,e3,e4,e5,e6,e7,e8⟩:=A6.u9;refine rT ?_ (V i1<|V i2<|V f0<|V f1<|V f2<|V f3<|V f4<|V f5<|V f6<|V f7<|V f8<|V vS<|V kO<|V e0<|V e1<|V e2<|V e3<|V e4<|V e5<|V e6<|V e7<|e8);refine⟨[],.bh,v',rfl,rfl,iV.nil _,?_,⟨⟨by omega,fun c hc hn=>by rw[k6 c (by omega),o4.1.2 c (by omega) hn,o3.1.2 c (by omega) hn,f_.1.2 c hc (by simp)]⟩,by rw[o6.2,o4.2,o3.2,f_.2]⟩,fun c e=>.inr (by have:=vb4 c e;omega)⟩;rw[aq];exact s4.far (by omega) (fun c hc hn=>k6 c hn) (by omega) (fun c e=>by have:=vb4 c e;omega) (fun c e=>by cases e)
   ·have de:decide ((fI rev comp r.rev).1=0)=false:=decide_eq_false qe
    have ec:(fI rev comp r.rev).2=comp:=by
     unfold fI at qe ⊢;split at qe
     ·rename_i g1;rw[if_pos g1]
     ·rename_i g1
      split at qe
      ·rename_i g2;rw[if_neg g1,if_pos g2]
      ·exact absurd rfl qe
    rw[if_neg qe]at s3;rw[ec];obtain⟨f0,f1,f2,f3,f4,f5,f6,f7,f8⟩:=A3.u9;obtain⟨i0,i1,i2,-⟩:=s3.c.u8;obtain⟨e,he⟩:∃e,e=(fI rev comp r.rev).1:=⟨_,rfl⟩;rw[←he]at de ⊢;obtain⟨h6,kO,o6,x6,A6,k6⟩:=Gd qy e rev comp false .bh;obtain⟨e0,e1,e2,e3,e4,e5,e6,e7,e8⟩:=A6.u9;refine rT ?_ (V de<|V i1<|V i2<|V f0<|V f1<|V f2<|V f3<|V f4<|V f5<|V f6<|V f7<|V f8<|V qy<|V kO<|V e0<|V e1<|V e2<|V e3<|V e4<|V e5<|V e6<|V e7<|e8);refine⟨[],.bh,v,rfl,rfl,iV.nil _,?_,⟨⟨by omega,fun c hc hn=>by rw[k6 c (by omega),o3.1.2 c (by omega) hn,f_.1.2 c hc (by simp)]⟩,by rw[o6.2,o3.2,f_.2]⟩,fun c e=>.inl e⟩;rw[aq];exact s3.far (by omega) (fun c hc hn=>k6 c hn) (by omega) (fun c e=>by have:=De c e;omega) (fun c e=>by cases e)
  ·have d1:(r.kind==au 1)=false:=by simpa using q1
   have ea:fN rev comp L r=⟨11,rev,comp,false,[],[]⟩:=by unfold fN;rw[if_neg q0,if_neg q1]
   rw[ea];obtain⟨f0,f1,f2,f3,f4,f5,f6,f7,f8⟩:=A2.u9;obtain⟨h6,kO,o6,x6,A6,k6⟩:=Gd ug 11 rev comp false .bh;obtain⟨e0,e1,e2,e3,e4,e5,e6,e7,e8⟩:=A6.u9;refine bn (fn:=Tryz.f8) (c:=bD Tryz.f8) Tryz.func8 rfl ?_;show bB P 8 51 none _ _ _ _ _;refine bp ?_;refine rT ?_ (V bx<|V cJ<|V km2<|V y0<|V y1<|V y2<|V y3<|V y4<|V y5<|V y6<|V y7<|V d0<|V d1<|V c1<|V c2<|V f0<|V f1<|V f2<|V f3<|V f4<|V f5<|V f6<|V f7<|V f8<|V ug<|V kO<|V e0<|V e1<|V e2<|V e3<|V e4<|V e5<|V e6<|V e7<|e8);refine⟨[],.bh,v,rfl,rfl,iV.nil _,?_,⟨⟨by omega,fun c hc hn=>by rw[k6 c (by omega),f_.1.2 c hc (by simp)]⟩,by rw[o6.2,f_.2]⟩,fun c e=>.inl e⟩;rw[aq];exact s2.far (by omega) (fun c hc hn=>k6 c hn) (by omega) (fun c e=>by have:=De c e;omega) (fun c e=>by cases e)
theorem rNewC(h0:H):bW P (.enter 5 [] h0) (fun u h'=>∃bm b,u= .ptr bm 0∧h0.nx≤bm∧h0.nx≤b∧bm<h'.nx∧bm≠b∧cellAt h' bm 0=some (.ptr b 0)∧jM h' b [] 1 0 .bh [] .bh 0∧Og h0 h' []):=by
 obtain⟨h1,cC⟩:∃h1,h1=h0.bq 73 [.bh,.int .u64 (.ofNat 1),.int .u64 (.ofNat 0),.int .u64 (.ofNat 0),.int .u64 (.ofNat 0),.bh,.bh,.int .u64 (.ofNat 0)]:=⟨_,rfl⟩;have o1:Og h0 h1 []:=by rw[cC];exact(Og.refl _ _).new _ _
 have x1:h1.nx=h0.nx+1:=by rw[cC];rfl
 have C1:bj h1 h0.nx 0 [.bh,.int .u64 (.ofNat 1),.int .u64 (.ofNat 0),.int .u64 (.ofNat 0),.int .u64 (.ofNat 0),.bh,.bh,.int .u64 (.ofNat 0)]:=by rw[cC];exact bj.new _ _ _
 have w1:cj h1 h0.nx=true:=by rw[cC];exact lu _ _ _
 have hS:bW P (.enter 23 [] h0) (fun u h'=>u= .ptr h0.nx 0∧h'=h1):=by
  refine bn (fn:=Tryz.f23) (c:=bD Tryz.f23) Tryz.func23 rfl ?_;show bB P 23 3 none _ _ _ _ _;refine bp ?_;repeat' (first|((with_reducible refine gh ?_);(conv =>whnf);(with_reducible refine⟨?_⟩))|((with_reducible refine bE rfl ?_);(conv =>arg 2;whnf))|((with_reducible first|refine iB ?_ ?_|refine g_ ?_ ?_|refine hP ?_ ?_)<;>intro hb<;>(try simp only[hb]))|(simp only[B,F,ab,ae,af,ag,ah,ai, ↓reduceIte,eq_self,←cC]))
 refine bn (fn:=Tryz.f5) (c:=bD Tryz.f5) Tryz.func5 rfl ?_;show bB P 5 4 none _ _ _ _ _;refine bp ?_;refine kM ?_;refine(hS.call P).mono P ?_;rintro _ Ls ⟨rfl,e1⟩;rw[e1];refine kM ?_;have o2:Og h1 (h1.bq 66 [.ptr h0.nx 0]) []:=(Og.refl _ _).new _ _;refine⟨h1.nx,h0.nx,rfl,by omega,ak _,by omega,by omega,by rw[if_pos rfl],jM.bU ⟨by omega,C1,w1,.none,.none,.inl ⟨.inl rfl,rfl,rfl⟩,fun c e=>(by cases e),fun c e=>(by cases e)⟩ o2,o1.t o2⟩
theorem RS(h0:H)(r:nz)(k1 p1 k2 p2:AV)(s1:br h0 k1 r.rM.length (r.rM.flatMap KV.cs))(s2:br h0 k2 r.rM.length (r.rM.flatMap KV.cs))(s3:br h0 p1 r.prev.length (r.prev.flatMap KV.cs))(s4:br h0 p2 r.prev.length (r.prev.flatMap KV.cs))(hz:r.rM.length≤1000000∧r.prev.length≤1000000):
  bW P (.enter 12 [.agg (r.cs k1 p1),.agg (r.cs k2 p2)] h0) (cQ h0 (.bool true)):=by
 have ok1:=cH s1;have ok2:=cH s2;have op1:=cH s3;have op2:=cH s4;have KJ:n_ h0 47 (r.cs k1 p1)= .val (.ptr h0.nx 0) (h0.bq 47 (r.cs k1 p1)):=jb (by unfold nz.cs;simp only[iT,la,ok1,op1,vi,rm,aae,aG]);obtain⟨h1,cC⟩:∃h1,h1=h0.bq 47 (r.cs k1 p1):=⟨_,rfl⟩;rw[←cC]at KJ;have o1:Og h0 h1 []:=by rw[cC];exact(Og.refl _ _).new _ _
 have x1:h1.nx=h0.nx+1:=by rw[cC];rfl
 have C1:bj h1 h0.nx 0 (r.cs k1 p1):=by rw[cC];exact bj.new _ _ _
 have OZ:n_ h1 47 (r.cs k2 p2)= .val (.ptr h1.nx 0) (h1.bq 47 (r.cs k2 p2)):=jb (by unfold nz.cs;simp only[iT,la,ok2,op2,vi,rm,aae,aG]);obtain⟨h2,cJ⟩:∃h2,h2=h1.bq 47 (r.cs k2 p2):=⟨_,rfl⟩;rw[←cJ]at OZ;have o2:Og h1 h2 []:=by rw[cJ];exact(Og.refl _ _).new _ _
 have x2:h2.nx=h1.nx+1:=by rw[cJ];rfl
 have C2:bj h2 h1.nx 0 (r.cs k2 p2):=by rw[cJ];exact bj.new _ _ _
 have C12:=gC C1 o2 (by omega) (by simp);unfold nz.cs at C12 C2;obtain⟨a0,a1,a2,a3,a4⟩:=C12.u5;obtain⟨b0,b1,b2,b3,b4⟩:=C2.u5;have f_:=o1.t o2;have eb:∀b:Bool,(b==b)=true:=fun b=>by cases b<;>rfl
 have e1:=eb r.more;refine bn (fn:=Tryz.f12) (c:=bD Tryz.f12) Tryz.func12 rfl ?_;show bB P 12 38 none _ _ _ _ _;refine bp ?_;repeat' (first|((with_reducible refine gh ?_);(conv =>whnf);(with_reducible refine⟨?_⟩))|((with_reducible refine bE rfl ?_);(conv =>arg 2;whnf))|((with_reducible first|refine iB ?_ ?_|refine g_ ?_ ?_|refine hP ?_ ?_)<;>intro hb<;>(try simp only[hb]))|(simp only[B,F,ab,ae,af,ag,ah,ai, ↓reduceIte,eq_self,KJ,OZ,a0,a1,a2,a3,a4,b0,b1,b2,b3,b4,e1,beq_self_eq_true,decide_true]))
 refine((F4 h2 k1 k2 r.rM (br.only f_.1 s1 (fun _ _=>by simp)) (br.only f_.1 s2 (fun _ _=>by simp)) hz.1).call P).mono P ?_;rintro _ h3 ⟨rfl,o3⟩;obtain⟨a0',WG,a2',a3',a4'⟩:=(gC C12 o3 (by omega) (by simp)).u5;obtain⟨b0',b1',b2',ZH,RE⟩:=(gC C2 o3 (by omega) (by simp)).u5;have yK:=f_.t o3;refine rN ?_ (V a0'<|V WG<|V a2'<|V a3'<|V a4'<|V b0'<|V b1'<|V b2'<|V ZH<|RE);refine((F4 h3 p1 p2 r.prev (br.only yK.1 s3 (fun _ _=>by simp)) (br.only yK.1 s4 (fun _ _=>by simp)) hz.2).call P).mono P ?_;rintro _ h4 ⟨rfl,o4⟩;refine kM ?_;exact⟨rfl,yK.t o4⟩
theorem RV.at{h:H}{b o n:Nat}{cap:ur}{l:List RV}(sl:br h (.slice b o n cap) n (l.flatMap Ga)){i:Nat}{x:RV}(hx:l[i]? =some x):cellAt h b (o+i*5)=some x.2.1∧cellAt h b (o+(i*5+1))=some (.bool x.1.more)∧cellAt h b (o+(i*5+2))=some (.int .i64 (.ofNat x.1.JA))∧cellAt h b (o+(i*5+3))=some (.int .i64 (.ofNat x.1.del))∧cellAt h b (o+(i*5+4))=some x.2.2:=by
 have g:∀k,k<5→cellAt h b (o+(i*5+k))=(Ga x)[k]? :=fun k hk=>jv RVlen sl hx hk;exact⟨g 0 (by omega),g 1 (by omega),g 2 (by omega),g 3 (by omega),g 4 (by omega)⟩
theorem ZM(h0:H)(bm iq b:Nat)(L:List Rec)(rev comp:Nat)(v v2:AV)(md:l_ h0 bm L rev comp v)(s:jM h0 b L rev comp v2 [] .bh 0)(km:cellAt h0 iq 0=some (.ptr b 0))(lm:iq<h0.nx)(hz:L.length≤1000000):bW P (.enter 21 [.ptr bm 0,.ptr iq 0] h0) (cQ h0 (.bool true)):=by
 have m0:=md.c0;have m1:=md.c1;have m2:=md.c2;obtain⟨c0,c1,c2,-⟩:=s.c.u8;refine bn (fn:=Tryz.f21) (c:=bD Tryz.f21) Tryz.func21 rfl ?_;show bB P 21 45 none _ _ _ _ _;refine bp ?_;repeat' (first|((with_reducible refine gh ?_);(conv =>whnf);(with_reducible refine⟨?_⟩))|((with_reducible refine fh ?_ rfl rfl ?_ ?_);exact rfl;kernel_rfl;(conv =>arg 5;whnf);(conv =>arg 3;whnf))|((with_reducible refine bE rfl ?_);(conv =>arg 2;whnf))|((with_reducible first|refine iB ?_ ?_|refine g_ ?_ ?_|refine hP ?_ ?_|refine pL ?_ ?_|refine pM ?_ ?_)<;>intro hb<;>(try simp only[hb]))|((with_reducible show cU _ _ _ _ _ _ _ _ _);first|((with_reducible refine fj ?_ ?_);exact rfl)|((with_reducible apply fm);exact rfl;exact rfl)|((with_reducible refine fo ?_ ?_ ?_);exact rfl;kernel_rfl)|((with_reducible apply fp);exact rfl;exact rfl)|((with_reducible refine fq ?_ ?_ ?_ ?_ ?_);exact rfl;kernel_rfl;exact rfl)|((with_reducible apply ft);exact rfl;kernel_rfl;exact rfl)|((with_reducible refine fi ?_ ?_)))|((with_reducible show il _ _ _ _ _ _);first|(exact cK)|(refine eB ?_ ?_ ?_;exact rfl)|(apply eC;exact rfl;exact rfl)|(refine eD ?_ ?_ ?_ ?_;exact rfl;kernel_rfl)|(apply eF;exact rfl)|(apply eE;exact rfl;exact rfl))|((with_reducible refine bX ?_);kernel_rfl)|(simp only[B,xB,F,ab,ae,af,ag,ah,ai, ↓reduceIte,eq_self,m0,m1,m2,km,c0,c1,c2,beq_self_eq_true,decide_true]))
 refine((Re h0 v v2 L md.sl s.gv.slice hz).call P).mono P ?_;rintro _ h1 ⟨rfl,o1⟩;have m0':=kc m0 o1 md.lt (by simp);have m1':=kc m1 o1 md.lt (by simp);have m2':=kc m2 o1 md.lt (by simp);have km':=kc km o1 lm (by simp);obtain⟨WQ,ZG,c2',-⟩:=(s.bU o1).c.u8;repeat' (first|((with_reducible refine gh ?_);(conv =>whnf);(with_reducible refine⟨?_⟩))|((with_reducible refine fh ?_ rfl rfl ?_ ?_);exact rfl;kernel_rfl;(conv =>arg 5;whnf);(conv =>arg 3;whnf))|((with_reducible refine bE rfl ?_);(conv =>arg 2;whnf))|((with_reducible first|refine iB ?_ ?_|refine g_ ?_ ?_|refine hP ?_ ?_|refine pL ?_ ?_|refine pM ?_ ?_)<;>intro hb<;>(try simp only[hb]))|((with_reducible show cU _ _ _ _ _ _ _ _ _);first|((with_reducible refine fj ?_ ?_);exact rfl)|((with_reducible apply fm);exact rfl;exact rfl)|((with_reducible refine fo ?_ ?_ ?_);exact rfl;kernel_rfl)|((with_reducible apply fp);exact rfl;exact rfl)|((with_reducible refine fq ?_ ?_ ?_ ?_ ?_);exact rfl;kernel_rfl;exact rfl)|((with_reducible apply ft);exact rfl;kernel_rfl;exact rfl)|((with_reducible refine fi ?_ ?_)))|((with_reducible show il _ _ _ _ _ _);first|(exact cK)|(refine eB ?_ ?_ ?_;exact rfl)|(apply eC;exact rfl;exact rfl)|(refine eD ?_ ?_ ?_ ?_;exact rfl;kernel_rfl)|(apply eF;exact rfl)|(apply eE;exact rfl;exact rfl))|((with_reducible refine bX ?_);kernel_rfl)|(simp only[B,xB,F,ab,ae,af,ag,ah,ai, ↓reduceIte,eq_self,m0',m1',m2',km',WQ,ZG,c2',beq_self_eq_true,decide_true]))
 exact⟨rfl,o1⟩
def lx(k:List Nat)(l:List Op):Nat:=(l.filter fun o=>(o.kind== .ofNat 1)&&decide (o.key=k)).length
theorem xE{k a:List Nat}{n:Nat}:∀{X:IV},a∈(rL k n X).map (·.1)↔a=k∨a∈X.map (·.1)
 |[]=>by simp[rL]
 | (b,x)::X=>by
  unfold rL;by_cases q:k=b
  ·rw[if_pos q];simp[q]
  ·rw[if_neg q,aE,bg,xE (X:=X),aE,bg]
   constructor
   ·rintro(h|h|h)
    ·exact .inr (.inl h)
    ·exact .inl h
    ·exact .inr (.inr h)
   ·rintro(h|h|h)
    ·exact .inr (.inl h)
    ·exact .inl h
    ·exact .inr (.inr h)
theorem MM{k:List Nat}{n:Nat}:∀{X:IV},(X.map (·.1)).Nodup→((rL k n X).map (·.1)).Nodup
 |[],_=>by simp[rL]
 | (b,x)::X,h=>by
  rw[aE,aaa]at h;unfold rL;by_cases q:k=b
  ·rw[if_pos q,aE,aaa];exact h
  ·rw[if_neg q,aE,aaa]
   exact⟨fun hm=>by rcases xE.1 hm with e|e;exact q e.symm;exact h.1 e,MM h.2⟩
theorem I1(k a:List Nat)(n:Nat):∀X:IV,pP k (rL a n X)=if k=a then n else pP k X
 |[]=>by
  unfold rL pP;rw[aY];by_cases q:k=a<;>simp[q]
 | (b,x)::X=>by
  have ih:=I1 k a n X;unfold rL;by_cases q:a=b
  ·rw[if_pos q]
   unfold pP;rw[aY,aY];by_cases q2:k=a
   ·subst q;simp[q2]
   ·have :¬k=b:=fun e=>q2 (by rw[e,q])
    simp[q2,this]
  ·rw[if_neg q]
   unfold pP at ih ⊢;rw[aY,aY];by_cases q2:k=b
   ·have :¬k=a:=fun e=>q (by rw[←e,q2])
    simp[q2,this];intro e;exact absurd e (fun h=>q h.symm)
   ·simp only[decide_eq_false q2];exact ih
theorem I2{k:List Nat}{n:Nat}:∀{X:IV},(X.map (·.1)).Nodup→(k,n)∈X→pP k X=n
 |[],_,h=>by cases h
 | (b,x)::X,nd,h=>by
  rw[aE,aaa]at nd;unfold pP;rw[aY];by_cases q:k=b
  ·simp only[q,decide_true]
   rcases List.mem_cons.1 h with e|e
   ·cases e;rfl
   ·exact absurd (List.mem_map.2 ⟨_,e,q⟩) nd.1
  ·simp only[decide_eq_false q]
   rcases List.mem_cons.1 h with e|e
   ·cases e;exact absurd rfl q
   ·exact I2 nd.2 e
theorem I3{k:List Nat}:∀{X:IV},k∈X.map (·.1)→(k,pP k X)∈X
 |[],h=>by cases h
 | (b,x)::X,h=>by
  unfold pP;rw[aY];by_cases q:k=b
  ·simp only[q,decide_true];simp
  ·simp only[decide_eq_false q]
   rw[aE,bg]at h;rcases h with e|e
   ·exact absurd e q
   ·exact aam _ (I3 e)
structure PuV(l:List Op)(X:IV):Prop where
 nd:(X.map (·.1)).Nodup
 JA:∀k,pP k X=lx k l
 ky:∀k,k∈X.map (·.1)↔0<lx k l
theorem Ci(k:List Nat)(a b:List Op):lx k (a++b)=lx k a+lx k b:=by unfold lx;rw[List.filter_append,ao]
theorem Cj(k:List Nat)(o:Op):lx k [o]=if(o.kind== .ofNat 1)=true∧o.key=k then 1 else 0:=by
 unfold lx;cases q:o.kind== .ofNat 1 with
 |false=>rw[aai (by rw[q];simp),if_neg (by simp)];rfl
 |true=>
  by_cases q2:o.key=k
  ·rw[List.filter_cons_of_pos (by rw[q,decide_eq_true q2];rfl),if_pos ⟨rfl,q2⟩];rfl
  ·rw[aai (by rw[q,decide_eq_false q2];simp),if_neg (fun h=>q2 h.2)];rfl
theorem PuV.fold:∀(l l0:List Op)(X:IV),PuV l0 X→PuV (l0++l) (l.foldl IF X)
 |[],l0,X,h=>by rw[aq];exact h
 | o::l,l0,X,h=>by
  rw[aab,show l0++o::l=(l0++[o])++l by simp];refine PuV.fold l _ _ ?_;unfold IF;cases q:o.kind== .ofNat 1 with
  |false=>
   rw[if_neg (by simp)];have e:∀k,lx k (l0++[o])=lx k l0:=fun k=>by rw[Ci,Cj,q];simp
   exact⟨h.nd,fun k=>by rw[e,h.JA],fun k=>by rw[e,h.ky]⟩
  | true=>
   rw[if_pos rfl];have e:∀k,lx k (l0++[o])=if k=o.key then lx k l0+1 else lx k l0:=fun k=>by
    rw[Ci,Cj,q];by_cases q2:k=o.key
    ·rw[if_pos q2,if_pos ⟨rfl,q2.symm⟩]
    ·rw[if_neg q2,if_neg (fun h=>q2 h.2.symm)];rfl
   refine⟨MM h.nd,fun k=>?_,fun k=>?_⟩
   ·rw[I1,e]
    by_cases q2:k=o.key
    ·rw[if_pos q2,if_pos q2,h.JA,q2]
    ·rw[if_neg q2,if_neg q2,h.JA]
   ·rw[xE,e,h.ky]
    by_cases q2:k=o.key
    ·rw[if_pos q2];simp[q2]
    ·rw[if_neg q2];simp[q2]
theorem UX(l:List Op):PuV l (iH l):=by
 have:=PuV.fold l [] [] ⟨List.nodup_nil,fun k=>rfl,fun k=>by simp[lx]⟩;rw[List.nil_append]at this;exact this
theorem vU{k:List Nat}{l:List Op}:0<lx k l↔∃o,o∈l∧o.kind== .ofNat 1∧o.key=k:=by
 unfold lx;rw[List.length_pos_iff_exists_mem];constructor
 ·rintro⟨o,ho⟩
  rw[List.mem_filter,aW,decide_eq_true_iff]at ho;exact⟨o,ho.1,ho.2.1,ho.2.2⟩
 ·rintro⟨o,h1,h2,h3⟩
  exact⟨o,List.mem_filter.2 ⟨h1,by rw[aW,decide_eq_true_iff];exact⟨h2,h3⟩⟩⟩
theorem Ge{k:List Nat}:∀{l:List Op},1<lx k l↔∃(i j:Nat)(x y:Op),i≠j∧l[i]? =some x∧l[j]? =some y∧x.kind== .ofNat 1∧x.key=k∧y.kind== .ofNat 1∧y.key=k
 |[]=>by simp[lx]
 | o ::l=>by
  have ih:=Ge (k:=k) (l:=l);have e:lx k (o::l)=lx k [o]+lx k l:=Ci k [o] l;rw[e,Cj];constructor
  ·intro h
   by_cases q:(o.kind== .ofNat 1)=true∧o.key=k
   ·rw[if_pos q]at h
    obtain⟨y,hy,h1,h2⟩:=vU.1 (show 0<lx k l by omega);obtain⟨j,hj⟩:=List.mem_iff_getElem?.1 hy;exact⟨0,j+1,o,y,by omega,rfl,by simpa using hj,q.1,q.2,h1,h2⟩
   ·rw[if_neg q]at h
    obtain⟨i,j,x,y,h1,h2,h3,h4⟩:=ih.1 (by omega);exact⟨i+1,j+1,x,y,by omega,by simpa using h2,by simpa using h3,h4⟩
  ·rintro⟨i,j,x,y,dH,hx,hy,h1,h2,h3,h4⟩
   cases i with
   | zero=>
    simp at hx;subst hx;rw[if_pos ⟨h1,h2⟩];cases j with
    |zero=>exact absurd rfl dH
    |succ j=>
     have :0<lx k l:=vU.2 ⟨y,aB (by simpa using hy),h3,h4⟩;omega
   | succ i=>
    cases j with
    |zero=>
     simp at hy;subst hy;rw[if_pos ⟨h3,h4⟩];have :0<lx k l:=vU.2 ⟨x,aB (by simpa using hx),h1,h2⟩;omega
    |succ j=>
     have:=ih.2 ⟨i,j,x,y,by omega,by simpa using hx,by simpa using hy,h1,h2,h3,h4⟩;omega
theorem tw_eq(l:List Op):US l:=by
 have pv:=UX l;unfold US Tw TwP;constructor
 ·rintro⟨i,k,x,y,hx,hy,hp⟩
  unfold iW at hp;rw[aW,Bool.or_eq_true,aW,aW,aW]at hp;obtain⟨h1,h2⟩:=hp;have CG:0<lx x.key l:=vU.2 ⟨x,aB hx,h1,rfl⟩;have hm:=I3 ((pv.ky x.key).2 CG);rcases h2 with⟨⟨h2,h3⟩,h4⟩|⟨h2,h3⟩
  ·have h4:=of_decide_eq_true h4
   have hki:¬k=i:=by simpa using h2
   have :1<lx x.key l:=Ge.2 ⟨i,k,x,y,fun e=>hki e.symm,hx,hy,h1,rfl,h3,h4⟩;refine⟨x,aB hx,_,hm,?_⟩;unfold xm;rw[pv.JA,decide_eq_true this];rfl
  ·refine⟨y,aB hy,_,hm,?_⟩
   unfold xm;simp only[h2,h3,aae,aM]
 ·rintro⟨o,ho,⟨k,n⟩,hp,hb⟩
  have hn:=I2 pv.nd hp;rw[pv.JA]at hn;have CG:=(pv.ky k).1 (List.mem_map.2 ⟨_,hp,rfl⟩);unfold xm at hb;rw[Bool.or_eq_true,aW]at hb;rcases hb with hb|⟨wD,sP⟩
  ·have hb:=of_decide_eq_true hb
   simp only at hb;obtain⟨i,j,x,y,dH,hx,hy,h1,h2,h3,h4⟩:=Ge.1 (show 1<lx k l by omega);refine⟨i,j,x,y,hx,hy,?_⟩;unfold iW;have :¬j=i:=fun e=>dH e.symm;rw[h1,h3,decide_eq_false this,decide_eq_true (h4.trans h2.symm)];rfl
  ·obtain⟨x,hx,h1,h2⟩:=vU.1 CG
   obtain⟨i,hi⟩:=List.mem_iff_getElem?.1 hx;obtain⟨j,hj⟩:=List.mem_iff_getElem?.1 ho;refine⟨i,j,x,o,hi,hj,?_⟩;unfold iW;subst h2;simp only at sP;rw[h1,wD,sP,aae,aM,aae]
structure oY(n:Nat)(rev:Nat)(L:List Rec):Prop where
 sh:dI L
 vw:(dg rev L).length≤n
 ln:L.length≤n*300
theorem Df{W:View}{r:Rec}(h:r.dW=true):(fw W r).length≤W.length:=by
 unfold fw;rw[if_pos h];exact(rP (k:=r.kv.key) (W:=W)).length_le
theorem I4{rev:Nat}:∀(l:List KV)(L R:List Rec),(dg (rev+1) (L++fx rev R l)).length≤(dg (rev+1) (L++R)).length
 |[],L,R=>ak _
 | x::l,L,R=>by
  have h1:=I4 (rev:=rev) l L (iU rev R x);have h2:(dg (rev+1) (L++iU rev R x)).length≤(dg (rev+1) (L++R)).length:=by
   unfold iU;rw[←aF,vP (rev+1) _ (rO rev R ⟨x.key,[],0,0,0⟩ true) (ak _)];exact Df rfl
  exact aD h1 h2
theorem uh{rev:Nat}:∀(l:List KV)(L R:List Rec),(∀x,x∈l→x.key.length≤1000000)→dI (L++R)→dI (L++fx rev R l)
 |[],L,R,_,h=>h
 |x::l,L,R,hl,h=>uh l L (iU rev R x) (fun y hy=>hl y (by simp[hy])) (by
  unfold iU;intro r hr;rw[←aF]at hr;rcases List.mem_append.1 hr with q|q
  ·exact h r q
  ·rw[aH]at q;subst q;exact hl x (by simp))
theorem Ow{m:Nat}{L:List Rec}(h:dI L)(key fin:List Nat):∀x,x∈ny (dg m L) key fin→x.key.length≤1000000:=by
 intro x hx;obtain⟨k,hk,-,rfl⟩:=(Gc key fin x).1 hx;have v:=rQ (main:=m) h;rw[mK v hk];obtain⟨p,hp,rfl⟩:=List.mem_map.1 hk;exact(v.ky p hp).2
theorem Ox{n rev:Nat}{L R:List Rec}{op:Op}(hk:op.key.length≤1000000)(h:oY n (rev+1) (L++R))(hn:n≤299):oY (n+1) (rev+1) (L++(sI rev L R op).2):=by
 obtain⟨sh,vw,ln⟩:=h;rw[ao]at ln;unfold sI;split
 ·exact⟨sh,by simp only;omega,by simp only[ao];omega⟩
 ·split
  ·refine⟨?_,?_,?_⟩
   ·intro r hr
    simp only at hr;rw[←aF]at hr;rcases List.mem_append.1 hr with q|q
    ·exact sh r q
    ·rw[aH]at q;subst q
     unfold rO oV;split<;>exact hk
   ·simp only
    rw[←aF,vP (rev+1) _ (rO rev R _ false) (ak _)];have:=Ca (dg (rev+1) (L++R)) (rO rev R (oV rev op (dP op.key (dg (rev+1) (L++R)))) false);omega
   ·simp only[ao,aO,aaf];omega
  ·have hi:=lF (dg (rev+1) (L++R)) op.key op.fin
   refine⟨uh _ _ _ (Ow sh _ _) sh,?_,?_⟩
   ·have:=I4 (rev:=rev) (ny (dg (rev+1) (L++R)) op.key op.fin) L R
    simp only;omega
   ·simp only[ao]
    have:=pQ rev (ny (dg (rev+1) (L++R)) op.key op.fin) R;omega
theorem Ck{n rev:Nat}{L:List Rec}:∀(l:List Op)(i:Nat),i≤l.length→(∀o,o∈l→o.key.length≤1000000)→oY n (rev+1) L→n+l.length≤299→oY (n+i) (rev+1) (L++(fy rev L (l.take i)).2)
 |l,0,_,_,h,_=>by rw[aal];show oY n (rev+1) (L++[]);rw[aq];exact h
 |l,i+1,hi,hk,h,hn=>by
  obtain⟨o,ho⟩:∃o,l[i]? =some o:=⟨_,aw (by omega)⟩;rw[Cb ho];have ih:=Ck l i (by omega) hk h hn;exact Ox (hk o (aB ho)) ih (show n+i≤299 by omega)
theorem u9s:P.underlying 9=some .string:=by kernel_rfl
theorem RT(s:List Nat)(n:Nat):dF P 9 (.str s) none (some (.int .i64 (.ofNat (min s.length n)))) none=some (.str (s.take n)):=by
 have hb:Nat.ble (min s.length n) s.length=true:=by rw[Nat.ble_eq];omega
 simp only[dF,u9s,uy,j0,CA,dY,hb,List.drop_zero,Nat.ble];congr 2;rw[List.take_eq_take_iff];omega
theorem RU(a n:Nat):(if au n<au a then au n else au a)=au (min a n):=by
 have :∀a n:Nat,(if(n:Int)<(a:Int)then(n:Int)else(a:Int))=((min a n:Nat):Int):=fun a n=>by split<;>omega
 exact this a n
def yN(o:Op):Op:={o with key:=o.key.take 20,fin:=o.fin.take 20,val:=o.val.take 40}
def Cl(c:iD):iD:={c with key:=c.key.take 20,val:=c.val.take 40}
def mc(l:List Op):List Op:=(l.take 8).map yN
def p_(l:List iD):List iD:=(l.take 6).map Cl
theorem ZN{l:List Op}{i:Nat}{x:Op}(hi:i<8)(h:l[i]? =some x):mc (l.take (i+1))=mc (l.take i)++[yN x]:=by
 unfold mc;rw[a_,a_,aac (by omega),aac (by omega),aZ,h,aak];rfl
theorem ZO{l:List iD}{i:Nat}{x:iD}(hi:i<6)(h:l[i]? =some x):p_ (l.take (i+1))=p_ (l.take i)++[Cl x]:=by
 unfold p_;rw[a_,a_,aac (by omega),aac (by omega),aZ,h,aak];rfl
theorem RW(l:List Op)(i:Nat)(hi:i≤l.length)(h8:i≤8):(mc (l.take i)).length=i:=by
 unfold mc;rw[aX,aC,aC];omega
theorem RX(l:List iD)(i:Nat)(hi:i≤l.length)(h8:i≤6):(p_ (l.take i)).length=i:=by
 unfold p_;rw[aX,aC,aC];omega
structure CoI(h0:H)(va:AV)(l:List Op)(m:Nat)(ds:List Nat)(tm:T AV)(h:H)(i:Nat)(w:AV):Prop where
 ds:ds=[]
 nn:m=8-i
 ii:i≤l.length
 i8:i≤8
 t0:tm.get 0=some va
 t3:tm.get 3=some w
 t4:tm.get 4=some (.int .i64 (.ofNat i))
 gr:bK 9 h0.nx h w i ((mc (l.take i)).flatMap Op.cs)
 oo:Og h0 h []
theorem Gf(h0:H)(va:AV)(l:List Op)(sl:br h0 va l.length (l.flatMap Op.cs)):bW P (.enter 9 [va] h0) fun v h'=>Og h0 h' []∧bK 9 h0.nx h' v (mc l).length ((mc l).flatMap Op.cs):=by
 have hlen:=sl.len (P:=P) vK;have vo:=cH sl;refine bn (fn:=Tryz.f9) (c:=bD Tryz.f9) Tryz.func9 rfl ?_;show bB P 9 49 none _ _ _ _ _;refine bp ?_;refine kM ?_;refine cn (fun m ds tm h=>∃i w,CoI h0 va l m ds tm h i w) 8 rfl ⟨0,.bh,rfl,rfl,aA _,by omega,by exact sT,by exact sT,by exact sT,bK.none,Og.refl _ _⟩ (fun m ds tm h hI=>?_);obtain⟨i,w,rfl,rfl,ii,i8,t0,t3,t4,gr,oo⟩:=hI;have nR:=gr.one;have x0:=oo.1.1;have fin:mc l=mc (l.take i)→Og h0 h []∧bK 9 h0.nx h w (mc l).length ((mc l).flatMap Op.cs):=fun e=>by
  rw[e,RW l i ii i8];exact⟨oo,gr⟩
 by_cases hi:i<l.length
 ·have di:decide (i<l.length)=true:=decide_eq_true hi
  have dX:(i<l.length)=True:=by simp[hi]
  by_cases h8:i<8
  ·have d8:decide (i<8)=true:=decide_eq_true h8
   obtain⟨x,hx⟩:∃x,l[i]? =some x:=⟨_,aw hi⟩;have jk:=br.only oo.1 sl (fun _ _=>by simp);obtain⟨bv,ov,cv,rfl,qw,-⟩:=jk.place (by omega);obtain⟨q0,q1,q2,q3,q4,q5,q6,q7,q8⟩:=Op.at jk hx;obtain⟨h2,cJ,o2,x2,y0,y1,y2,y3,y4,y5,y6,y7,y8⟩:=EH h x;have wy:cj h2 h.nx=true:=by rw[←cJ];exact F8 _ _ _ _
   have w1:bV .i64 (au i+au 1)=au (i+1):=cq (by omega);have m1:=RU x.key.length 20;have m2:=RU x.fin.length 20;have m3:=RU x.val.length 40;have c1:=RT x.key 20;have c2:=RT x.fin 20;have c3:=RT x.val 40;obtain⟨h3,cB⟩:∃h3,h3=((h2.cm h.nx 1 [.str (x.key.take 20)]).cm h.nx 2 [.str (x.fin.take 20)]).cm h.nx 3 [.str (x.val.take 40)]:=⟨_,rfl⟩;have K3:=(((bj.m9 y0 y1 y2 y3 y4 y5 y6 y7 y8).put wy (j:=1) (by simp) (.str (x.key.take 20))).put (by rw[bN];exact wy) (j:=2) (by simp) (.str (x.fin.take 20))).put (by rw[bN,bN];exact wy) (j:=3) (by simp) (.str (x.val.take 40));rw[az,az,az,←cB]at K3;have K3':bj h3 h.nx 0 (yN x).cs:=K3;obtain⟨z0,z1,z2,z3,z4,z5,z6,z7,z8⟩:=bj.u9 (show bj h3 h.nx 0 [.int .i64 x.kind,.str (x.key.take 20),.str (x.fin.take 20),.str (x.val.take 40),.int .u64 (.ofNat x.rev),.int .i64 x.dA,.bool x.count,.bool x.keys,.bool x.prev]from K3');have o3:Og h h3 []:=by rw[cB];exact((o2.cm (.inr (ak _))).cm (.inr (ak _))).cm (.inr (ak _))
   have x3:h3.nx=h2.nx:=by rw[cB,bI,bI,bI]
   obtain⟨h4,dm⟩:∃h4,h4=h3.bq 41 [.int .i64 x.kind,.str (x.key.take 20),.str (x.fin.take 20),.str (x.val.take 40),.int .u64 (.ofNat x.rev),.int .i64 x.dA,.bool x.count,.bool x.keys,.bool x.prev]:=⟨_,rfl⟩;have o4:Og h3 h4 []:=by rw[dm];exact(Og.refl _ _).new _ _
   have x4:h4.nx=h3.nx+1:=by rw[dm];rfl
   have eZ:h4.row h3.nx 0 9=some (yN x).cs:=gK (o:=0) (cs:=(yN x).cs) (fun j hj=>by rw[dm,bJ,az,if_pos rfl];rfl) (by simp[Op.cs]);have o34:=o3.t o4;have S5:bK 9 h0.nx h4 w _ _:=gr.bG o34.1.1 (fun c e=>o34.1.2 c (gr.base e).2 (by simp));refine rN ?_ (V t0<|V t3<|V t4<|V hlen<|V vo<|V di<|V dX<|V d8<|V q0<|V q1<|V q2<|V q3<|V q4<|V q5<|V q6<|V q7<|V q8<|V cJ<|V wy<|V y0<|V y1<|V y2<|V y3<|V y4<|V y5<|V y6<|V y7<|V y8<|V m1<|V m2<|V m3<|V @vG<|V c1<|V c2<|V c3<|V cB.symm<|V z0<|V z1<|V z2<|V z3<|V z4<|V z5<|V z6<|V z7<|V z8<|V nR<|V dm.symm<|eZ);refine dz (m:=1) (new:=(yN x).cs) S5 (by omega) (by omega) (by omega) rfl (by omega) (fun v7 h7 g7 x7 gV ud vM=>?_);have wG:=g7.one;refine rN ?_ (V t0<|V t3<|V t4<|V wG<|w1);refine⟨8-(i+1),by omega,i+1,v7,rfl,rfl,by omega,by omega,by exact sT,by exact sT,by exact sT,by rw[ZN h8 hx,aS,aU];exact g7,⟨⟨by omega,fun c hc _=>?_⟩,by rw[vM,o34.2,oo.2]⟩⟩;rw[gV c (by omega) (fun e=>by have:=(gr.base e).1;omega),o34.1.2 c (by omega) (by simp),oo.1.2 c hc (by simp)]
  ·have d8:decide (i<8)=false:=decide_eq_false h8
   obtain rfl:i=8:=by omega
   refine rN ?_ (V t0<|V t3<|V t4<|V hlen<|V vo<|V di<|V d8<|nR);exact fin (by unfold mc;rw[a_];rfl)
 ·have di:decide (i<l.length)=false:=decide_eq_false hi
  obtain rfl:i=l.length:=by omega
  refine rN ?_ (V t0<|V t3<|V t4<|V hlen<|V vo<|V di<|nR);exact fin (by rw[aJ])
def jU(r:Rq):Rq:={r with eO:=p_ r.eO,th:=mc r.th,el:=mc r.el}
structure CuI(h0:H)(b1 b2:Nat)(rq:List AV)(l:List iD)(m:Nat)(ds:List Nat)(tm:T AV)(h:H)(i:Nat)(w:AV):Prop where
 ds:ds=[]
 nn:m=6-i
 ii:i≤l.length
 i6:i≤6
 t1:tm.get 1=some (.ptr b1 0)
 t2:tm.get 2=some (.ptr b2 0)
 t3:tm.get 3=some w
 t4:tm.get 4=some (.int .i64 (.ofNat i))
 gr:bK 5 h0.nx h w i ((p_ (l.take i)).flatMap iD.cs)
 oo:Og h0 h []
theorem ZP(h:H)(x:iD):∃h1,(h.bq 68 [.str [],.int .i64 (.ofNat 0),.int .i64 (.ofNat 0),.int .u64 (.ofNat 0),.str []]).cm h.nx 0 [.str x.key,.int .i64 x.np,.int .i64 x.hY,.int .u64 (.ofNat x.n),.str x.val]=h1∧Og h h1 []∧h1.nx=h.nx+1∧cj h1 h.nx=true∧bj h1 h.nx 0 x.cs:=
 ⟨_,rfl,((Og.refl _ _).new _ _).cm (.inr (ak _)),by rw[bI,dt],F8 _ _ _ _,bj.box _ _ _ _⟩
theorem cutC(h0:H)(r:Rq)(vc vt ve:AV)(sc:br h0 vc r.eO.length (r.eO.flatMap iD.cs))(st:br h0 vt r.th.length (r.th.flatMap Op.cs))(se:br h0 ve r.el.length (r.el.flatMap Op.cs)):
  bW P (.enter 7 [.agg (r.cs vc vt ve)] h0) fun v h'=>Og h0 h' []∧∃wc wt we,v= .agg ((jU r).cs wc wt we)∧ua h' (jU r) wc wt we∧(∀c,bA wc=some c→h0.nx≤c)∧(∀c,bA wt=some c→h0.nx≤c)∧(∀c,bA we=some c→h0.nx≤c):=by
 have oc:=cH sc;have ot:=cH st;have oe:=cH se;have hlen:=sc.len (P:=P) Oi;obtain⟨h1,cC⟩:∃h1,h1=h0.bq 38 (r.cs vc vt ve):=⟨_,rfl⟩;have bx:=EM h0 r vc vt ve oc ot oe;rw[←cC]at bx;have o1:Og h0 h1 []:=by rw[cC];exact(Og.refl _ _).new _ _
 have x1:h1.nx=h0.nx+1:=by rw[cC];rfl
 have Y1:bj h1 h0.nx 0 (r.cs vc vt ve):=by rw[cC];exact bj.new _ _ _
 have wy1:cj h1 h0.nx=true:=by rw[cC];exact lu _ _ _
 obtain⟨h2,cJ⟩:∃h2,h2=h1.bq 38 [.int .i64 (.ofNat 0),.int .u64 (.ofNat 0),.int .u64 (.ofNat 0),.bool false,.bh,.bh,.bh,.int .u64 (.ofNat 0)]:=⟨_,rfl⟩;have o2:Og h1 h2 []:=by rw[cJ];exact(Og.refl _ _).new _ _
 have x2:h2.nx=h1.nx+1:=by rw[cJ];rfl
 have Z2:bj h2 h1.nx 0 [.int .i64 (.ofNat 0),.int .u64 (.ofNat 0),.int .u64 (.ofNat 0),.bool false,.bh,.bh,.bh,.int .u64 (.ofNat 0)]:=by rw[cJ];exact bj.new _ _ _
 have wz2:cj h2 h1.nx=true:=by rw[cJ];exact lu _ _ _
 have o02:=o1.t o2;have Y2:=gC Y1 o2 (by omega) (by simp);have wy2:=kw wy1 o2 (by omega) (by simp);refine bn (fn:=Tryz.f7) (c:=bD Tryz.f7) Tryz.func7 rfl ?_;show bB P 7 53 none _ _ _ _ _;refine bp ?_;refine rN ?_ (V bx<|cJ.symm);refine cn (fun m ds tm h=>∃i w,CuI h2 h0.nx h1.nx (r.cs vc vt ve) r.eO m ds tm h i w) 6 rfl ⟨0,.bh,rfl,rfl,aA _,by omega,by exact sT,by exact sT,by exact sT,by exact sT,bK.none,Og.refl _ _⟩ (fun m ds tm h hI=>?_);obtain⟨i,w,rfl,rfl,ii,i6,t1,t2,t3,t4,gr,oo⟩:=hI;have nR:=gr.one;have x0:=oo.1.1;have Yh:=gC Y2 oo (by omega) (by simp);have wyh:=kw wy2 oo (by omega) (by simp);obtain⟨y0,y1,y2,y3,y4,y5,y6,y7⟩:=Yh.u8
 -- behind the loop
 have fin:p_ r.eO=p_ (r.eO.take i)→∀bZ:T AV,bZ.get 1=some (.ptr h0.nx 0)→bZ.get 2=some (.ptr h1.nx 0)→bZ.get 3=some w→
   bB P 7 53 none (bL (bD Tryz.f7) [1,1,1]) [] bZ h (nc P Tryz.f7 fun v h'=>Og h0 h' []∧∃wc wt we,v= .agg ((jU r).cs wc wt we)∧ua h' (jU r) wc wt we∧(∀c,bA wc=some c→h0.nx≤c)∧(∀c,bA wt=some c→h0.nx≤c)∧(∀c,bA we=some c→h0.nx≤c)):=by
  intro ec bZ u1 u2 u3;have grc:=gr.cells;have hlc:(p_ r.eO).length=i:=by rw[ec,RX r.eO i ii i6]
  rw[←ec,←hlc]at gr;obtain⟨h3,cB⟩:∃h3,h3=h.cm h0.nx 4 [w]:=⟨_,rfl⟩;have Y3:=Yh.put wyh (j:=4) (by simp[Rq.cs]) w;rw[az,←cB]at Y3;have Y3':bj h3 h0.nx 0 [.int .i64 r.kind,.int .u64 (.ofNat r.lh),.int .u64 (.ofNat r.num),.bool r.lq,w,vt,ve,.int .u64 (.ofNat r.rev)]:=Y3;have wy3:cj h3 h0.nx=true:=by rw[cB,bN];exact wyh
  have o3:Og h h3 [h0.nx]:=by rw[cB];exact(Og.refl _ _).cm (.inl (by simp))
  have wF:Og h0 h3 []:=by rw[cB];exact(o02.t oo).cm (.inr (ak _))
  have x3:h3.nx=h.nx:=by rw[cB,bI]
  obtain⟨z0,z1,z2,z3,z4,z5,z6,z7⟩:=Y3'.u8;refine rN ?_ (V u1<|V u2<|V u3<|V y0<|V y1<|V y2<|V y3<|V y4<|V y5<|V y6<|V y7<|V wyh<|V nR<|V grc<|V cB.symm<|V z5<|ot);refine((Gf h3 vt r.th (br.only wF.1 st (fun _ _=>by simp))).call P).mono P ?_;rintro wt h4 ⟨o4,g4⟩;have g4o:=g4.one;have g4c:=g4.cells;have x4:=o4.1.1;have Y4:=gC Y3' o4 (by omega) (by simp);have wy4:=kw wy3 o4 (by omega) (by simp);obtain⟨h5,eL⟩:∃h5,h5=h4.cm h0.nx 5 [wt]:=⟨_,rfl⟩;have Y5:=Y4.put wy4 (j:=5) (by simp) wt;rw[az,←eL]at Y5;have Y5':bj h5 h0.nx 0 [.int .i64 r.kind,.int .u64 (.ofNat r.lh),.int .u64 (.ofNat r.num),.bool r.lq,w,wt,ve,.int .u64 (.ofNat r.rev)]:=Y5;have wy5:cj h5 h0.nx=true:=by rw[eL,bN];exact wy4
  have o5:Og h4 h5 [h0.nx]:=by rw[eL];exact(Og.refl _ _).cm (.inl (by simp))
  have F_:Og h0 h5 []:=by rw[eL];exact(wF.t o4).cm (.inr (ak _))
  have x5:h5.nx=h4.nx:=by rw[eL,bI]
  obtain⟨-,-,-,-,-,y45,-,-⟩:=Y4.u8;obtain⟨-,-,-,-,-,-,z55,-⟩:=Y5'.u8;refine rN ?_ (V u1<|V u2<|V g4o<|V g4c<|V y45<|V wy4<|V eL.symm<|V z55<|oe);refine((Gf h5 ve r.el (br.only F_.1 se (fun _ _=>by simp))).call P).mono P ?_;rintro we h6 ⟨o6,g6⟩;have Ut:=g6.one;have g6c:=g6.cells;have x6:=o6.1.1;have Y6:=gC Y5' o6 (by omega) (by simp);have wy6:=kw wy5 o6 (by omega) (by simp);obtain⟨h7,rR⟩:∃h7,h7=h6.cm h0.nx 6 [we]:=⟨_,rfl⟩;have Y7:=Y6.put wy6 (j:=6) (by simp) we;rw[az,←rR]at Y7;have Y7':bj h7 h0.nx 0 [.int .i64 r.kind,.int .u64 (.ofNat r.lh),.int .u64 (.ofNat r.num),.bool r.lq,w,wt,we,.int .u64 (.ofNat r.rev)]:=Y7;have o7:Og h6 h7 [h0.nx]:=by rw[rR];exact(Og.refl _ _).cm (.inl (by simp))
  have WL:Og h0 h7 []:=by rw[rR];exact(F_.t o6).cm (.inr (ak _))
  have x7:h7.nx=h6.nx:=by rw[rR,bI]
  obtain⟨-,-,-,-,-,-,y66,-⟩:=Y6.u8;obtain⟨a0,a1,a2,a3,a4,a5,a6,a7⟩:=Y7'.u8;have k37:∀c,c<h.nx→c≠h0.nx→h7.t.get c=h.t.get c:=fun c hc hn=>by rw[o7.1.2 c (by omega) (by simp[hn]),o6.1.2 c (by omega) (by simp),o5.1.2 c (by omega) (by simp[hn]),o4.1.2 c (by omega) (by simp),o3.1.2 c hc (by simp[hn])]
  have Z7:=(gC Z2 oo (by omega) (by simp)).bG (k37 h1.nx (by omega) (by omega));have wz7:cj h7 h1.nx=true:=by rw[bC (k37 h1.nx (by omega) (by omega))];exact kw wz2 oo (by omega) (by simp)
  obtain⟨b0,b1,b2,b3,b4,b5,b6,b7⟩:=Z7.u8;obtain⟨h8,oz⟩:∃h8,h8=h7.cm h1.nx 0 [.int .i64 r.kind,.int .u64 (.ofNat r.lh),.int .u64 (.ofNat r.num),.bool r.lq,w,wt,we,.int .u64 (.ofNat r.rev)]:=⟨_,rfl⟩;have Z8:bj h8 h1.nx 0 [.int .i64 r.kind,.int .u64 (.ofNat r.lh),.int .u64 (.ofNat r.num),.bool r.lq,w,wt,we,.int .u64 (.ofNat r.rev)]:=by rw[oz];exact bj.cm wz7 _
  obtain⟨c0,c1,c2,c3,c4,c5,c6,c7⟩:=Z8.u8;have k8:∀c,c≠h1.nx→h8.t.get c=h7.t.get c:=fun c hc=>by rw[oz,bT _ _ _ _ hc]
  have x8:h8.nx=h7.nx:=by rw[oz,bI]
  refine rN ?_ (V u1<|V u2<|V Ut<|V g6c<|V y66<|V wy6<|V rR.symm<|V a0<|V a1<|V a2<|V a3<|V a4<|V a5<|V a6<|V a7<|V nR<|V g4o<|V b0<|V b1<|V b2<|V b3<|V b4<|V b5<|V b6<|V b7<|V wz7<|V oz.symm<|V c0<|V c1<|V c2<|V c3<|V c4<|V c5<|V c6<|c7);have wb:∀c,bA w=some c→h2.nx≤c∧c<h.nx:=fun c e=>gr.base e;have tb:∀c,bA wt=some c→h3.nx≤c∧c<h4.nx:=fun c e=>g4.base e;have eb:∀c,bA we=some c→h5.nx≤c∧c<h6.nx:=fun c e=>g6.base e;refine⟨by rw[oz];exact WL.cm (.inr (by omega)),w,wt,we,rfl,⟨?_,?_,?_,?_,?_,?_⟩,fun c e=>by have:=wb c e;omega,fun c e=>by have:=tb c e;omega,fun c e=>by have:=eb c e;omega⟩
  ·exact gr.slice.move (by omega) (fun c e=>by have:=wb c e;rw[k8 c (by omega),k37 c (by omega) (by omega)])
  ·exact g4.slice.move (by omega) (fun c e=>by have:=tb c e;rw[k8 c (by omega),o7.1.2 c (by omega) (by simp;omega),o6.1.2 c (by omega) (by simp),o5.1.2 c (by omega) (by simp;omega)])
  ·exact g6.slice.move (by omega) (fun c e=>by have:=eb c e;rw[k8 c (by omega),o7.1.2 c (by omega) (by simp;omega)])
  ·show(p_ r.eO).length≤_;omega
  ·show(mc r.th).length≤_;unfold mc;rw[aX,aC];omega
  ·show(mc r.el).length≤_;unfold mc;rw[aX,aC];omega
 by_cases hi:i<r.eO.length
 ·have di:decide (i<r.eO.length)=true:=decide_eq_true hi
  have dX:(i<r.eO.length)=True:=by simp[hi]
  by_cases h6:i<6
  ·have d6:decide (i<6)=true:=decide_eq_true h6
   obtain⟨x,hx⟩:∃x,r.eO[i]? =some x:=⟨_,aw hi⟩;have jk:=br.only (o02.t oo).1 sc (fun _ _=>by simp);clear fin;obtain⟨bv,ov,cv,rfl,qw,-⟩:=jk.place (by omega);obtain⟨q0,q1,q2,q3,q4⟩:=iD.at jk hx;obtain⟨h3,cB,o3,x3,wk,K3⟩:=ZP h x;obtain⟨k0,k1,k2,k3,k4⟩:=bj.u5 (show bj h3 h.nx 0 [.str x.key,.int .i64 x.np,.int .i64 x.hY,.int .u64 (.ofNat x.n),.str x.val]from K3);have w1:bV .i64 (au i+au 1)=au (i+1):=cq (by omega);have m1:=RU x.key.length 20;have m3:=RU x.val.length 40;have c1:=RT x.key 20;have c3:=RT x.val 40;obtain⟨h4,dm⟩:∃h4,h4=(h3.cm h.nx 0 [.str (x.key.take 20)]).cm h.nx 4 [.str (x.val.take 40)]:=⟨_,rfl⟩;have K4:=(K3.put wk (j:=0) (by simp[iD.cs]) (.str (x.key.take 20))).put (by rw[bN];exact wk) (j:=4) (by simp[iD.cs]) (.str (x.val.take 40));rw[az,az,←dm]at K4;obtain⟨z0,z1,z2,z3,z4⟩:=bj.u5 (show bj h4 h.nx 0 [.str (x.key.take 20),.int .i64 x.np,.int .i64 x.hY,.int .u64 (.ofNat x.n),.str (x.val.take 40)]from K4);have o4:Og h h4 []:=by rw[dm];exact(o3.cm (.inr (ak _))).cm (.inr (ak _))
   have x4:h4.nx=h3.nx:=by rw[dm,bI,bI]
   obtain⟨h5,eL⟩:∃h5,h5=h4.bq 68 [.str (x.key.take 20),.int .i64 x.np,.int .i64 x.hY,.int .u64 (.ofNat x.n),.str (x.val.take 40)]:=⟨_,rfl⟩;have o5:Og h4 h5 []:=by rw[eL];exact(Og.refl _ _).new _ _
   have x5:h5.nx=h4.nx+1:=by rw[eL];rfl
   have eZ:h5.row h4.nx 0 5=some (Cl x).cs:=gK (o:=0) (cs:=(Cl x).cs) (fun j hj=>by rw[eL,bJ,az,if_pos rfl];rfl) (by simp[iD.cs]);have F6:=o4.t o5;have S4:bK 5 h2.nx h5 w _ _:=gr.bG F6.1.1 (fun c e=>F6.1.2 c (gr.base e).2 (by simp));refine rN ?_ (V t1<|V t2<|V t3<|V t4<|V y4<|V hlen<|V oc<|V di<|V dX<|V d6<|V q0<|V q1<|V q2<|V q3<|V q4<|V cB<|V wk<|V k0<|V k1<|V k2<|V k3<|V k4<|V m1<|V m3<|V @vG<|V c1<|V c3<|V dm.symm<|V z0<|V z1<|V z2<|V z3<|V z4<|V nR<|V eL.symm<|eZ);refine dz (m:=1) (new:=(Cl x).cs) S4 (by omega) (by omega) (by omega) rfl (by omega) (fun v7 h7 g7 x7 gV ud vM=>?_);have wG:=g7.one;refine rN ?_ (V t1<|V t2<|V t3<|V t4<|V wG<|w1);refine⟨6-(i+1),by omega,i+1,v7,rfl,rfl,by omega,by omega,by exact sT,by exact sT,by exact sT,by exact sT,by rw[ZO h6 hx,aS,aU];exact g7,⟨⟨by omega,fun c hc _=>?_⟩,by rw[vM,F6.2,oo.2]⟩⟩;rw[gV c (by omega) (fun e=>by have:=(gr.base e).1;omega),F6.1.2 c (by omega) (by simp),oo.1.2 c hc (by simp)]
  ·have d6:decide (i<6)=false:=decide_eq_false h6
   obtain rfl:i=6:=by omega
   repeat' (first|(with_reducible refine rB [1,1,1] ?_)|((with_reducible refine gh ?_);(conv =>whnf);(with_reducible refine⟨?_⟩))|((with_reducible refine bE rfl ?_);(conv =>arg 2;whnf))|((with_reducible first|refine iB ?_ ?_|refine g_ ?_ ?_|refine hP ?_ ?_)<;>intro hb<;>(try simp only[hb]))|(simp only[B,F,ab,ae,af,ag,ah,ai, ↓reduceIte,eq_self,t1,t2,t3,t4,y4,hlen,oc,di,d6]))
   refine⟨?_⟩;exact fin (by unfold p_;rw[a_];rfl) _ (by exact sT) (by exact sT) (by exact sT)
 ·have di:decide (i<r.eO.length)=false:=decide_eq_false hi
  obtain rfl:i=r.eO.length:=by omega
  repeat' (first|(with_reducible refine rB [1,1,1] ?_)|((with_reducible refine gh ?_);(conv =>whnf);(with_reducible refine⟨?_⟩))|((with_reducible refine bE rfl ?_);(conv =>arg 2;whnf))|((with_reducible first|refine iB ?_ ?_|refine g_ ?_ ?_|refine hP ?_ ?_)<;>intro hb<;>(try simp only[hb]))|(simp only[B,F,ab,ae,af,ag,ah,ai, ↓reduceIte,eq_self,t1,t2,t3,t4,y4,hlen,oc,di]))
  refine⟨?_⟩;exact fin (by rw[aJ]) _ (by exact sT) (by exact sT) (by exact sT)
theorem UY:yes (Lk P Mv 100000 22 [] ⟨.e,0,0⟩)=true:=by kernel_rfl
theorem UZ:LJ P 22 (.bool true):=fun w=>
 (Km uc UY w).mono fun e w' h=>⟨fun _=>none,.bool true,h.1,by simp,h.2⟩
theorem ZQ(h:H):kL P (.enter 22 [] h) (cQ h (.bool true)):=
 kL.uY P (FM (by kernel_rfl) UZ) (v:=.bool true) (h':=h) rfl ⟨rfl,Og.refl _ _⟩
theorem MN(r:Rq)(tk:Bool):(jP (jU r) tk).length≤8:=by
 unfold jP jU mc;split<;>(simp only[aX,aC];omega)
theorem U0(r:Rq)(tk:Bool):∀o,o∈jP (jU r) tk→o.key.length≤1000000:=by
 have h:∀(l:List Op) o,o∈mc l→o.key.length≤1000000:=fun l o ho=>by
  unfold mc at ho;obtain⟨x,-,rfl⟩:=List.mem_map.1 ho;show(x.key.take 20).length≤_;rw[aC];omega
 unfold jP;split
 ·exact h _
 ·exact h _
theorem Cm{r:Rq}(h:cW r=0)(tk:Bool):(jP r tk).length≤6:=by
 unfold cW at h;split at h
 ·rename_i q
  unfold jP;split
  ·exact q.2.2.1
  ·exact q.2.2.2.1
 ·cases h
theorem oY.mono{n m rev:Nat}{L:List Rec}(h:oY n rev L)(hm:n≤m):oY m rev L:=⟨h.sh,aD h.vw hm,aD h.ln (Nat.mul_le_mul_right _ hm)⟩
theorem oY.up{n rev:Nat}{L:List Rec}(h:oY n rev L)(hm:∀x,x∈L→x.main≤rev):oY n (rev+1) L:=⟨h.sh,by rw[←KU hm];exact h.vw,h.ln⟩
structure WV(n rev:Nat)(L:List Rec):Prop where
 sz:oY n rev L
 mn:∀x,x∈L→x.main≤rev
theorem Oy{L R:List Rec}(h:dI (L++R)):dI R:=fun r hr=>h r (by simp[hr])
theorem WV.ops{n rev:Nat}{L:List Rec}(h:WV n rev L)(hn:n≤240)(r:Rq)(tk:Bool)(i:Nat)(hi:i≤(jP (jU r) tk).length):oY (n+i) (rev+1) (L++(fy rev L ((jP (jU r) tk).take i)).2):=
 Ck _ i hi (U0 r tk) (h.sz.up h.mn) (by have:=MN r tk;omega)
theorem WV.hB{n rev:Nat}{L:List Rec}(h:WV n rev L)(hn:n≤240)(r:Rq)(tk:Bool)(i:Nat)(hi:i≤(jP (jU r) tk).length):dI (fy rev L ((jP (jU r) tk).take i)).2∧(fy rev L ((jP (jU r) tk).take i)).2.length≤200000:=by
 have s:=h.ops hn r tk i hi;have:=MN r tk;have h2:=s.ln;rw[ao]at h2;exact⟨Oy s.sh,by omega⟩
theorem ER(rev comp:Nat)(L:List Rec)(r:Rq):((e_ rev comp L r).rs=[]∧(e_ rev comp L r).R=[])∨(cW r=0∧∃tk,(e_ rev comp L r).rs=(fy rev L (jP r tk)).1∧(e_ rev comp L r).R=(fy rev L (jP r tk)).2):=by
 unfold e_;split
 ·rename_i q
  split
  ·exact .inl ⟨rfl,rfl⟩
  ·split
   ·exact .inr ⟨q,_,rfl,rfl⟩
   ·exact .inl ⟨rfl,rfl⟩
 ·exact .inl ⟨rfl,rfl⟩
theorem RY{n rev comp:Nat}{L:List Rec}(h:WV n rev L)(hn:n≤240)(r:Rq):WV (n+6) (fN rev comp L (jU r)).rev (L++(fN rev comp L (jU r)).R)∧(fN rev comp L (jU r)).rev≤rev+1:=by
 unfold fN;split
 ·simp only
  rcases ER rev comp L (jU r)with⟨-,e⟩|⟨hc,tk,-,e⟩
  ·rw[e,if_pos rfl,aq]
   exact⟨⟨h.sz.mono (by omega),h.mn⟩,by omega⟩
  ·rw[e]
   have s:=h.ops hn r tk _ (ak _);have hm:=xD (rev:=rev) (L:=L) (jP (jU r) tk) _ (ak _);rw[aJ]at s hm;have hl:=Cm hc tk;by_cases q:(fy rev L (jP (jU r) tk)).2=[]
   ·rw[if_pos q,q,aq]
    exact⟨⟨h.sz.mono (by omega),h.mn⟩,by omega⟩
   ·rw[if_neg q]
    refine⟨⟨s.mono (by omega),fun x hx=>?_⟩,by omega⟩;rcases List.mem_append.1 hx with q|q
    ·have:=h.mn x q;omega
    ·rw[hm x q];exact ak _
 ·split
  ·rw[aq];exact⟨⟨h.sz.mono (by omega),h.mn⟩,aag _⟩
  ·rw[aq];exact⟨⟨h.sz.mono (by omega),h.mn⟩,aag _⟩
abbrev RQ:=Rq×AV×AV×AV
def Dg(x:RQ):List AV:=x.1.cs x.2.1 x.2.2.1 x.2.2.2
theorem RQlen(x:RQ):(Dg x).length=8:=rfl
structure RZ(h:H)(x:RQ):Prop where
 sc:br h x.2.1 x.1.eO.length (x.1.eO.flatMap iD.cs)
 st:br h x.2.2.1 x.1.th.length (x.1.th.flatMap Op.cs)
 se:br h x.2.2.2 x.1.el.length (x.1.el.flatMap Op.cs)
theorem RQ.at{h:H}{b o n:Nat}{cap:ur}{l:List RQ}(sl:br h (.slice b o n cap) n (l.flatMap Dg)){i:Nat}{x:RQ}(hx:l[i]? =some x):cellAt h b (o+i*8)=some (.int .i64 x.1.kind)∧cellAt h b (o+(i*8+1))=some (.int .u64 (.ofNat x.1.lh))∧cellAt h b (o+(i*8+2))=some (.int .u64 (.ofNat x.1.num))∧cellAt h b (o+(i*8+3))=some (.bool x.1.lq)∧cellAt h b (o+(i*8+4))=some x.2.1∧cellAt h b (o+(i*8+5))=some x.2.2.1∧cellAt h b (o+(i*8+6))=some x.2.2.2∧cellAt h b (o+(i*8+7))=some (.int .u64 (.ofNat x.1.rev)):=by
 have g:∀k,k<8→cellAt h b (o+(i*8+k))=(Dg x)[k]? :=fun k hk=>jv RQlen sl hx hk;exact⟨g 0 (by omega),g 1 (by omega),g 2 (by omega),g 3 (by omega),g 4 (by omega),g 5 (by omega),g 6 (by omega),g 7 (by omega)⟩
theorem u22a:P.underlying 22=some (.slice 38):=by kernel_rfl
structure R3(h0 h:H)(bm iq b:Nat)(n:Nat)(L:List Rec)(rev comp:Nat)(v v2:AV):Prop where
 md:l_ h bm L rev comp v
 gv:bK 8 0 h v L.length (L.flatMap Rec.cs)
 s:jM h b L rev comp v2 [] .bh 0
 km:cellAt h iq 0=some (.ptr b 0)
 l0:h0.nx≤bm
 l2:h0.nx≤iq
 lb:h0.nx≤b
 Tb:iq<h.nx
 n1:bm≠iq
 n2:bm≠b
 n3:iq≠b
 nv:∀c,bA v=some c→c≠bm∧c≠b
 nv2:∀c,bA v2=some c→c≠bm∧c≠b
 ok:WV n rev L
 oo:Og h0 h []
theorem R3.bU{h0 h h':H}{bm iq b n rev comp:Nat}{L:List Rec}{v v2:AV}(w:R3 h0 h bm iq b n L rev comp v v2)(o:Og h h' []):R3 h0 h' bm iq b n L rev comp v v2:=
 ⟨w.md.bU o.1.1 (o.1.2 bm w.md.lt (by simp)) (fun c e=>o.1.2 c (w.gv.base e).2 (by simp)),w.gv.bG o.1.1 (fun c e=>o.1.2 c (w.gv.base e).2 (by simp)),w.s.bU o,kc w.km o w.Tb (by simp),w.l0,w.l2,w.lb,aN w.Tb o.1.1,w.n1,w.n2,w.n3,w.nv,w.nv2,w.ok,w.oo.t o⟩
theorem mok0:WV 0 1 []:=⟨⟨fun r h=>(by cases h),ak _,ak _⟩,fun x h=>(by cases h)⟩
theorem iV.ne{h h':H}{dE:AV}{xs:List RV}(k:iV h dE xs){S:List Nat}(o:Og h h' S)(b1:∀c,bA dE=some c→c∉S)(b2:∀x,x∈xs→(∀c,bA x.2.1=some c→c∉S)∧(∀c,bA x.2.2=some c→c∉S)):iV h' dE xs:=
 ⟨k.gr.move o.1.1 (fun c e=>o.1.2 c (gz k.gr c e) (b1 c e)),fun x hx=>⟨(k.ok x hx).1.move o.1.1 (fun c e=>o.1.2 c (gz (k.ok x hx).1 c e) ((b2 x hx).1 c e)),(k.ok x hx).2.move o.1.1 (fun c e=>o.1.2 c (gz (k.ok x hx).2 c e) ((b2 x hx).2 c e))⟩⟩
theorem I5{k:List Nat}:∀{W:View},k∈W.map (·.1)→(ub k W).length+1=W.length
 |[],h=>by cases h
 | (a,x)::W,h=>by
  unfold ub;by_cases q:k=a
  ·rw[if_pos q];rfl
  ·rw[if_neg q,aO,aO]
   rw[aE,bg]at h;have:=I5 (h.resolve_left q);omega
theorem I6{k a:List Nat}(q:¬a=k):∀{W:View},a∈W.map (·.1)→a∈(ub k W).map (·.1)
 |[],h=>by cases h
 | (b,x)::W,h=>by
  rw[aE,bg]at h;unfold ub;by_cases q2:k=b
  ·rw[if_pos q2]
   rcases h with e|h
   ·exact absurd (e.trans q2.symm) q
   ·exact h
  ·rw[if_neg q2,aE,bg]
   rcases h with e|h
   ·exact .inl e
   ·exact .inr (I6 q h)
theorem MO{rev:Nat}:∀(l:List KV)(L R:List Rec),(l.map (·.key)).Nodup→(∀x,x∈l→x.key∈(dg (rev+1) (L++R)).map (·.1))→(L++fx rev R l).length+(dg (rev+1) (L++fx rev R l)).length=(L++R).length+(dg (rev+1) (L++R)).length
 |[],L,R,_,_=>rfl
 | x::l,L,R,nd,hm=>by
  rw[aE,aaa]at nd;have e:dg (rev+1) (L++iU rev R x)=ub x.key (dg (rev+1) (L++R)):=by
   unfold iU;rw[←aF,vP (rev+1) _ (rO rev R ⟨x.key,[],0,0,0⟩ true) (ak _)];rfl
  have ih:=MO (rev:=rev) l L (iU rev R x) nd.2 (fun y hy=>by
   rw[e];exact I6 (fun e2=>nd.1 (List.mem_map.2 ⟨y,hy,e2⟩)) (hm y (by simp[hy])))
  show(L++fx rev (iU rev R x) l).length+(dg (rev+1) (L++fx rev (iU rev R x) l)).length=_;rw[ih,e];have:=I5 (hm x (by simp));unfold iU;simp only[ao,aO,aaf];omega
structure Gg(n rev:Nat)(x:Rec):Prop where
 lo:1≤x.main
 mn:x.main≤rev
 sb:x.sub≤2*n
 cr:x.kv.iC≤rev
 md:x.kv.mod≤rev
 vr:x.kv.im≤n
 kl:x.kv.key.length≤20
 vl:x.kv.val.length≤40
theorem Gg.up{n m rev rev2:Nat}{x:Rec}(h:Gg n rev x)(h1:n≤m)(h2:rev≤rev2):Gg m rev2 x:=⟨h.lo,aD h.mn h2,aD h.sb (aan 2 h1),aD h.cr h2,aD h.md h2,aD h.vr h1,h.kl,h.vl⟩
def kq(a b:Rec):Prop:=a.main<b.main∨a.main=b.main∧a.sub<b.sub
structure qA(n rev:Nat)(L:List Rec):Prop where
 sh:dI L
 so:L.Pairwise kq
 nm:∀x,x∈L→Gg n rev x
 ln:L.length+(dg rev L).length≤2*n
structure KX(n rev:Nat)(L R:List Rec):Prop where
 sh:dI (L++R)
 sb:∀(i:Nat) x,R[i]? =some x→x.main=rev+1∧x.sub=i
 nm:∀x,x∈L++R→Gg n (rev+1) x
 ln:(L++R).length+(dg (rev+1) (L++R)).length≤2*n
theorem MP{m:Nat}:∀(L:List Rec)(W:View)(M:List Rec),(∀p,p∈W→p.2∈M)→∀p,p∈L.foldl (fun W r=>if r.main≤m then fw W r else W) W→p.2∈M++L
 |[],W,M,h,p,hp=>by rw[aq];exact h p hp
 | r::L,W,M,h,p,hp=>by
  rw[aab]at hp;have:=MP L (if r.main≤m then fw W r else W) (M++[r]) (fun p hp=>by
   split at hp
   ·rcases B_ hp with rfl|q
    ·simp
    ·simp[h p q]
   ·simp[h p hp]) p hp
  simpa using this
theorem R4{m:Nat}{L:List Rec}{k:List Nat}{r:Rec}(h:dP k (dg m L)=some r):r∈L:=by
 have:=MP (m:=m) L [] [] (fun p hp=>by cases hp) (k,r) (vT h);simpa using this
theorem I7{rev:Nat}{R:List Rec}(h:∀(i:Nat) x,R[i]? =some x→x.main=rev+1∧x.sub=i)(kv:KV)(t:Bool):∀(i:Nat) x,(R++[rO rev R kv t])[i]? =some x→x.main=rev+1∧x.sub=i:=fun i x hx=>by
 by_cases q:i<R.length
 ·rw[List.getElem?_append_left q]at hx;exact h i x hx
 ·rw[List.getElem?_append_right (by omega)]at hx
  have :i-R.length=0:=by
   by_cases q2:i-R.length=0
   ·exact q2
   ·rw[List.getElem?_eq_none (by simp;omega)]at hx;cases hx
  rw[this]at hx;simp at hx;subst hx;exact⟨rfl,by show R.length=i;omega⟩
theorem ES{rev:Nat}:∀(l:List KV)(R:List Rec),(∀(i:Nat) x,R[i]? =some x→x.main=rev+1∧x.sub=i)→∀(i:Nat) x,(fx rev R l)[i]? =some x→x.main=rev+1∧x.sub=i
 |[],R,h=>h
 |y::l,R,h=>ES l (iU rev R y) (I7 h _ _)
theorem MQ{n rev:Nat}{L:List Rec}:∀(l:List KV)(R:List Rec),(∀x,x∈l→x.key.length≤20)→(R.length+l.length≤2*n)→(∀x,x∈L++R→Gg n (rev+1) x)→∀x,x∈L++fx rev R l→Gg n (rev+1) x
 |[],R,_,_,h=>h
 | y::l,R,hk,hl,h=>MQ l (iU rev R y) (fun x hx=>hk x (by simp[hx])) (by unfold iU;simp only[ao,aO,aaf]at hl ⊢;omega) (fun x hx=>by
  unfold iU at hx;rw[←aF]at hx;rcases List.mem_append.1 hx with q|q
  ·exact h x q
  ·rw[aH]at q;subst q
   simp only[aO]at hl;exact⟨aad (aA _),ak _,by show R.length≤2*n;omega,aA _,aA _,aA _,hk y (by simp),aA _⟩)
theorem U1(v:Nat):IN v≤v+1:=by unfold IN;exact Nat.mod_le _ _
theorem ZR{n rev:Nat}{L R:List Rec}{op:Op}(hk:op.key.length≤20)(hv:op.val.length≤40)(h:KX n rev L R):KX (n+1) rev L (sI rev L R op).2:=by
 obtain⟨sh,sb,nm,ln⟩:=h;have nm1:∀x,x∈L++R→Gg (n+1) (rev+1) x:=fun x hx=>(nm x hx).up (aag _) (ak _);unfold sI;split
 ·exact⟨sh,sb,nm1,by simp only;omega⟩
 ·split
  ·obtain⟨kv,sQ⟩:∃kv,kv=oV rev op (dP op.key (dg (rev+1) (L++R))):=⟨_,rfl⟩
   have kk:kv.key=op.key∧kv.val=op.val∧kv.iC≤rev+1∧kv.mod≤rev+1∧kv.im≤n+1:=by
    rw[sQ];cases q:dP op.key (dg (rev+1) (L++R))with
    |none=>exact⟨rfl,rfl,ak _,ak _,aad (aA _)⟩
    |some r=>
     have:=nm r (R4 q);exact⟨rfl,rfl,this.cr,ak _,aD (U1 _) (aad this.vr)⟩
   obtain⟨k1,k2,k3,k4,k5⟩:=kk;simp only;rw[←sQ];have ll:R.length≤2*n:=by rw[ao]at ln;omega
   refine⟨?_,I7 sb _ _,?_,?_⟩
   ·intro r hr
    rw[←aF]at hr;rcases List.mem_append.1 hr with q|q
    ·exact sh r q
    ·rw[aH]at q;subst q
     show kv.key.length≤_;rw[k1];omega
   ·intro r hr
    rw[←aF]at hr;rcases List.mem_append.1 hr with q|q
    ·exact nm1 r q
    ·rw[aH]at q;subst q
     exact⟨aad (aA _),ak _,by show R.length≤_;omega,k3,k4,k5,by show kv.key.length≤_;rw[k1];exact hk,by show kv.val.length≤_;rw[k2];exact hv⟩
   ·rw[←aF,vP (rev+1) _ (rO rev R kv false) (ak _),ao]
    have:=Ca (dg (rev+1) (L++R)) (rO rev R kv false);simp only[aO,aaf];omega
  ·have v:=rQ (main:=rev+1) sh
   have hr:=IY v op.key op.fin;obtain⟨l,hl⟩:∃l,l=ny (dg (rev+1) (L++R)) op.key op.fin:=⟨_,rfl⟩;have nd:(l.map (·.key)).Nodup:=by
    rw[hl];unfold Cf at hr;rw[List.nodup_iff_pairwise_ne,List.pairwise_map];exact hr.imp fun{a b} h e=>by rw[e]at h;exact absurd h (List.lt_irrefl _)
   have hm:∀x,x∈l→x.key∈(dg (rev+1) (L++R)).map (·.1):=fun x hx=>by
    rw[hl]at hx;obtain⟨k,hk,-,rfl⟩:=(Gc op.key op.fin x).1 hx;rw[mK v hk];exact hk
   have hk20:∀x,x∈l→x.key.length≤20:=fun x hx=>by
    obtain⟨r,hr⟩:=Option.isSome_iff_exists.1 (jQ.2 (hm x hx));have h1:=(v.ky _ (vT hr)).1;simp only at h1;rw[←h1];exact(nm r (R4 hr)).kl
   have dl:=MO (rev:=rev) l L R nd hm;simp only;rw[←hl];have ll:R.length+l.length≤2*n:=by
    have:=lF (dg (rev+1) (L++R)) op.key op.fin;rw[←hl]at this;rw[ao]at ln;omega
   refine⟨uh _ _ _ (fun x hx=>aD (hk20 x hx) (by omega)) sh,ES _ _ sb,fun x hx=>(MQ l R hk20 ll nm x hx).up (aag _) (ak _),by rw[dl];omega⟩
theorem MS{n rev:Nat}{L:List Rec}:∀(l:List Op)(i:Nat),i≤l.length→(∀o,o∈l→o.key.length≤20∧o.val.length≤40)→KX n rev L []→KX (n+i) rev L (fy rev L (l.take i)).2
 |l,0,_,_,h=>by rw[aal];exact h
 |l,i+1,hi,hk,h=>by
  obtain⟨o,ho⟩:∃o,l[i]? =some o:=⟨_,aw (by omega)⟩;rw[Cb ho];have ih:=MS l i (by omega) hk h;exact ZR (hk o (aB ho)).1 (hk o (aB ho)).2 ih
theorem qA.t{n rev:Nat}{L:List Rec}(h:qA n rev L):KX n rev L []:=by
 refine⟨by rw[aq];exact h.sh,fun i x hx=>by simp at hx,fun x hx=>?_,?_⟩
 ·rw[aq]at hx;exact(h.nm x hx).up (ak _) (aag _)
 ·rw[aq,←KU (fun x hx=>(h.nm x hx).mn)];exact h.ln
theorem KX.e{n rev:Nat}{L R:List Rec}(h:KX n rev L R)(so:L.Pairwise kq)(hm:∀x,x∈L→x.main≤rev):qA n (rev+1) (L++R):=by
 refine⟨h.sh,?_,h.nm,h.ln⟩;rw[List.pairwise_append];refine⟨so,?_,fun x hx y hy=>?_⟩
 ·rw[List.pairwise_iff_getElem]
  intro i j hi hj hij;have h1:=h.sb i R[i] (aw hi);have h2:=h.sb j R[j] (aw hj);exact .inr ⟨by rw[h1.1,h2.1],by rw[h1.2,h2.2];exact hij⟩
 ·obtain⟨i,hi⟩:=List.mem_iff_getElem?.1 hy
  have h1:=h.sb i y hi;have h2:=hm x hx;exact .inl (by omega)
theorem qA.mono{n m rev:Nat}{L:List Rec}(h:qA n rev L)(hm:n≤m):qA m rev L:=⟨h.sh,h.so,fun x hx=>(h.nm x hx).up hm (ak _),aD h.ln (aan 2 hm)⟩
theorem ZS(r:Rq)(tk:Bool):∀o,o∈jP (jU r) tk→o.key.length≤20∧o.val.length≤40:=by
 have h:∀(l:List Op) o,o∈mc l→o.key.length≤20∧o.val.length≤40:=fun l o ho=>by
  unfold mc at ho;obtain⟨x,-,rfl⟩:=List.mem_map.1 ho;show(x.key.take 20).length≤_∧(x.val.take 40).length≤_;rw[aC,aC];omega
 unfold jP;split
 ·exact h _
 ·exact h _
theorem R5{n rev comp:Nat}{L:List Rec}(h:qA n rev L)(r:Rq):qA (n+6) (fN rev comp L (jU r)).rev (L++(fN rev comp L (jU r)).R):=by
 unfold fN;split
 ·simp only
  rcases ER rev comp L (jU r)with⟨-,e⟩|⟨hc,tk,-,e⟩
  ·rw[e,if_pos rfl,aq];exact h.mono (by omega)
  ·rw[e]
   have s:=MS (jP (jU r) tk) _ (ak _) (ZS r tk) h.t;rw[aJ]at s;have hl:=Cm hc tk;by_cases q:(fy rev L (jP (jU r) tk)).2=[]
   ·rw[if_pos q,q,aq];exact h.mono (by omega)
   ·rw[if_neg q]
    exact(s.e h.so (fun x hx=>(h.nm x hx).mn)).mono (by omega)
 ·split
  ·rw[aq];exact h.mono (by omega)
  ·rw[aq];exact h.mono (by omega)
theorem sq:qA 0 1 []:=⟨fun r h=>(by cases h),List.Pairwise.nil,fun x h=>(by cases h),ak _⟩
def ET(main:Nat)(L:List Rec):List KV:=ny (dg main L) [] [0]
theorem Oz{main:Nat}{L:List Rec}(h:dI L):(ET main L).length≤L.length:=aD (lF _ _ _) (lE h)
theorem foldC(h0:H)(bm:Nat)(L:List Rec)(rev comp:Nat)(v:AV)(md:l_ h0 bm L rev comp v)(nv:∀c,bA v=some c→c<h0.nx)(main:Nat)(hs:dI L)(hz:L.length≤1000000):
  bW P (.enter 14 [.ptr bm 0,.int .u64 (.ofNat main)] h0) fun w h'=>Og h0 h' []∧bK 5 h0.nx h' w (ET main L).length ((ET main L).flatMap KV.cs):=by
 refine bn (fn:=Tryz.f14) (c:=bD Tryz.f14) Tryz.func14 rfl ?_;show bB P 14 11 none _ _ _ _ _;refine bp ?_;refine kM ?_;refine((atC h0 bm main L v md.lt md.c0 md.sl hz nv).call P).mono P ?_;rintro _ h1 ⟨ro,rfl,pW,o1,m1⟩;refine kM ?_;have pV:=rQ (main:=main) hs;refine((zA h1 ro _ [] [0] m1 pV.nd (by have:=lE (main:=main) hs;omega) (fun p hp=>(pV.ky p hp).2)).call P).mono P ?_;rintro w h2 ⟨o2,g2⟩;have go2:=g2.one;have x1:=o1.1.1;refine rN ?_ (go2);exact⟨o1.t o2,g2.wk x1⟩
structure Ev where
 main:Nat
 sub:Nat
 dW:Bool
 kv:KV
 prev:KV
def Ev.cs(x:Ev):List AV:=[.int .u64 (.ofNat x.main),.int .u64 (.ofNat x.sub),.bool x.dW,.str x.kv.key,.str x.kv.val,.int .u64 (.ofNat x.kv.iC),.int .u64 (.ofNat x.kv.mod),.int .u64 (.ofNat x.kv.im),.str x.prev.key,.str x.prev.val,.int .u64 (.ofNat x.prev.iC),.int .u64 (.ofNat x.prev.mod),.int .u64 (.ofNat x.prev.im)]
structure KY where
 v:View
 main:Nat
 w:List Rec
 out:List Ev
def ku(s:KY)(r:Rec):KY:=if r.main=s.main then s else⟨s.w.foldl fw s.v,r.main,[],s.out⟩
def Dh(V:View)(r:Rec):Ev:=⟨r.main,r.sub,r.dW,r.kv,gu r.kv.key V⟩
def tF(lo:Nat)(key fin:List Nat)(s:KY)(r:Rec):KY:=⟨s.v,s.main,s.w++[r],s.out++(if lo≤s.main∧fL r.kv.key key fin=true then[Dh s.v r]else[])⟩
def me(lo:Nat)(key fin:List Nat)(s:KY)(r:Rec):KY:=tF lo key fin (ku s r) r
structure sU(hk:H)(ro dZ iJ gd fT:Nat)(R:fC)(s:KY)(h:H)(w wv:AV):Prop where
 nx:hk.nx+2≤h.nx
 old:∀b,b<hk.nx→b≠ro→b≠dZ→b≠gd→b≠fT→h.t.get b=hk.t.get b
 lp:h.t.get (hk.nx+1)=some (.loop R)
 df:h.t.get hk.nx=some (.deferred (some []))
 mp:fu encS h ro (mR s.v)
 g:h.g=hk.g
 MT:cellAt h dZ 0=some w
 R6:cj h dZ=true
 R8:cellAt hk iJ 0=some (.map ro)
 Dd:cellAt h gd 0=some (.int .u64 (.ofNat s.main))
 MU:cj h gd=true
 JD:cellAt h fT 0=some wv
 OA:cj h fT=true
 gw:bK 13 (hk.nx+2) h w s.out.length (s.out.flatMap Ev.cs)
 gv:bK 8 (hk.nx+2) h wv s.w.length (s.w.flatMap Rec.cs)
 dj:∀c,bA w=some c→bA wv≠some c
structure O5(hk:H)(ro dZ iJ gd fT:Nat):Prop where
 lr:ro<hk.nx
 JB:dZ<hk.nx
 l12:iJ<hk.nx
 O6:gd<hk.nx
 MV:fT<hk.nx
 n1:dZ≠ro
 n2:iJ≠ro
 n3:gd≠ro
 n4:fT≠ro
 m1:iJ≠dZ
 m2:gd≠dZ
 m3:fT≠dZ
 m4:gd≠iJ
 m5:fT≠iJ
 m6:fT≠gd
section
variable{hk h h':H}{ro dZ iJ gd fT:Nat}{R:fC}{s:KY}{w wv:AV}
theorem sU.bU(j:sU hk ro dZ iJ gd fT R s h w wv)(k:O5 hk ro dZ iJ gd fT)(o:Og h h' []):sU hk ro dZ iJ gd fT R s h' w wv:=by
 have e:∀b,b<h.nx→h'.t.get b=h.t.get b:=fun b hb=>o.1.2 b hb (by simp);have nx:=j.nx;have l1:=k.JB;have l3:=k.O6;have l4:=k.MV;exact⟨aD nx o.1.1,fun b hb q1 q2 q3 q4=>by rw[e b (by omega)];exact j.old b hb q1 q2 q3 q4,by rw[e _ (by omega)];exact j.lp,by rw[e _ (by omega)];exact j.df,j.mp.bU o.1 (by simp),o.2.trans j.g,by rw[bo (e _ (by omega))];exact j.MT,by rw[bC (e _ (by omega))];exact j.R6,j.R8,by rw[bo (e _ (by omega))];exact j.Dd,by rw[bC (e _ (by omega))];exact j.MU,by rw[bo (e _ (by omega))];exact j.JD,by rw[bC (e _ (by omega))];exact j.OA,j.gw.bG o.1.1 (fun c q=>e c (j.gw.base q).2),j.gv.bG o.1.1 (fun c q=>e c (j.gv.base q).2),j.dj⟩
theorem sU.I8(j:sU hk ro dZ iJ gd fT R s h w wv)(k:O5 hk ro dZ iJ gd fT):cellAt h iJ 0=some (.map ro):=by
 rw[bo (j.old iJ k.l12 k.n2 k.m1 (fun e=>k.m4 e.symm) (fun e=>k.m5 e.symm))];exact j.R8
theorem sU.out(j:sU hk ro dZ iJ gd fT R s h w wv)(k:O5 hk ro dZ iJ gd fT){v7:AV}{h7:H}{x:Ev}(g7:bK 13 (hk.nx+2) h7 v7 (s.out.length+1) (s.out.flatMap Ev.cs++x.cs))(x7:h7.nx=h.nx+1)(gV:∀b,b<h.nx→bA w≠some b→h7.t.get b=h.t.get b)(ud:bA v7=some h.nx)(vM:h7.g=h.g):
  sU hk ro dZ iJ gd fT R ⟨s.v,s.main,s.w,s.out++[x]⟩ (h7.cm dZ 0 [v7]) v7 wv:=by
 have nx:=j.nx;have l1:=k.JB;have l3:=k.O6;have l4:=k.MV;have lr:=k.lr;have e7:∀b,b<hk.nx+2→h7.t.get b=h.t.get b:=fun b hb=>gV b (by omega) (fun q=>by have:=(j.gw.base q).1;omega);have W7:cj h7 dZ=true:=by rw[bC (e7 dZ (by omega))];exact j.R6
 have e8:∀b,b≠dZ→(h7.cm dZ 0 [v7]).t.get b=h7.t.get b:=fun b hb=>bT _ _ _ _ hb;have I9:∀b,b<hk.nx+2→b≠dZ→(h7.cm dZ 0 [v7]).t.get b=h.t.get b:=fun b hb hn=>by rw[e8 b hn,e7 b hb]
 refine⟨by rw[bI];omega,fun b hb q1 q2 q3 q4=>by rw[I9 b (by omega) q2];exact j.old b hb q1 q2 q3 q4,by rw[I9 _ (by omega) (by omega)];exact j.lp,by rw[I9 _ (by omega) (by omega)];exact j.df,j.mp.get (by rw[bI];omega) (I9 _ (by omega) (fun e=>k.n1 e.symm)),by rw[dD];exact vM.trans j.g,?_,by rw[bN];exact W7,j.R8,by rw[bo (I9 _ (by omega) k.m2)];exact j.Dd,by rw[bC (I9 _ (by omega) k.m2)];exact j.MU,by rw[bo (I9 _ (by omega) k.m3)];exact j.JD,by rw[bC (I9 _ (by omega) k.m3)];exact j.OA,?_,?_,fun c q q2=>by rw[ud]at q;cases q;have:=(j.gv.base q2).2;omega⟩
 ·rw[b_ W7,if_pos ⟨rfl,ak _,by simp⟩];rfl
 ·rw[ao,aS,aU]
  exact g7.bG (by rw[bI];omega) (fun c q=>e8 c (by rw[ud]at q;cases q;omega))
 ·refine j.gv.bG (by rw[bI];omega) (fun c q=>?_)
  have:=j.gv.base q;rw[e8 c (by omega),gV c this.2 (fun q2=>j.dj c q2 q)]
theorem sU.wait(j:sU hk ro dZ iJ gd fT R s h w wv)(k:O5 hk ro dZ iJ gd fT){v7:AV}{h7:H}{x:Rec}(g7:bK 8 (hk.nx+2) h7 v7 (s.w.length+1) (s.w.flatMap Rec.cs++x.cs))(x7:h7.nx=h.nx+1)(gV:∀b,b<h.nx→bA wv≠some b→h7.t.get b=h.t.get b)(ud:bA v7=some h.nx)(vM:h7.g=h.g):
  sU hk ro dZ iJ gd fT R ⟨s.v,s.main,s.w++[x],s.out⟩ (h7.cm fT 0 [v7]) w v7:=by
 have nx:=j.nx;have l1:=k.JB;have l3:=k.O6;have l4:=k.MV;have lr:=k.lr;have e7:∀b,b<hk.nx+2→h7.t.get b=h.t.get b:=fun b hb=>gV b (by omega) (fun q=>by have:=(j.gv.base q).1;omega);have W7:cj h7 fT=true:=by rw[bC (e7 fT (by omega))];exact j.OA
 have e8:∀b,b≠fT→(h7.cm fT 0 [v7]).t.get b=h7.t.get b:=fun b hb=>bT _ _ _ _ hb;have I9:∀b,b<hk.nx+2→b≠fT→(h7.cm fT 0 [v7]).t.get b=h.t.get b:=fun b hb hn=>by rw[e8 b hn,e7 b hb]
 refine⟨by rw[bI];omega,fun b hb q1 q2 q3 q4=>by rw[I9 b (by omega) q4];exact j.old b hb q1 q2 q3 q4,by rw[I9 _ (by omega) (by omega)];exact j.lp,by rw[I9 _ (by omega) (by omega)];exact j.df,j.mp.get (by rw[bI];omega) (I9 _ (by omega) (fun e=>k.n4 e.symm)),by rw[dD];exact vM.trans j.g,by rw[bo (I9 _ (by omega) (fun e=>k.m3 e.symm))];exact j.MT,by rw[bC (I9 _ (by omega) (fun e=>k.m3 e.symm))];exact j.R6,j.R8,by rw[bo (I9 _ (by omega) (fun e=>k.m6 e.symm))];exact j.Dd,by rw[bC (I9 _ (by omega) (fun e=>k.m6 e.symm))];exact j.MU,?_,by rw[bN];exact W7,?_,?_,fun c q q2=>by rw[ud]at q2;cases q2;have:=(j.gw.base q).2;omega⟩
 ·rw[b_ W7,if_pos ⟨rfl,ak _,by simp⟩];rfl
 ·refine j.gw.bG (by rw[bI];omega) (fun c q=>?_)
  have:=j.gw.base q;rw[e8 c (by omega),gV c this.2 (fun q2=>j.dj c q q2)]
 ·rw[ao,aS,aU]
  exact g7.bG (by rw[bI];omega) (fun c q=>e8 c (by rw[ud]at q;cases q;omega))
end
end
end Go.Proofs.YtnedigoajoflaaaGreat.M
namespace Go.Proofs.YtnedigoajoflaaaGreat.M
open Go Go.AX
noncomputable section
set_option maxRecDepth 100000
structure EvG(hk:H)(ro dZ gd fT b6 b8 b9:Nat)(lo:Nat)(key fin:List Nat):Prop where
 c6:cellAt hk b6 0=some (.int .u64 (.ofNat lo))
 c8:cellAt hk b8 0=some (.str key)
 c9:cellAt hk b9 0=some (.str fin)
 l6:b6<hk.nx∧b6≠ro∧b6≠dZ∧b6≠gd∧b6≠fT
 l8:b8<hk.nx∧b8≠ro∧b8≠dZ∧b8≠gd∧b8≠fT
 l9:b9<hk.nx∧b9≠ro∧b9≠dZ∧b9≠gd∧b9≠fT
section
variable{hk h h':H}{ro dZ iJ gd fT b6 b8 b9:Nat}{R:fC}{s:KY}{w wv:AV}{lo:Nat}{key fin:List Nat}
theorem sU.asks(j:sU hk ro dZ iJ gd fT R s h w wv)(g:EvG hk ro dZ gd fT b6 b8 b9 lo key fin):cellAt h b6 0=some (.int .u64 (.ofNat lo))∧cellAt h b8 0=some (.str key)∧cellAt h b9 0=some (.str fin):=
 ⟨by rw[bo (j.old b6 g.l6.1 g.l6.2.1 g.l6.2.2.1 g.l6.2.2.2.1 g.l6.2.2.2.2)];exact g.c6,by rw[bo (j.old b8 g.l8.1 g.l8.2.1 g.l8.2.2.1 g.l8.2.2.2.1 g.l8.2.2.2.2)];exact g.c8,by rw[bo (j.old b9 g.l9.1 g.l9.2.1 g.l9.2.2.1 g.l9.2.2.2.1 g.l9.2.2.2.2)];exact g.c9⟩
structure EvT(tm:T AV)(b6 b8 b9 dZ iJ gd fT kn:Nat):Prop where
 t6:tm.get 6=some (.ptr b6 0)
 t8:tm.get 8=some (.ptr b8 0)
 t9:tm.get 9=some (.ptr b9 0)
 t11:tm.get 11=some (.ptr dZ 0)
 t12:tm.get 12=some (.ptr iJ 0)
 t13:tm.get 13=some (.ptr gd 0)
 t14:tm.get 14=some (.ptr fT 0)
 t15:tm.get 15=some (.ptr kn 0)
theorem KZ(l:Nat)(k:O5 hk ro dZ iJ gd fT)(j:sU hk ro dZ iJ gd fT R s h w wv)(hz:s.w.length≤1000000)(x:Rec)(kn:Nat)(Y:bj h kn 0 x.cs)(MK:kn<h.nx)(tm:T AV)(t:EvT tm b6 b8 b9 dZ iJ gd fT kn)(K:KQ)
  (hK:∀tm' h' K2,sU hk ro dZ iJ gd fT R ⟨s.v,s.main,s.w++[x],s.out⟩ h' w K2→K .norm [] tm' h'):bB P 19 75 (some l) (bL (bD Tryz.f19) [1,1,0,1,0,1,0,1,1,1,1,1]) [] tm h K:=by
 obtain⟨t6,t8,t9,t11,t12,t13,t14,t15⟩:=t;have JD:=j.JD;have gvo:=j.gv.one;have nx:=j.nx;obtain⟨y0,y1,y2,y3,y4,y5,y6,y7⟩:=bj.u8 (show bj h kn 0 [.int .u64 (.ofNat x.main),.int .u64 (.ofNat x.sub),.str x.kv.key,.str x.kv.val,.int .u64 (.ofNat x.kv.iC),.int .u64 (.ofNat x.kv.mod),.int .u64 (.ofNat x.kv.im),.bool x.dW]from Y);obtain⟨h3,cB⟩:∃h3,h3=h.bq 91 [.int .u64 (.ofNat x.main),.int .u64 (.ofNat x.sub),.str x.kv.key,.str x.kv.val,.int .u64 (.ofNat x.kv.iC),.int .u64 (.ofNat x.kv.mod),.int .u64 (.ofNat x.kv.im),.bool x.dW]:=⟨_,rfl⟩;have o3:Og h h3 []:=by rw[cB];exact(Og.refl _ _).new _ _
 have x3:h3.nx=h.nx+1:=by rw[cB];rfl
 have eZ:h3.row h.nx 0 8=some x.cs:=gK (o:=0) (cs:=x.cs) (fun j hj=>by rw[cB,bJ,az,if_pos rfl];rfl) (by simp[Rec.cs]);have j3:=j.bU k o3;refine rN ?_ (V t14<|V t15<|V JD<|V gvo<|V y0<|V y1<|V y2<|V y3<|V y4<|V y5<|V y6<|V y7<|V cB.symm<|eZ);refine dz (m:=1) (new:=x.cs) j3.gv (by omega) (by omega) (by omega) rfl (by omega) (fun v7 h7 g7 x7 gV ud vM=>?_);have wG:=g7.one;have Om:=g7.cells;have a14:h7.t.get fT=h3.t.get fT:=gV fT (by have:=k.MV;omega) (fun q=>by have:=(j3.gv.base q).1;have:=k.MV;omega);have e14:cellAt h7 fT 0=some wv:=by rw[bo a14];exact j3.JD
 have f14:cj h7 fT=true:=by rw[bC a14];exact j3.OA
 obtain⟨h8,oz⟩:∃h8,h8=h7.cm fT 0 [v7]:=⟨_,rfl⟩;refine rN ?_ (V t14<|V wG<|V Om<|V e14<|V f14<|oz.symm);refine hK _ _ v7 ?_;rw[oz];exact j3.wait k g7 x7 gV ud vM
theorem U2(V:View)(x:Rec)(r:Rec)(h:gu x.kv.key V=r.kv):(Dh V x).cs=[.int .u64 (.ofNat x.main),.int .u64 (.ofNat x.sub),.bool x.dW,.str x.kv.key,.str x.kv.val,.int .u64 (.ofNat x.kv.iC),.int .u64 (.ofNat x.kv.mod),.int .u64 (.ofNat x.kv.im),.str r.kv.key,.str r.kv.val,.int .u64 (.ofNat r.kv.iC),.int .u64 (.ofNat r.kv.mod),.int .u64 (.ofNat r.kv.im)]:=by
 unfold Dh;rw[h];rfl
theorem R_(l:Nat)(k:O5 hk ro dZ iJ gd fT)(q:EvG hk ro dZ gd fT b6 b8 b9 lo key fin)(j:sU hk ro dZ iJ gd fT R s h w wv)(hz:s.w.length≤1000000)(hzo:s.out.length≤1000000)(x:Rec)(kn:Nat)(Y:bj h kn 0 x.cs)(MK:kn<h.nx)(g15:hk.nx+2≤kn)(nb:bA w≠some kn)(tm:T AV)(t:EvT tm b6 b8 b9 dZ iJ gd fT kn)(K:KQ)
  (hK:∀tm' h' w' K2,sU hk ro dZ iJ gd fT R (tF lo key fin s x) h' w' K2→K .norm [] tm' h'):bB P 19 75 (some l) (bL (bD Tryz.f19) [1,0,1,0,1,0,1,1,1,1,1]) [] tm h K:=by
 obtain⟨t6,t8,t9,t11,t12,t13,t14,t15⟩:=t;have Dd:=j.Dd;obtain⟨q6,q8,q9⟩:=j.asks q;obtain⟨y0,y1,y2,y3,y4,y5,y6,y7⟩:=bj.u8 (show bj h kn 0 [.int .u64 (.ofNat x.main),.int .u64 (.ofNat x.sub),.str x.kv.key,.str x.kv.val,.int .u64 (.ofNat x.kv.iC),.int .u64 (.ofNat x.kv.mod),.int .u64 (.ofNat x.kv.im),.bool x.dW]from Y);by_cases p:lo≤s.main
 ·have d:decide (lo≤s.main)=true:=decide_eq_true p
  refine rN ?_ (V t6<|V t8<|V t9<|V t13<|V t15<|V Dd<|V q6<|V q8<|V q9<|V y0<|V y1<|V y2<|V y3<|V y4<|V y5<|V y6<|V y7<|d);refine((Q1 h x.kv.key key fin).call P).mono P ?_;rintro _ h2 ⟨rfl,o2⟩;have x2:=o2.1.1;have j2:=j.bU k o2;have Y2:=gC Y o2 MK (by simp);cases e:fL x.kv.key key fin with
  |false=>
   have es:tF lo key fin s x=⟨s.v,s.main,s.w++[x],s.out⟩:=by unfold tF;rw[e,if_neg (by simp),aq]
   refine oq ?_ (@sc [1,1,0,1,0,1,0,1,1,1,1,1]) (e);exact⟨KZ (b6:=b6) (b8:=b8) (b9:=b9) l k j2 hz x kn Y2 (by omega) _ ⟨by exact sT,by exact sT,by exact sT,by exact sT,by exact sT,by exact sT,by exact sT,by exact sT⟩ K (fun tm' h' K2 j'=>hK tm' h' w K2 (by rw[es];exact j'))⟩
  |true=>
   have es:tF lo key fin s x=⟨s.v,s.main,s.w++[x],s.out++[Dh s.v x]⟩:=by unfold tF;rw[if_pos ⟨p,e⟩]
   have MT:=j2.MT;have WW:=j2.gw.one;have I8:=j2.I8 k;obtain⟨r,hr⟩:∃r,r=(dP x.kv.key s.v).getD Db:=⟨_,rfl⟩;have sQ:gu x.kv.key s.v=r.kv:=by rw[B6,hr]
   have lk:=(pO j2.mp x.kv.key).1;rw[←hr]at lk;unfold Rec.cs at lk;obtain⟨z0,z1,z2,z3,z4,z5,z6,z7⟩:=bj.u8 (show bj h2 kn 0 [.int .u64 (.ofNat x.main),.int .u64 (.ofNat x.sub),.str x.kv.key,.str x.kv.val,.int .u64 (.ofNat x.kv.iC),.int .u64 (.ofNat x.kv.mod),.int .u64 (.ofNat x.kv.im),.bool x.dW]from Y2);obtain⟨h3,cB⟩:∃h3,h3=h2.bq 112 (Dh s.v x).cs:=⟨_,rfl⟩;have o3:Og h2 h3 []:=by rw[cB];exact(Og.refl _ _).new _ _
   have x3:h3.nx=h2.nx+1:=by rw[cB];rfl
   have eZ:h3.row h2.nx 0 13=some (Dh s.v x).cs:=gK (o:=0) (cs:=(Dh s.v x).cs) (fun j hj=>by rw[cB,bJ,az,if_pos rfl]) (by simp[Ev.cs]);have j3:=j2.bU k o3;have Y3:=gC Y2 o3 (by omega) (by simp);rw[U2 _ _ r sQ]at cB;refine rN ?_ (V e<|V t11<|V t12<|V t15<|V MT<|V WW<|V I8<|V @fb<|V lk<|V z0<|V z1<|V z2<|V z3<|V z4<|V z5<|V z6<|V z7<|V cB.symm<|eZ);refine dz (m:=1) (new:=(Dh s.v x).cs) j3.gw (by omega) (by omega) (by omega) rfl (by omega) (fun v7 h7 g7 x7 gV ud vM=>?_);have wG:=g7.one;have Om:=g7.cells;have T0:h7.t.get dZ=h3.t.get dZ:=gV dZ (by have:=k.JB;omega) (fun q=>by have:=(j3.gw.base q).1;have:=k.JB;omega);have e11:cellAt h7 dZ 0=some w:=by rw[bo T0];exact j3.MT
   have f11:cj h7 dZ=true:=by rw[bC T0];exact j3.R6
   obtain⟨h8,oz⟩:∃h8,h8=h7.cm dZ 0 [v7]:=⟨_,rfl⟩;have j8:=j3.out k (x:=Dh s.v x) g7 x7 gV ud vM;rw[←oz]at j8;have x8:h8.nx=h7.nx:=by rw[oz,bI]
   have Y8:bj h8 kn 0 x.cs:=Y3.bG (by rw[oz,bT _ _ _ _ (by have:=k.JB;omega),gV kn (by omega) nb]);refine oq ?_ (@sc [1,1,0,1,0,1,0,1,1,1,1,1]) (V t11<|V wG<|V Om<|V e11<|V f11<|oz.symm);exact⟨KZ (b6:=b6) (b8:=b8) (b9:=b9) l k j8 hz x kn Y8 (by omega) _ ⟨by exact sT,by exact sT,by exact sT,by exact sT,by exact sT,by exact sT,by exact sT,by exact sT⟩ K (fun tm' h' K2 j'=>hK tm' h' v7 K2 (by rw[es];exact j'))⟩
 ·have d:decide (lo≤s.main)=false:=decide_eq_false p
  have es:tF lo key fin s x=⟨s.v,s.main,s.w++[x],s.out⟩:=by unfold tF;rw[if_neg (fun e=>p e.1),aq]
  refine oq ?_ (@sc [1,1,0,1,0,1,0,1,1,1,1,1]) (V t6<|V t13<|V Dd<|V q6<|d);exact⟨KZ (b6:=b6) (b8:=b8) (b9:=b9) l k j hz x kn Y MK _ ⟨by exact sT,by exact sT,by exact sT,by exact sT,by exact sT,by exact sT,by exact sT,by exact sT⟩ K (fun tm' h' K2 j'=>hK tm' h' w K2 (by rw[es];exact j'))⟩
end
end
end Go.Proofs.YtnedigoajoflaaaGreat.M
namespace Go.Proofs.YtnedigoajoflaaaGreat.M
open Go Go.AX
noncomputable section
set_option maxRecDepth 100000
section
variable{hk h h':H}{ro dZ iJ gd fT b6 b8 b9:Nat}{R R':fC}{s:KY}{w wv:AV}{lo:Nat}{key fin:List Nat}
theorem sU.put(j:sU hk ro dZ iJ gd fT R s h w wv)(k:O5 hk ro dZ iJ gd fT)(o:Og h h' [ro]){V:View}(m:fu encS h' ro (mR V)):sU hk ro dZ iJ gd fT R ⟨V,s.main,s.w,s.out⟩ h' w wv:=by
 have e:∀b,b<h.nx→b≠ro→h'.t.get b=h.t.get b:=fun b hb hn=>o.1.2 b hb (by simp[hn]);have nx:=j.nx;have l1:=k.JB;have l3:=k.O6;have l4:=k.MV;have lr:=k.lr;have n1:=k.n1;have n3:=k.n3;have n4:=k.n4;exact⟨aD nx o.1.1,fun b hb q1 q2 q3 q4=>by rw[e b (by omega) q1];exact j.old b hb q1 q2 q3 q4,by rw[e _ (by omega) (by omega)];exact j.lp,by rw[e _ (by omega) (by omega)];exact j.df,m,o.2.trans j.g,by rw[bo (e _ (by omega) n1)];exact j.MT,by rw[bC (e _ (by omega) n1)];exact j.R6,j.R8,by rw[bo (e _ (by omega) n3)];exact j.Dd,by rw[bC (e _ (by omega) n3)];exact j.MU,by rw[bo (e _ (by omega) n4)];exact j.JD,by rw[bC (e _ (by omega) n4)];exact j.OA,j.gw.bG o.1.1 (fun c q=>e c (j.gw.base q).2 (by have:=(j.gw.base q).1;omega)),j.gv.bG o.1.1 (fun c q=>e c (j.gv.base q).2 (by have:=(j.gv.base q).1;omega)),j.dj⟩
theorem sU.state(j:sU hk ro dZ iJ gd fT R s h w wv)(k:O5 hk ro dZ iJ gd fT):sU hk ro dZ iJ gd fT R' s (h.obj (hk.nx+1) (.loop R')) w wv:=by
 have e:∀b,b≠hk.nx+1→(h.obj (hk.nx+1) (.loop R')).t.get b=h.t.get b:=fun b hb=>cF hb _;have nx:=j.nx;have l1:=k.JB;have l3:=k.O6;have l4:=k.MV;have lr:=k.lr;exact⟨nx,fun b hb q1 q2 q3 q4=>by rw[e b (by omega)];exact j.old b hb q1 q2 q3 q4,kg _ _,by rw[e _ (by omega)];exact j.df,j.mp.get (ak _) (e _ (by omega)),j.g,by rw[bo (e _ (by omega))];exact j.MT,by rw[bC (e _ (by omega))];exact j.R6,j.R8,by rw[bo (e _ (by omega))];exact j.Dd,by rw[bC (e _ (by omega))];exact j.MU,by rw[bo (e _ (by omega))];exact j.JD,by rw[bC (e _ (by omega))];exact j.OA,j.gw.bG (ak _) (fun c q=>e c (by have:=(j.gw.base q).1;omega)),j.gv.bG (ak _) (fun c q=>e c (by have:=(j.gv.base q).1;omega)),j.dj⟩
theorem sU.turn(j:sU hk ro dZ iJ gd fT R s h w wv)(k:O5 hk ro dZ iJ gd fT)(m:Nat):sU hk ro dZ iJ gd fT R ⟨s.v,m,[],s.out⟩ ((h.cm fT 0 [.bh]).cm gd 0 [.int .u64 (.ofNat m)]) w .bh:=by
 have e:∀b,b≠fT→b≠gd→((h.cm fT 0 [.bh]).cm gd 0 [.int .u64 (.ofNat m)]).t.get b=h.t.get b:=fun b h1 h2=>by rw[bT _ _ _ _ h2,bT _ _ _ _ h1]
 have nx:=j.nx;have l1:=k.JB;have l3:=k.O6;have l4:=k.MV;have lr:=k.lr;have n3:=k.n3;have n4:=k.n4;have m2:=k.m2;have m3:=k.m3;have m6:=k.m6;have xx:((h.cm fT 0 [.bh]).cm gd 0 [.int .u64 (.ofNat m)]).nx=h.nx:=by rw[bI,bI]
 have MU:cj (h.cm fT 0 [.bh]) gd=true:=by rw[bN];exact j.MU
 refine⟨by rw[xx];exact nx,fun b hb q1 q2 q3 q4=>by rw[e b q4 q3];exact j.old b hb q1 q2 q3 q4,by rw[e _ (by omega) (by omega)];exact j.lp,by rw[e _ (by omega) (by omega)];exact j.df,j.mp.get (by rw[xx];exact ak _) (e _ (by omega) (by omega)),by rw[dD,dD];exact j.g,by rw[bo (e _ (by omega) (by omega))];exact j.MT,by rw[bC (e _ (by omega) (by omega))];exact j.R6,j.R8,?_,by rw[bN];exact MU,?_,by rw[bN,bN];exact j.OA,j.gw.bG (by rw[xx];exact ak _) (fun c q=>e c (by have:=(j.gw.base q).1;omega) (by have:=(j.gw.base q).1;omega)),.none,fun c _ q2=>by cases q2⟩
 ·rw[b_ MU,if_pos ⟨rfl,ak _,by simp⟩];rfl
 ·rw[bo (bT _ _ _ _ m6),b_ j.OA,if_pos ⟨rfl,ak _,by simp⟩];rfl
noncomputable abbrev mf(hk:H)(tm:T AV):fC:=yF 19 75 tm [24] (bL (bD Tryz.f19) [0,0,1,0,1,1,1,1,1]) (bL (bD Tryz.f19) [1,0,1,0,1,1,1,1,1]) hk.nx .ready
structure WtI(hk:H)(ro dZ iJ gd fT b6 b8 b9:Nat)(R:fC)(s:KY)(w wv:AV)(x:Rec)(kn:Nat)(m:Nat)(ds:List Nat)(tm:T AV)(h:H)(i:Nat):Prop where
 ds:ds=[]
 nn:m=s.w.length-i
 ii:i≤s.w.length
 t:EvT tm b6 b8 b9 dZ iJ gd fT kn
 t30:tm.get 30=some wv
 t31:tm.get 31=some (.int .i64 (.ofNat s.w.length))
 t32:tm.get 32=some (.int .i64 (.ofNat i))
 j:sU hk ro dZ iJ gd fT R ⟨(s.w.take i).foldl fw s.v,s.main,s.w,s.out⟩ h w wv
 y:bj h kn 0 x.cs
 l:kn<h.nx
theorem U3(k:O5 hk ro dZ iJ gd fT)(q:EvG hk ro dZ gd fT b6 b8 b9 lo key fin)(tm:T AV)(u6:tm.get 6=some (.ptr b6 0))(u8:tm.get 8=some (.ptr b8 0))(u9:tm.get 9=some (.ptr b9 0))(Uv:tm.get 11=some (.ptr dZ 0))(Ru:tm.get 12=some (.ptr iJ 0))(ML:tm.get 13=some (.ptr gd 0))(u14:tm.get 14=some (.ptr fT 0))
  (hj:sU hk ro dZ iJ gd fT (mf hk tm) s h w wv)(hz:s.w.length≤1000000)(hzo:s.out.length≤1000000)(x:Rec):
  bW P (.round (hk.nx+1) [.agg x.cs] h) fun v h'=>v= .bool true∧∃w' K2,sU hk ro dZ iJ gd fT (mf hk tm) (me lo key fin s x) h' w' K2:=by
 refine pJ (tm:=tm.set 24 (some (.agg x.cs))) hj.lp rfl ?_;show bB P 19 75 (some (hk.nx+1)) (bL (bD Tryz.f19) [0,0,1,0,1,1,1,1,1]) _ _ _ _;obtain⟨h1,cC,o1,x1,y0,y1,y2,y3,y4,y5,y6,y7,-⟩:=rK h x;have j1:=hj.bU k o1;have xk:=hj.nx;have Y1:bj h1 h.nx 0 x.cs:=bj.m8 y0 y1 y2 y3 y4 y5 y6 y7;unfold Rec.cs;refine rN ?_ (cC);refine vB j1.lp rfl ?_;show bB P 19 75 (some (hk.nx+1)) (bL (bD Tryz.f19) [1,0,1,0,1,1,1,1,1]) _ _ _ _;have j2:sU hk ro dZ iJ gd fT {mf hk tm with state:=.busy} s (h1.obj (hk.nx+1) (.loop {mf hk tm with state:=.busy})) w wv:=j1.state k;obtain⟨h2,e2⟩:∃h2,h2=h1.obj (hk.nx+1) (.loop {mf hk tm with state:=.busy}):=⟨_,rfl⟩;rw[←e2]at j2;have x2:h2.nx=h1.nx:=by rw[e2];rfl
 have Y2:bj h2 h.nx 0 x.cs:=Y1.bG (by rw[e2];exact cF (by omega) _);have nbw:bA w≠some h.nx:=fun e=>by have:=(hj.gw.base e).2;omega
 have nbv:bA wv≠some h.nx:=fun e=>by have:=(hj.gv.base e).2;omega
 obtain⟨z0,z1,z2,z3,z4,z5,z6,z7⟩:=bj.u8 (show bj h2 h.nx 0 [.int .u64 (.ofNat x.main),.int .u64 (.ofNat x.sub),.str x.kv.key,.str x.kv.val,.int .u64 (.ofNat x.kv.iC),.int .u64 (.ofNat x.kv.mod),.int .u64 (.ofNat x.kv.im),.bool x.dW]from Y2);rw[←e2];have Dd:=j2.Dd;have JD:=j2.JD;by_cases p:x.main=s.main
 ·have es:ku s x=s:=if_pos p
  have p':(x.main=s.main)=True:=eq_true p;refine oq ?_ (@sc [1,0,1,0,1,0,1,1,1,1,1]) (V u6<|V u8<|V u9<|V Uv<|V Ru<|V ML<|V u14<|V z0<|V Dd<|p');refine⟨R_ (hk.nx+1) k q j2 hz hzo x h.nx Y2 (by omega) (by omega) nbw _ ⟨by exact sT,by exact sT,by exact sT,by exact sT,by exact sT,by exact sT,by exact sT,by exact sT⟩ _ (fun tm' h' w' K2 j'=>?_)⟩;rw[sA];exact ju (r:=mf hk tm) j'.lp rfl rfl ⟨rfl,w',K2,by unfold me;rw[es];exact j'.state k⟩
 ·have es:ku s x=⟨s.w.foldl fw s.v,x.main,[],s.out⟩:=if_neg p
  have p':(x.main=s.main)=False:=eq_false p;have hlen:=j2.gv.slice.len (P:=P) jl;have wvo:=j2.gv.one;refine rN ?_ (V u6<|V u8<|V u9<|V Uv<|V Ru<|V ML<|V u14<|V z0<|V Dd<|V p'<|V JD<|V hlen<|wvo);refine cn (fun m ds tm' h'=>∃i,WtI hk ro dZ iJ gd fT b6 b8 b9 {mf hk tm with state:=.busy} s w wv x h.nx m ds tm' h' i) s.w.length rfl ⟨0,rfl,rfl,aA _,⟨by exact sT,by exact sT,by exact sT,by exact sT,by exact sT,by exact sT,by exact sT,by exact sT⟩,by exact sT,by exact sT,by exact sT,j2,Y2,by omega⟩ (fun m ds tm' h' hI=>?_);obtain⟨i,rfl,rfl,ii,⟨t6,t8,t9,t11,t12,t13,t14,t15⟩,t30,t31,t32,jj,yy,ll⟩:=hI;by_cases hi:i<s.w.length
  ·have di:decide (i<s.w.length)=true:=decide_eq_true hi
   have dX:(i<s.w.length)=True:=by simp[hi]
   obtain⟨r,hr⟩:∃r,s.w[i]? =some r:=⟨_,aw hi⟩;have slv:=jj.gv.slice;obtain⟨bv,ov,cv,rfl,qw,-⟩:=slv.place (by show 0<s.w.length;omega);obtain⟨q0,q1,q2,q3,q4,q5,q6,q7⟩:=Rec.at slv hr;obtain⟨h3,cB,o3,x3,a0,a1,a2,a3,a4,a5,a6,a7,-⟩:=rK h' r;have j3:=jj.bU k o3;have I8:=j3.I8 k;have w1:bV .i64 (au i+au 1)=au (i+1):=cq (by omega);refine rN ?_ (V t12<|V t30<|V t31<|V t32<|V di<|V dX<|V q0<|V q1<|V q2<|V q3<|V q4<|V q5<|V q6<|V q7<|V cB<|V a0<|V a1<|V a2<|V a3<|V a4<|V a5<|V a6<|V a7<|I8);refine((Zd h3 ro _ r j3.mp).call P).mono P ?_;rintro _ h4 ⟨rfl,m4,o4⟩;have x4:=o4.1.1;have j4:=j3.put k o4 m4;have lr:=k.lr;have y4:=gC (gC yy o3 ll (by simp)) o4 (by omega) (by simp;omega);refine rN ?_ (V t32<|w1);refine⟨s.w.length-(i+1),by omega,i+1,rfl,rfl,by omega,⟨by exact sT,by exact sT,by exact sT,by exact sT,by exact sT,by exact sT,by exact sT,by exact sT⟩,by exact sT,by exact sT,by exact sT,?_,y4,by omega⟩;rw[aZ,hr,aah];exact j4
  ·have di:decide (i<s.w.length)=false:=decide_eq_false hi
   obtain rfl:i=s.w.length:=by omega
   rw[aJ]at jj;have C13:=jj.Dd;have C14:=jj.JD;have W13:=jj.MU;have W14:=jj.OA;obtain⟨g0,g1,g2,g3,g4,g5,g6,g7⟩:=bj.u8 (show bj h' h.nx 0 [.int .u64 (.ofNat x.main),.int .u64 (.ofNat x.sub),.str x.kv.key,.str x.kv.val,.int .u64 (.ofNat x.kv.iC),.int .u64 (.ofNat x.kv.mod),.int .u64 (.ofNat x.kv.im),.bool x.dW]from yy);have O6:=k.O6;have MV:=k.MV;obtain⟨h3,cB⟩:∃h3,h3=h'.cm fT 0 [.bh]:=⟨_,rfl⟩;have y3:bj h3 h.nx 0 x.cs:=yy.bG (by rw[cB];exact bT _ _ _ _ (by omega));obtain⟨f0,f1,f2,f3,f4,f5,f6,f7⟩:=bj.u8 (show bj h3 h.nx 0 [.int .u64 (.ofNat x.main),.int .u64 (.ofNat x.sub),.str x.kv.key,.str x.kv.val,.int .u64 (.ofNat x.kv.iC),.int .u64 (.ofNat x.kv.mod),.int .u64 (.ofNat x.kv.im),.bool x.dW]from y3);have D13:cellAt h3 gd 0=some (.int .u64 (.ofNat s.main)):=by rw[cB,bo (bT _ _ _ _ (fun e=>k.m6 e.symm))];exact C13
   have V13:cj h3 gd=true:=by rw[cB,bN];exact W13
   obtain⟨h4,dm⟩:∃h4,h4=h3.cm gd 0 [.int .u64 (.ofNat x.main)]:=⟨_,rfl⟩;have y4:bj h4 h.nx 0 x.cs:=y3.bG (by rw[dm];exact bT _ _ _ _ (by omega));obtain⟨e0,e1,e2,e3,e4,e5,e6,e7⟩:=bj.u8 (show bj h4 h.nx 0 [.int .u64 (.ofNat x.main),.int .u64 (.ofNat x.sub),.str x.kv.key,.str x.kv.val,.int .u64 (.ofNat x.kv.iC),.int .u64 (.ofNat x.kv.mod),.int .u64 (.ofNat x.kv.im),.bool x.dW]from y4);have j4:=jj.turn k x.main;rw[←cB,←dm]at j4;have x4:h4.nx=h'.nx:=by rw[dm,cB,bI,bI]
   refine rTs ?_ (@sc [1,0,1,0,1,0,1,1,1,1,1]) (V t13<|V t14<|V t15<|V t31<|V t32<|V di<|V g0<|V C13<|V C14<|V W14<|V cB.symm<|V f0<|V D13<|V V13<|V dm.symm<|e0);refine⟨R_ (hk.nx+1) k q j4 (aA _) hzo x h.nx y4 (by omega) (by omega) nbw _ ⟨by exact sT,by exact sT,by exact sT,by exact sT,by exact sT,by exact sT,by exact sT,by exact sT⟩ _ (fun tm' h' w' K2 j'=>?_)⟩;rw[sA];exact ju (r:=mf hk tm) j'.lp rfl rfl ⟨rfl,w',K2,by unfold me;rw[es];exact j'.state k⟩
end
end
end Go.Proofs.YtnedigoajoflaaaGreat.M
namespace Go.Proofs.YtnedigoajoflaaaGreat.M
open Go Go.AX
noncomputable section
set_option maxRecDepth 100000
def MW(lo to:Nat)(key fin:List Nat)(L:List Rec):KY:=L.foldl (fun s r=>if r.main≤to then me lo key fin s r else s) ⟨[],0,[],[]⟩
theorem Sa{lo to:Nat}{key fin:List Nat}{L:List Rec}{i:Nat}{r:Rec}(h:L[i]? =some r):MW lo to key fin (L.take (i+1))=if r.main≤to then me lo key fin (MW lo to key fin (L.take i)) r else MW lo to key fin (L.take i):=by
 unfold MW;rw[aZ,h,aah];rfl
theorem K7(lo:Nat)(key fin:List Nat)(s:KY)(r:Rec):(me lo key fin s r).w.length≤s.w.length+1∧(me lo key fin s r).out.length≤s.out.length+1:=by
 unfold me tF ku;split<;>refine⟨by simp,?_⟩<;>(rw[ao];split<;>simp)
theorem ui(lo to:Nat)(key fin:List Nat):∀(L:List Rec)(s:KY),(L.foldl (fun s r=>if r.main≤to then me lo key fin s r else s) s).w.length≤s.w.length+L.length∧(L.foldl (fun s r=>if r.main≤to then me lo key fin s r else s) s).out.length≤s.out.length+L.length
 |[],s=>⟨ak _,ak _⟩
 | r::L,s=>by
  rw[aab,aO];split
  ·have ih:=ui lo to key fin L (me lo key fin s r)
   have:=K7 lo key fin s r;omega
  ·have ih:=ui lo to key fin L s
   omega
theorem U4(lo to:Nat)(key fin:List Nat)(L:List Rec):(MW lo to key fin L).w.length≤L.length∧(MW lo to key fin L).out.length≤L.length:=by
 have:=ui lo to key fin L ⟨[],0,[],[]⟩;simpa[MW]using this
theorem U5(hk:H)(ro dZ iJ gd fT b6 b8 b9 b1 b2 bm:Nat)(k:O5 hk ro dZ iJ gd fT)(lo to:Nat)(key fin:List Nat)(q:EvG hk ro dZ gd fT b6 b8 b9 lo key fin)(v:AV)(L:List Rec)(hz:L.length≤1000000)(ds:List Nat)(tm:T AV)(K:KQ)(t23:tm.get 23=some (.func 74 [] [.ptr b1 0,.ptr b2 0]))
  (u6:tm.get 6=some (.ptr b6 0))(u8:tm.get 8=some (.ptr b8 0))(u9:tm.get 9=some (.ptr b9 0))(Uv:tm.get 11=some (.ptr dZ 0))(Ru:tm.get 12=some (.ptr iJ 0))(ML:tm.get 13=some (.ptr gd 0))(u14:tm.get 14=some (.ptr fT 0))
  (MT:cellAt hk dZ 0=some .bh)(R6:cj hk dZ=true)(R8:cellAt hk iJ 0=some (.map ro))(Dd:cellAt hk gd 0=some (.int .u64 (.ofNat 0)))(MU:cj hk gd=true)(JD:cellAt hk fT 0=some .bh)(OA:cj hk fT=true)
  (mp:fu encS hk ro [])(k1:cellAt hk b1 0=some (.ptr bm 0))(k2:cellAt hk b2 0=some (.int .u64 (.ofNat to)))(km:cellAt hk bm 0=some v)(sl:br hk v L.length (L.flatMap Rec.cs))(wD:b1<hk.nx)(sP:b2<hk.nx)(WA:bm<hk.nx)(n2:b2≠ro∧b2≠dZ∧b2≠gd∧b2≠fT)(nv:∀c,bA v=some c→c≠ro∧c≠dZ∧c≠gd∧c≠fT)
  (hK:∀h2 w wv,sU hk ro dZ iJ gd fT {mf hk tm with state:=.exhausted} (MW lo to key fin L) h2 w wv→K .norm (hk.nx::ds) tm h2):
  bB P 19 75 none (bL (bD Tryz.f19) [0,1,0,1,1,1,1,1]) ds tm hk K:=by
 have lr:=k.lr;have JB:=k.JB;have O6:=k.O6;have MV:=k.MV;refine Md rfl (f:=.tmp 23) (ps:= #[24]) rfl rfl ?_;refine zy (g:=74) (cap:=[.ptr b1 0,.ptr b2 0]) (by rw[k_,t23];rfl) (fun args h=>bz 74 (by kernel_rfl) [] _ args) ?_;have eg:∀b,b<hk.nx→(pX hk 19 75 tm [24] (bL (bD Tryz.f19) [0,0,1,0,1,1,1,1,1]) (bL (bD Tryz.f19) [1,0,1,0,1,1,1,1,1])).t.get b=hk.t.get b:=fun b hb=>by rw[fR,if_neg (by omega),if_neg (by omega)]
 have Ze:sU hk ro dZ iJ gd fT (mf hk tm) ⟨[],0,[],[]⟩ (pX hk 19 75 tm [24] (bL (bD Tryz.f19) [0,0,1,0,1,1,1,1,1]) (bL (bD Tryz.f19) [1,0,1,0,1,1,1,1,1])) .bh .bh:=
  ⟨by rw[jt];omega,fun b hb _ _ _ _=>eg b hb,by rw[fR,if_pos rfl],by rw[fR,if_neg (by omega),if_pos rfl],mp.get (by rw[jt];omega) (eg _ lr),rfl,by rw[bo (eg _ JB)];exact MT,by rw[bC (eg _ JB)];exact R6,R8,by rw[bo (eg _ O6)];exact Dd,by rw[bC (eg _ O6)];exact MU,by rw[bo (eg _ MV)];exact JD,by rw[bC (eg _ MV)];exact OA,.none,.none,fun c e=>by cases e⟩
 have ID:∀h',(∀b,b<hk.nx→b≠ro→b≠dZ→b≠gd→b≠fT→h'.t.get b=hk.t.get b)→hk.nx≤h'.nx→br h' v L.length (L.flatMap Rec.cs):=fun h' old hx=>sl.move hx (fun c e=>by obtain⟨q1,q2,q3,q4⟩:=nv c e;exact old c (gz sl c e) q1 q2 q3 q4);refine(F5 _ (hk.nx+1) b1 b2 bm to v L hz (fun i h=>∃w wv,sU hk ro dZ iJ gd fT (mf hk tm) (MW lo to key fin (L.take i)) h w wv) (by rw[bo (eg _ wD)];exact k1) (by rw[bo (eg _ WA)];exact km) (ID _ (fun b hb _ _ _ _=>eg b hb) (by rw[jt];omega)) (fun i h h' ⟨w,wv,j⟩ o=>⟨w,wv,j.bU k o⟩)
  (fun i h ⟨w,wv,j⟩=>⟨by rw[bo (j.old _ sP n2.1 n2.2.1 n2.2.2.1 n2.2.2.2)];exact k2,ID _ j.old (by have:=j.nx;omega),by have:=j.nx;omega⟩) (fun i h x ⟨w,wv,j⟩ hx p=>by
   rw[Sa hx,if_pos p];have hl:=U4 lo to key fin (L.take i);rw[aC]at hl;exact U3 k q tm u6 u8 u9 Uv Ru ML u14 j (by omega) (by omega) x)
  (fun i h x ⟨w,wv,j⟩ hx p=>by rw[Sa hx,if_neg p];exact⟨w,wv,j⟩) ⟨_,_,Ze⟩).mono P ?_
 rintro _ h2 ⟨w,wv,j⟩;rw[aJ]at j;refine⟨j.lp,?_⟩;exact hK _ w wv (j.state (R':={mf hk tm with state:=.exhausted}) k)
theorem U6(h0:H)(bm:Nat)(L:List Rec)(rev comp:Nat)(v:AV)(md:l_ h0 bm L rev comp v)(nv:∀c,bA v=some c→c<h0.nx)(lo to:Nat)(key fin:List Nat)(hz:L.length≤1000000):
  bW P (.enter 19 [.ptr bm 0,.int .u64 (.ofNat lo),.int .u64 (.ofNat to),.str key,.str fin] h0) fun w h'=>Og h0 h' []∧bK 13 h0.nx h' w (MW lo to key fin L).out.length ((MW lo to key fin L).out.flatMap Ev.cs):=by
 obtain⟨h1,cC⟩:∃h1,h1=h0.bq 29 [.int .u64 (.ofNat lo)]:=⟨_,rfl⟩;obtain⟨h2,cJ⟩:∃h2,h2=h1.bq 9 [.str key]:=⟨_,rfl⟩;obtain⟨h3,cB⟩:∃h3,h3=h2.bq 9 [.str fin]:=⟨_,rfl⟩;obtain⟨h4,dm⟩:∃h4,h4=h3.bq 55 [.bh]:=⟨_,rfl⟩;obtain⟨h5,eL⟩:∃h5,h5=h4.alloc (.map [] 0):=⟨_,rfl⟩;have x1:h1.nx=h0.nx+1:=by rw[cC];rfl
 have x2:h2.nx=h1.nx+1:=by rw[cJ];rfl
 have x3:h3.nx=h2.nx+1:=by rw[cB];rfl
 have x4:h4.nx=h3.nx+1:=by rw[dm];rfl
 have x5:h5.nx=h4.nx+1:=by rw[eL];rfl
 have o1:Og h0 h1 []:=by rw[cC];exact(Og.refl _ _).new _ _
 have o2:Og h1 h2 []:=by rw[cJ];exact(Og.refl _ _).new _ _
 have o3:Og h2 h3 []:=by rw[cB];exact(Og.refl _ _).new _ _
 have o4:Og h3 h4 []:=by rw[dm];exact(Og.refl _ _).new _ _
 have o5:Og h4 h5 []:=by rw[eL];exact(Og.refl _ _).alloc _
 obtain⟨ha,hae⟩:∃ha,ha=h5.bq 78 [.dB]:=⟨_,rfl⟩;obtain⟨hb,Tc⟩:∃hb,hb=ha.bq 29 [.int .u64 (.ofNat 0)]:=⟨_,rfl⟩;obtain⟨hc,ta⟩:∃hc,hc=hb.cm h5.nx 0 [.map h4.nx]:=⟨_,rfl⟩;obtain⟨h6,kO⟩:∃h6,h6=hc.cm ha.nx 0 [.int .u64 (.ofNat 0)]:=⟨_,rfl⟩;obtain⟨h7,rR⟩:∃h7,h7=h6.bq 60 [.bh]:=⟨_,rfl⟩;have xa:ha.nx=h5.nx+1:=by rw[hae];rfl
 have xb:hb.nx=ha.nx+1:=by rw[Tc];rfl
 have xc:hc.nx=hb.nx:=by rw[ta,bI]
 have x6:h6.nx=hc.nx:=by rw[kO,bI]
 have x7:h7.nx=h6.nx+1:=by rw[rR];rfl
 have oa:Og h5 ha []:=by rw[hae];exact(Og.refl _ _).new _ _
 have ob:Og ha hb []:=by rw[Tc];exact(Og.refl _ _).new _ _
 have o5b:=oa.t ob;have o56:Og h5 h6 []:=by rw[kO,ta];exact(o5b.cm (.inr (ak _))).cm (.inr (by omega))
 have o7:Og h6 h7 []:=by rw[rR];exact(Og.refl _ _).new _ _
 have EN:=o56.t o7;have Rv:=o5.t EN;have o37:=o4.t Rv;have o27:=o3.t o37;have o17:=o2.t o27;have WL:=o1.t o17;have c6:cellAt h7 h0.nx 0=some (.int .u64 (.ofNat lo)):=kc (h:=h1) (by rw[cC,bJ,if_pos rfl];rfl) o17 (by omega) (by simp);have c8:cellAt h7 h1.nx 0=some (.str key):=kc (h:=h2) (by rw[cJ,bJ,if_pos rfl];rfl) o27 (by omega) (by simp);have c9:cellAt h7 h2.nx 0=some (.str fin):=kc (h:=h3) (by rw[cB,bJ,if_pos rfl];rfl) o37 (by omega) (by simp);have MT:cellAt h7 h3.nx 0=some .bh:=kc (h:=h4) (by rw[dm,bJ,if_pos rfl];rfl) Rv (by omega) (by simp);have R6:cj h7 h3.nx=true:=kw (h:=h4) (by rw[dm];exact lu _ _ _) Rv (by omega) (by simp);have wa:cj hb h5.nx=true:=kw (h:=ha) (by rw[hae];exact lu _ _ _) ob (by omega) (by simp);have wb:cj hc ha.nx=true:=by rw[ta,bN,Tc];exact lu _ _ _
 have d12:cellAt h6 h5.nx 0=some (.map h4.nx):=by rw[kO,bo (bT _ _ _ _ (by omega)),ta,b_ wa,if_pos ⟨rfl,ak _,by simp⟩];rfl
 have d13:cellAt h6 ha.nx 0=some (.int .u64 (.ofNat 0)):=by rw[kO,b_ wb,if_pos ⟨rfl,ak _,by simp⟩];rfl
 have v13:cj h6 ha.nx=true:=by rw[kO,bN];exact wb
 have R8:=kc d12 o7 (by omega) (by simp);have Dd:=kc d13 o7 (by omega) (by simp);have MU:=kw v13 o7 (by omega) (by simp);have JD:cellAt h7 h6.nx 0=some .bh:=by rw[rR,bJ,if_pos rfl];rfl
 have OA:cj h7 h6.nx=true:=by rw[rR];exact lu _ _ _
 have m5:fu encS h5 h4.nx []:=by rw[eL];exact FX h4 encS
 have f12:cellAt hb h5.nx 0=some .dB:=kc (h:=ha) (by rw[hae,bJ,if_pos rfl];rfl) ob (by omega) (by simp);have f13:cellAt hc ha.nx 0=some (.int .u64 (.ofNat 0)):=by rw[ta,bo (bT _ _ _ _ (by omega)),Tc,bJ,if_pos rfl];rfl
 refine bn (fn:=Tryz.f19) (c:=bD Tryz.f19) Tryz.func19 rfl ?_;show bB P 19 75 none _ _ _ _ _;refine bp ?_;refine rN ?_ (V cC.symm<|V cJ.symm<|V cB.symm<|V mk85<|V dm.symm<|V eL.symm<|V hae.symm<|V Tc.symm<|V f12<|V wa<|V ta.symm<|V f13<|V wb<|V kO.symm<|rR.symm);refine((Rf h7 bm to).call P).mono P ?_;rintro _ h8 ⟨rfl,oz⟩;have o8:Og h7 h8 []:=by rw[oz];exact((Og.refl _ _).new _ _).new _ _
 have x8:h8.nx=h7.nx+2:=by rw[oz,dt,dt]
 have q1:cellAt h8 h7.nx 0=some (.ptr bm 0):=by rw[oz,bJ,if_neg (by rw[dt];omega),bJ,if_pos rfl];rfl
 have q2:cellAt h8 (h7.nx+1) 0=some (.int .u64 (.ofNat to)):=by rw[oz,bJ,if_pos (by rw[dt])];rfl
 have Zw:=WL.t o8;have Cd:=md.lt;have kB:O5 h8 h4.nx h3.nx h5.nx ha.nx h6.nx:=⟨by omega,by omega,by omega,by omega,by omega,by omega,by omega,by omega,by omega,by omega,by omega,by omega,by omega,by omega,by omega⟩;have qG:EvG h8 h4.nx h3.nx ha.nx h6.nx h0.nx h1.nx h2.nx lo key fin:=⟨kc c6 o8 (by omega) (by simp),kc c8 o8 (by omega) (by simp),kc c9 o8 (by omega) (by simp),by omega,by omega,by omega⟩;refine kM ?_;refine U5 h8 h4.nx h3.nx h5.nx ha.nx h6.nx h0.nx h1.nx h2.nx h7.nx (h7.nx+1) bm kB lo to key fin qG v L hz [] _ _ (by exact sT) (by exact sT) (by exact sT) (by exact sT) (by exact sT) (by exact sT) (by exact sT) (by exact sT) (kc MT o8 (by omega) (by simp)) (kw R6 o8 (by omega) (by simp)) (kc R8 o8 (by omega) (by simp)) (kc Dd o8 (by omega) (by simp)) (kw MU o8 (by omega) (by simp)) (kc JD o8 (by omega) (by simp)) (kw OA o8 (by omega) (by simp))
  (m5.bU (EN.t o8).1 (by simp)) q1 q2 (kc md.c0 Zw Cd (by simp)) (br.only Zw.1 md.sl (fun _ _=>by simp)) (by omega) (by omega) (by omega) (by omega) (fun c e=>by have:=nv c e;omega) ?_
 intro h9 w wv j;have C11:=j.MT;have WW:=j.gw.one;refine rN ?_ (V C11<|WW);refine tY j.df rfl ?_
 (conv =>arg 2;whnf)
 simp only[B,xB,F,ab,ae,af,ag,ah,ai, ↓reduceIte,eq_self];have nx9:=j.nx;refine⟨⟨⟨by rw[BQ];omega,fun c hc hn=>?_⟩,?_⟩,?_⟩
 ·rw[cF (by omega),j.old c (by omega) (by omega) (by omega) (by omega) (by omega)];exact Zw.1.2 c hc (by simp)
 ·show h9.g=h0.g
  rw[j.g];exact Zw.2
 ·exact(j.gw.bG (h':=h9.obj h8.nx (.deferred none)) (ak _) (fun c e=>cF (by have:=(j.gw.base e).1;omega) _)).wk (by omega)
def OB(key:List Nat)(main:Nat)(s:KV)(r:Rec):KV:=if r.kv.key=key∧r.main≤main then(if r.dW then wE else r.kv)else s
def qB(key:List Nat)(main:Nat)(l:List Rec):KV:=l.foldl (OB key main) wE
theorem ZT{key:List Nat}{main:Nat}{l:List Rec}{i:Nat}{r:Rec}(h:l[i]? =some r):qB key main (l.take (i+1))=OB key main (qB key main (l.take i)) r:=by
 unfold qB;rw[aZ,h,aah];rfl
theorem Cn{key:List Nat}{m:Nat}:∀(L:List Rec)(s:KV)(W:View),(W.map (·.1)).Nodup→s=gu key W→L.foldl (OB key m) s=gu key (L.foldl (fun W r=>if r.main≤m then fw W r else W) W)
 |[],_,_,_,h=>h
 | r::L,s,W,nd,h=>by
  rw[aab,aab];by_cases q:r.main≤m
  ·rw[if_pos q]
   refine Cn L _ _ (vQ nd) ?_;unfold OB gu;rw[oX nd];by_cases q2:r.kv.key=key
   ·rw[if_pos ⟨q2,q⟩,if_pos q2.symm]
    cases r.dW<;>rfl
   ·rw[if_neg (fun e=>q2 e.1),if_neg (fun e=>q2 e.symm),h];rfl
  ·rw[if_neg q]
   refine Cn L _ _ nd ?_;unfold OB;rw[if_neg (fun e=>q e.2),h]
theorem U7(key:List Nat)(m:Nat)(L:List Rec):qB key m L=gu key (dg m L):=Cn L wE [] List.nodup_nil rfl
structure WaI(h0:H)(b6 b7:Nat)(va:AV)(l:List Rec)(key:List Nat)(main:Nat)(m:Nat)(ds:List Nat)(tm:T AV)(h:H)(i:Nat):Prop where
 ds:ds=[]
 nn:m=l.length-i
 ii:i≤l.length
 t0:tm.get 0=some va
 t1:tm.get 1=some (.str key)
 t2:tm.get 2=some (.int .u64 (.ofNat main))
 t6:tm.get 6=some (.ptr b6 0)
 t7:tm.get 7=some (.ptr b7 0)
 t8:tm.get 8=some (.int .i64 (.ofNat i))
 c6:∀j,j<5→cellAt h b6 j=wE.cs[j]?
 c7:∀j,j<5→cellAt h b7 j=(qB key main (l.take i)).cs[j]?
 w6:cj h b6=true
 w7:cj h b7=true
 l6:h0.nx≤b6∧b6<h.nx
 l7:h0.nx≤b7∧b7<h.nx
 ne:b6≠b7
 oo:Og h0 h []
theorem wasC(h0:H)(va:AV)(l:List Rec)(key:List Nat)(main:Nat)(sl:br h0 va l.length (l.flatMap Rec.cs))(hz:l.length≤1000000):bW P (.enter 87 [va,.str key,.int .u64 (.ofNat main)] h0) (cQ h0 (.agg (qB key main l).cs)):=by
 have hlen:=sl.len (P:=P) jl;obtain⟨h1,cC⟩:∃h1,h1=h0.bq 83 [.str [],.str [],.int .u64 (.ofNat 0),.int .u64 (.ofNat 0),.int .u64 (.ofNat 0)]:=⟨_,rfl⟩;obtain⟨h2,cJ⟩:∃h2,h2=(h1.bq 83 [.str [],.str [],.int .u64 (.ofNat 0),.int .u64 (.ofNat 0),.int .u64 (.ofNat 0)]).cm h1.nx 0 [.str [],.str [],.int .u64 (.ofNat 0),.int .u64 (.ofNat 0),.int .u64 (.ofNat 0)]:=⟨_,rfl⟩;have o1:Og h0 h1 []:=by rw[cC];exact(Og.refl _ _).new _ _
 have o2:Og h1 h2 []:=by rw[cJ];exact((Og.refl _ _).new _ _).cm (.inr (ak _))
 have x1:h1.nx=h0.nx+1:=by rw[cC];rfl
 have x2:h2.nx=h1.nx+1:=by rw[cJ,bI,dt]
 have wn:cj (h1.bq 83 [.str [],.str [],.int .u64 (.ofNat 0),.int .u64 (.ofNat 0),.int .u64 (.ofNat 0)]) h1.nx=true:=by rw[cY,if_pos rfl]
 have c6:∀j,j<5→cellAt h2 h0.nx j=wE.cs[j]? :=fun j hj=>by rw[bo (o2.1.2 h0.nx (by omega) (by simp)),cC,bJ,if_pos rfl];rfl
 have c7:∀j,j<5→cellAt h2 h1.nx j=wE.cs[j]? :=fun j hj=>by rw[cJ,b_ wn,if_pos ⟨rfl,aA _,by simpa using hj⟩,aaj];rfl
 have w6:cj h2 h0.nx=true:=by rw[bC (o2.1.2 h0.nx (by omega) (by simp)),cC,cY,if_pos rfl]
 have w7:cj h2 h1.nx=true:=by rw[cJ,bN,wn]
 refine bn (fn:=Tryz.f87) (c:=bD Tryz.f87) Tryz.func87 rfl ?_;show bB P 87 46 none _ _ _ _ _;refine bp ?_;refine rN ?_ (V ez<|V cC.symm<|cJ.symm);refine cn (fun m ds tm h=>∃i,WaI h0 h0.nx h1.nx va l key main m ds tm h i) l.length rfl ⟨0,rfl,rfl,aA _,by exact sT,by exact sT,by exact sT,by exact sT,by exact sT,by exact sT,c6,c7,w6,w7,⟨ak _,by omega⟩,⟨by omega,by omega⟩,by omega,o1.t o2⟩ (fun m ds tm h hI=>?_);clear c6 c7 w6 w7;obtain⟨i,rfl,rfl,ii,t0,t1,t2,t6,t7,t8,c6,c7,w6,w7,l6,l7,ne,oo⟩:=hI;by_cases hi:i<l.length
 ·have di:decide (i<l.length)=true:=decide_eq_true hi
  have dX:(i<l.length)=True:=by simp[hi]
  obtain⟨x,hx⟩:∃x,l[i]? =some x:=⟨_,aw hi⟩;have jk:=br.only oo.1 sl (fun _ _=>by simp);obtain⟨bv,ov,cv,rfl,qw,-⟩:=sl.place (by omega);obtain⟨q0,q1,q2,q3,q4,q5,q6,q7⟩:=Rec.at jk hx;have w1:bV .i64 (au i+au 1)=au (i+1):=cq (by omega);have hs:=ZT (key:=key) (main:=main) hx;unfold OB at hs;by_cases p:x.kv.key=key∧x.main≤main
  ·rw[if_pos p]at hs
   have d1:decide (x.kv.key=key)=true:=decide_eq_true p.1;have d2:decide (main<x.main)=false:=decide_eq_false (by omega);have Wt:cellAt h h1.nx 0=some (.str (qB key main (l.take i)).key):=c7 0 (by omega);have Wu:cellAt h h1.nx 1=some (.str (qB key main (l.take i)).val):=c7 1 (by omega);have Wv:cellAt h h1.nx 2=some (.int .u64 (.ofNat (qB key main (l.take i)).iC)):=c7 2 (by omega);have Ww:cellAt h h1.nx 3=some (.int .u64 (.ofNat (qB key main (l.take i)).mod)):=c7 3 (by omega);have Wx:cellAt h h1.nx 4=some (.int .u64 (.ofNat (qB key main (l.take i)).im)):=c7 4 (by omega);obtain⟨h5,eL⟩:∃h5,h5=h.cm h1.nx 0 [.str x.kv.key,.str x.kv.val,.int .u64 (.ofNat x.kv.iC),.int .u64 (.ofNat x.kv.mod),.int .u64 (.ofNat x.kv.im)]:=⟨_,rfl⟩;have o5:Og h h5 [h1.nx]:=by rw[eL];exact(Og.refl _ _).cm (.inl (by simp))
   have x5:h5.nx=h.nx:=by rw[eL,bI]
   have w5:cj h5 h1.nx=true:=by rw[eL,bN];exact w7
   have e5:∀j,j<5→cellAt h5 h1.nx j=x.kv.cs[j]? :=fun j hj=>by rw[eL,b_ w7,if_pos ⟨rfl,aA _,by simpa using hj⟩,aaj];rfl
   have ee0:cellAt h5 h1.nx 0=some (.str x.kv.key):=e5 0 (by omega);have ee1:cellAt h5 h1.nx 1=some (.str x.kv.val):=e5 1 (by omega);have ee2:cellAt h5 h1.nx 2=some (.int .u64 (.ofNat x.kv.iC)):=e5 2 (by omega);have ee3:cellAt h5 h1.nx 3=some (.int .u64 (.ofNat x.kv.mod)):=e5 3 (by omega);have ee4:cellAt h5 h1.nx 4=some (.int .u64 (.ofNat x.kv.im)):=e5 4 (by omega);have Um:cellAt h5 bv (ov+(i*8+7))=some (.bool x.dW):=by rw[bo (o5.1.2 bv (by have:=oo.1.1;omega) (by simp;omega))];exact q7
   cases qt:x.dW with
   | true=>
    rw[qt]at Um hs;obtain⟨h6,kO⟩:∃h6,h6=h5.cm h1.nx 0 [.str [],.str [],.int .u64 (.ofNat 0),.int .u64 (.ofNat 0),.int .u64 (.ofNat 0)]:=⟨_,rfl⟩;have o6:Og h5 h6 [h1.nx]:=by rw[kO];exact(Og.refl _ _).cm (.inl (by simp))
    have x6:h6.nx=h5.nx:=by rw[kO,bI]
    refine rN ?_ (V ez<|V t0<|V t1<|V t2<|V t6<|V t7<|V t8<|V hlen<|V di<|V dX<|V q0<|V q1<|V q2<|V q3<|V q4<|V q5<|V q6<|V q7<|V d1<|V d2<|V @an<|V w7<|V Wt<|V Wu<|V Wv<|V Ww<|V Wx<|V eL.symm<|V Um<|V w5<|V ee0<|V ee1<|V ee2<|V ee3<|V ee4<|V kO.symm<|w1);refine⟨l.length-(i+1),by omega,i+1,rfl,rfl,by omega,by exact sT,by exact sT,by exact sT,by exact sT,by exact sT,by exact sT,fun j hj=>?_,fun j hj=>?_,?_,?_,⟨l6.1,by omega⟩,⟨l7.1,by omega⟩,ne,⟨⟨by have:=oo.1.1;omega,fun c hc _=>?_⟩,o6.2.trans (o5.2.trans oo.2)⟩⟩
    ·rw[bo (o6.1.2 h0.nx (by omega) (by simp;omega)),bo (o5.1.2 h0.nx l6.2 (by simp;omega))];exact c6 j hj
    ·rw[hs,if_pos rfl,kO,b_ w5,if_pos ⟨rfl,aA _,by simpa using hj⟩,aaj];rfl
    ·exact kw (kw w6 o5 l6.2 (by simp;omega)) o6 (by omega) (by simp;omega)
    ·rw[kO,bN];exact w5
    ·have:=oo.1.1
     rw[o6.1.2 c (by omega) (by simp;omega),o5.1.2 c (by omega) (by simp;omega)];exact oo.1.2 c hc (by simp)
   |false=>
    rw[qt]at Um hs;refine rN ?_ (V ez<|V t0<|V t1<|V t2<|V t6<|V t7<|V t8<|V hlen<|V di<|V dX<|V q0<|V q1<|V q2<|V q3<|V q4<|V q5<|V q6<|V q7<|V d1<|V d2<|V @an<|V w7<|V Wt<|V Wu<|V Wv<|V Ww<|V Wx<|V eL.symm<|V Um<|w1);refine⟨l.length-(i+1),by omega,i+1,rfl,rfl,by omega,by exact sT,by exact sT,by exact sT,by exact sT,by exact sT,by exact sT,fun j hj=>?_,fun j hj=>?_,?_,w5,⟨l6.1,by omega⟩,⟨l7.1,by omega⟩,ne,⟨⟨by have:=oo.1.1;omega,fun c hc _=>?_⟩,o5.2.trans oo.2⟩⟩
    ·rw[bo (o5.1.2 h0.nx l6.2 (by simp;omega))];exact c6 j hj
    ·rw[hs,if_neg (by simp)];exact e5 j hj
    ·exact kw w6 o5 l6.2 (by simp;omega)
    ·rw[o5.1.2 c (by have:=oo.1.1;omega) (by simp;omega)];exact oo.1.2 c hc (by simp)
  ·rw[if_neg p]at hs
   have fin:∀bZ:T AV,bZ.get 0=some (AV.slice bv ov l.length cv)→bZ.get 1=some (.str key)→bZ.get 2=some (.int .u64 (.ofNat main))→bZ.get 6=some (.ptr h0.nx 0)→bZ.get 7=some (.ptr h1.nx 0)→bZ.get 8=some (.int .i64 (.ofNat (i+1)))→
     ∃m,m<l.length-i∧∃i,WaI h0 h0.nx h1.nx (AV.slice bv ov l.length cv) l key main m [] bZ h i:=fun bZ g0 g1 g2 g6 g7 g8=>
    ⟨l.length-(i+1),by omega,i+1,rfl,rfl,by omega,g0,g1,g2,g6,g7,g8,c6,fun j hj=>by rw[hs];exact c7 j hj,w6,w7,l6,l7,ne,oo⟩
   by_cases p1:x.kv.key=key
   ·have d1:decide (x.kv.key=key)=true:=decide_eq_true p1
    have d2:decide (main<x.main)=true:=decide_eq_true (by
     have :¬x.main≤main:=fun e=>p ⟨p1,e⟩;omega)
    refine rN ?_ (V t0<|V t1<|V t2<|V t6<|V t7<|V t8<|V hlen<|V di<|V dX<|V q0<|V q1<|V q2<|V q3<|V q4<|V q5<|V q6<|V q7<|V d1<|V d2<|V @an<|w1);exact fin _ (by exact sT) (by exact sT) (by exact sT) (by exact sT) (by exact sT) (by exact sT)
   ·have d1:decide (x.kv.key=key)=false:=decide_eq_false p1
    refine rN ?_ (V t0<|V t1<|V t2<|V t6<|V t7<|V t8<|V hlen<|V di<|V dX<|V q0<|V q1<|V q2<|V q3<|V q4<|V q5<|V q6<|V q7<|V d1<|V @al<|w1);exact fin _ (by exact sT) (by exact sT) (by exact sT) (by exact sT) (by exact sT) (by exact sT)
 ·have di:decide (i<l.length)=false:=decide_eq_false hi
  obtain rfl:i=l.length:=by omega
  rw[aJ]at c7;have Wt:cellAt h h1.nx 0=some (.str (qB key main l).key):=c7 0 (by omega);have Wu:cellAt h h1.nx 1=some (.str (qB key main l).val):=c7 1 (by omega);have Wv:cellAt h h1.nx 2=some (.int .u64 (.ofNat (qB key main l).iC)):=c7 2 (by omega);have Ww:cellAt h h1.nx 3=some (.int .u64 (.ofNat (qB key main l).mod)):=c7 3 (by omega);have Wx:cellAt h h1.nx 4=some (.int .u64 (.ofNat (qB key main l).im)):=c7 4 (by omega);have k0:cellAt h h0.nx 0=some (.str []):=c6 0 (by omega);have k1:cellAt h h0.nx 1=some (.str []):=c6 1 (by omega);have k2:cellAt h h0.nx 2=some (.int .u64 (.ofNat 0)):=c6 2 (by omega);have k3:cellAt h h0.nx 3=some (.int .u64 (.ofNat 0)):=c6 3 (by omega);have k4:cellAt h h0.nx 4=some (.int .u64 (.ofNat 0)):=c6 4 (by omega);refine rN ?_ (V ez<|V t0<|V t1<|V t2<|V t6<|V t7<|V t8<|V hlen<|V di<|V w6<|V k0<|V k1<|V k2<|V k3<|V k4<|V Wt<|V Wu<|V Wv<|V Ww<|Wx);exact⟨rfl,oo.cm (.inr l6.1)⟩
end
end Go.Proofs.YtnedigoajoflaaaGreat.M
namespace Go.Proofs.YtnedigoajoflaaaGreat.M
open Go Go.AX
noncomputable section
set_option maxRecDepth 100000
section
variable{h:H}{t:TypeId}{x y:Operand}
theorem EU(k j:IntKind)(m:Int)(n:Nat):ed P h .shr t x y (.int k m) (.int j (.ofNat n))= .val (.int k (m.fdiv (au (2^min n k.bits)))) h:=by simp only[ed,d_,jR,zL,eM,cT]
end
theorem vV{a:Nat}(hs:a<18446744073709551616):bV .u64 (au a)=au a:=by
 have:=sC (a:=a) (b:=0) (by omega);simpa using this
end
end Go.Proofs.YtnedigoajoflaaaGreat.M
namespace Go.Proofs.YtnedigoajoflaaaGreat.M
open Go Go.AX
noncomputable section
set_option maxRecDepth 100000
theorem ZU:P.underlying 9=some .string:=by kernel_rfl
theorem co5:P.cellsOf 5=1:=by kernel_rfl
theorem OC:∀{l:List Nat},(∀c,c∈l→c<256)→o_ (l.map fun c=>.int .u8 (.ofNat c))=some l:=by
 intro l hl;have h1:∀l:List Nat,(∀c,c∈l→c<256)→nG (l.map fun c=>AV.int .u8 (.ofNat c))=true∧(l.map fun c=>AV.int .u8 (.ofNat c)).map AX.byteOf=l:=by
  intro l;induction l with
  |nil=>intro _;exact⟨rfl,rfl⟩
  | cons a l ih=>
   intro hl;obtain⟨i1,i2⟩:=ih (fun c hc=>hl c (aam _ hc));have ha:=hl a (by simp);refine⟨?_,?_⟩
   ·have hb:isByte (AV.int .u8 (.ofNat a))=true:=rfl
    show(match isByte (AV.int .u8 (.ofNat a))with|true=>nG (l.map fun c=>AV.int .u8 (.ofNat c))|false=>false)=true;rw[hb];exact i1
   ·rw[aE,aE,i2]
    show(a%256)::l=a::l;rw[Nat.mod_eq_of_lt ha]
 unfold o_;rw[(h1 l hl).1];simp only[(h1 l hl).2]
theorem u75a:P.underlying 95=some (.slice 5):=by kernel_rfl
theorem uj{h:H}{b o n:Nat}{cap:ur}{l:List Nat}(hl:l.length=n)(h0:l≠[])(hc:∀j,j<l.length→cellAt h b (o+j)=(l[j]?).map fun c=>.int .u8 (.ofNat c))(hb:∀c,c∈l→c<256):mq P 95 9 (.slice b o n cap) h= .val (.str l) h:=by
 have hr:h.row b o n=some (l.map fun c=>.int .u8 (.ofNat c)):=by
  have:=gK (h:=h) (b:=b) (o:=o) (cs:=l.map fun c=>.int .u8 (.ofNat c)) (fun j hj=>by rw[hc j (by simpa using hj),List.getElem?_map]) (by simpa using h0);rwa[aX,hl]at this
 unfold mq;simp only[u75a,ZU];unfold gF;have u5a:P.underlying 5=some (.int .u8):=by kernel_rfl
 simp only[u75a,ZU,u5a,hr,OC hb]
theorem pT{a b:List Nat}(hl:a.length+b.length≤1000000)(h:H)(t:TypeId)(x y:Operand):ed P h .add t x y (.str a) (.str b)= .val (.str (a++b)) h:=by
 have :Nat.ble (a.length+b.length) 1099511627776=true:=by rw[Nat.ble_eq];omega
 simp only[ed,d_,jR,E_,dY,this,eM]
end
end Go.Proofs.YtnedigoajoflaaaGreat.M
