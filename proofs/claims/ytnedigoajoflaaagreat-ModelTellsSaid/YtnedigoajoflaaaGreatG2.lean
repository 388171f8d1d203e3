/-
  model: a transaction's operations: walked.
-/
import Derived.Test.YtnedigoajoflaaaGreatAxI
import Derived.Test.YtnedigoajoflaaaGreatG1
import Derived.Test.YtnedigoajoflaaaGreatG0
set_option linter.unusedSimpArgs false
set_option linter.unusedVariables false
set_option linter.unusedSectionVars false
set_option linter.defProp false
set_option maxHeartbeats 8000000
open Nat renaming reduceLT→ab,reduceLeDiff→ae,reduceEqDiff→af,reduceAdd→ag,reduceMul→ah,reduceSub→ai,zero_add→al,lt_of_lt_of_le→aq,le_refl→aA,zero_le→aG,ble_eq_true_of_le→aL
open Int renaming ofNat→ak
open List renaming length_append→an,append_nil→ao,find?_cons→au,getElem?_eq_getElem→aw,foldl_cons→az,flatMap_append→aB,flatMap_singleton→aC,nil_append→aD,mem_singleton→aE,pairwise_cons→aF,take_length→aH,mem_of_getElem?→aJ,take_of_length_le→aK,drop_zero→aN,mem_cons→aP,lt_trans→aQ
open Bool renaming not_false→aM,not_true→aO
open Option renaming isSome_some→aR
namespace Go.Proofs.YtnedigoajoflaaaGreat.M
open Go Go.AX
noncomputable section
set_option maxRecDepth 100000
def sI(rev:Nat)(L0:List Rec)(R:List Rec)(op:Op):nz×List Rec:=
 if op.kind=0 then(fM op (ny (iE rev L0 R op) op.key op.fin),R)
 else if op.kind=1 then(oW op (dP op.key (dg (rev+1) (L0++R))),R++[rO rev R (oV rev op (dP op.key (dg (rev+1) (L0++R)))) false])
 else(rS op (ny (dg (rev+1) (L0++R)) op.key op.fin),fx rev R (ny (dg (rev+1) (L0++R)) op.key op.fin))
def Oo(rev:Nat)(L0:List Rec)(s:List nz×List Rec)(op:Op):List nz×List Rec:=(s.1++[(sI rev L0 s.2 op).1],(sI rev L0 s.2 op).2)
def fy(rev:Nat)(L0:List Rec)(l:List Op):List nz×List Rec:=l.foldl (Oo rev L0) ([],[])
theorem Cb{rev:Nat}{L0:List Rec}{l:List Op}{i:Nat}{x:Op}(h:l[i]? =some x):fy rev L0 (l.take (i+1))=Oo rev L0 (fy rev L0 (l.take i)) x:=by
 unfold fy;rw[List.take_add_one,h,List.foldl_append];rfl
theorem gz{h:H}{v:AV}{n:Nat}{cs:List AV}(s:br h v n cs):∀c,bA v=some c→c<h.nx:=by
 intro c e;cases s with
 |cell b o n cap cs hb hc=>cases e;exact hb
 |none=>cases e
 |zero=>cases e
theorem IT(rev:Nat)(L0:List Rec)(l:List Op):(fy rev L0 l).1.length=l.length:=by
 have h:∀(l:List Op)(s:List nz×List Rec),(l.foldl (Oo rev L0) s).1.length=s.1.length+l.length:=by
  intro l;induction l with
  |nil=>intro s;rfl
  |cons a l ih=>intro s;rw[az,ih];unfold Oo;simp;omega
 unfold fy;rw[h];simp
theorem opC(h0:H)(bd bm ro base:Nat)(L0:List Rec)(v0:AV)(rev comp:Nat)(R:List Rec)(w:AV)(d:nC h0 bd bm ro base L0 v0 rev comp R w)(op:Op)(kd:Nat)(hk:op.kind=ak kd)(h3:kd<3)(hr:rev≤1000000)(hs:dI L0)(O3:dI R)(hz:L0.length≤200000)(WK:R.length≤200000):
  bW P (.enter (58+kd) [.ptr bd 0,.agg op.cs] h0) fun v h'=>∃k p w',uf h0 h' bd bm ro base L0 v0 rev comp w (sI rev L0 R op).2 (sI rev L0 R op).1 v w' k p:=by
 match kd,h3 with
 |0,_=>
  have e:sI rev L0 R op=(fM op (ny (iE rev L0 R op) op.key op.fin),R):=by unfold sI;rw[if_pos (by rw[hk];rfl)]
  rw[e];refine(Ry h0 bd bm ro base L0 v0 rev comp R w d op hs O3 (by omega) (by omega)).mono P ?_;rintro v h' ⟨k,o⟩;exact⟨k,_,_,o⟩
 |1,_=>
  have e:sI rev L0 R op=(oW op (dP op.key (dg (rev+1) (L0++R))),R++[rO rev R (oV rev op (dP op.key (dg (rev+1) (L0++R)))) false]):=by unfold sI;rw[if_neg (by rw[hk];decide),if_pos (by rw[hk];rfl)]
  rw[e];refine(putC h0 bd bm ro base L0 v0 rev comp R w d op hr (by omega)).mono P ?_;rintro v h' ⟨p,w',o⟩;exact⟨_,p,w',o⟩
 |2,_=>
  have e:sI rev L0 R op=(rS op (ny (dg (rev+1) (L0++R)) op.key op.fin),fx rev R (ny (dg (rev+1) (L0++R)) op.key op.fin)):=by unfold sI;rw[if_neg (by rw[hk];decide),if_neg (by rw[hk];decide)]
  rw[e];refine(dropC h0 bd bm ro base L0 v0 rev comp R w d op hr hs O3 hz WK).mono P ?_;rintro v h' ⟨p,w',o⟩;exact⟨_,p,w',o⟩
abbrev RV:=nz×AV×AV
def Ga(x:RV):List AV:=x.1.cs x.2.1 x.2.2
theorem RVlen(x:RV):(Ga x).length=5:=rfl
structure RB(h:H)(lo:Nat)(w rw :AV)(x:RV):Prop where
 ks:br h x.2.1 x.1.rM.length (x.1.rM.flatMap KV.cs)
 ps:br h x.2.2 x.1.prev.length (x.1.prev.flatMap KV.cs)
 kb:∀c,bA x.2.1=some c→lo≤c∧c<h.nx∧bA w≠some c∧bA rw ≠some c
 pb:∀c,bA x.2.2=some c→lo≤c∧c<h.nx∧bA w≠some c∧bA rw ≠some c
def cM(err rev comp:Nat)(tk:Bool)(rw :AV):List AV:=[.int .i64 (.ofNat err),.int .u64 (.ofNat rev),.int .u64 (.ofNat comp),.bool tk,rw,.int .u32 (.ofNat 0),.int .u64 (.ofNat 0),.int .u64 (.ofNat 0),.int .i64 (.ofNat 0)]
structure Zr(h0 h:H)(bd bm ro base b4 b5 dZ:Nat)(L0:List Rec)(v0:AV)(rev comp:Nat)(R:List Rec)(w:AV)(xs:List RV)(rw :AV):Prop where
 d:nC h bd bm ro base L0 v0 rev comp R w
 k5:cellAt h b5 0=some (.ptr bd 0)
 f:bj h dZ 0 [.func 58 [.ptr bd 0] [],.func 59 [.ptr bd 0] [],.func 60 [.ptr bd 0] []]
 a:bj h b4 0 (cM 0 0 0 false rw)
 w4:cj h b4=true
 gr:bK 5 base h rw xs.length (xs.flatMap Ga)
 ok:∀x,x∈xs→RB h base w rw x
 nw:∀c,bA rw =some c→bA w≠some c
 oo:Og h0 h []
 l0:h0.nx≤b4
 l4:b4<ro
 l5:bd<b5
 JB:b5<dZ
 lb:dZ<base
theorem u108a:P.underlying 127=some (.array 3 126):=by kernel_rfl
theorem ia108(b i:Nat)(hi:i<3):eu P 127 (.ptr b 0) (.int .i64 (.ofNat i))=some (.ptr b i):=by
 have hb:Nat.blt i 3=true:=aL hi;unfold eu;simp only[u108a,hb,show eQ P 126=true from by kernel_rfl,Bool.and_true,show P.cellsOf 126=1 from by kernel_rfl,Nat.mul_one,al]
theorem cfK{kd:Nat}(h3:kd<3)(first cap args:List AV)(h:H):je P (.func (58+kd) first cap) args h= .enter (58+kd) (first ++args++cap) h:=by
 match kd,h3 with
 |0,_=>exact bz 58 (by kernel_rfl) first cap args
 |1,_=>exact bz 59 (by kernel_rfl) first cap args
 |2,_=>exact bz 60 (by kernel_rfl) first cap args
theorem Zr.fk{h0 h:H}{bd bm ro base b4 b5 dZ:Nat}{L0:List Rec}{v0:AV}{rev comp:Nat}{R:List Rec}{w:AV}{xs:List RV}{rw :AV}(t:Zr h0 h bd bm ro base b4 b5 dZ L0 v0 rev comp R w xs rw){kd:Nat}(h3:kd<3):cellAt h dZ kd=some (.func (58+kd) [.ptr bd 0] []):=by
 obtain⟨f0,f1,f2⟩:=t.f.u3;match kd,h3 with
 |0,_=>exact f0
 |1,_=>exact f1
 |2,_=>exact f2
theorem nC.lt{h:H}{bd bm ro base rev comp:Nat}{L0 R:List Rec}{v0 w:AV}(d:nC h bd bm ro base L0 v0 rev comp R w):bd<h.nx:=by have:=d.l3;have:=d.l4;omega
theorem RB.move{h h':H}{lo:Nat}{w rw w' rw':AV}{x:RV}(k:RB h lo w rw x)(hx:h.nx≤h'.nx)(e:∀c,lo≤c→c<h.nx→bA w≠some c→bA rw ≠some c→h'.t.get c=h.t.get c∧bA w'≠some c∧bA rw'≠some c):RB h' lo w' rw' x:=
  ⟨k.ks.move hx (fun c q=>(e c (k.kb c q).1 (k.kb c q).2.1 (k.kb c q).2.2.1 (k.kb c q).2.2.2).1),k.ps.move hx (fun c q=>(e c (k.pb c q).1 (k.pb c q).2.1 (k.pb c q).2.2.1 (k.pb c q).2.2.2).1),
   fun c q=>⟨(k.kb c q).1,aq (k.kb c q).2.1 hx,(e c (k.kb c q).1 (k.kb c q).2.1 (k.kb c q).2.2.1 (k.kb c q).2.2.2).2⟩,fun c q=>⟨(k.pb c q).1,aq (k.pb c q).2.1 hx,(e c (k.pb c q).1 (k.pb c q).2.1 (k.pb c q).2.2.1 (k.pb c q).2.2.2).2⟩⟩
structure TyI(h0:H)(bd bm ro base b4 b5 dZ:Nat)(L0:List Rec)(v0:AV)(rev comp:Nat)(tk:Bool)(l:List Op)(va:AV)(m:Nat)(ds:List Nat)(tm:T AV)(h:H)(i:Nat)(w:AV)(xs:List RV)(rw :AV):Prop where
 ds:ds=[]
 nn:m=l.length-i
 ii:i≤l.length
 t0:tm.get 0=some (.ptr bm 0)
 t4:tm.get 4=some (.ptr b4 0)
 t5:tm.get 5=some (.ptr b5 0)
 t7:tm.get 7=some (.bool tk)
 t11:tm.get 11=some (.ptr dZ 0)
 t74:tm.get 74=some va
 t75:tm.get 75=some (.int .i64 (.ofNat l.length))
 t76:tm.get 76=some (.int .i64 (.ofNat i))
 hx:xs.map (·.1)=(fy rev L0 (l.take i)).1
 hh:Zr h0 h bd bm ro base b4 b5 dZ L0 v0 rev comp (fy rev L0 (l.take i)).2 w xs rw
theorem Uz(h0 h1:H)(bd bm ro base b4 b5 dZ:Nat)(L0:List Rec)(v0:AV)(rev comp:Nat)(tk:Bool)(l:List Op)(va:AV)(hh:Zr h0 h1 bd bm ro base b4 b5 dZ L0 v0 rev comp [] .bh [] .bh)(sl:br h0 va l.length (l.flatMap Op.cs))(hz:l.length≤1000000)(hr:rev≤1000000)(hs:dI L0)(JC:L0.length≤200000)
  (hB:∀i,i≤l.length→dI (fy rev L0 (l.take i)).2∧(fy rev L0 (l.take i)).2.length≤200000)(hk:∀op,op∈l→∃kd,op.kind=ak kd∧kd<3)(WA:bm<b4)(De:∀c,bA v0=some c→c<b4)
  (tm:T AV)(t0:tm.get 0=some (.ptr bm 0))(t4:tm.get 4=some (.ptr b4 0))(t5:tm.get 5=some (.ptr b5 0))(t7:tm.get 7=some (.bool tk))(t11:tm.get 11=some (.ptr dZ 0))(t74:tm.get 74=some va)(t75:tm.get 75=some (.int .i64 (.ofNat l.length)))(t76:tm.get 76=some (.int .i64 (.ofNat 0)))(K:KQ)
  (hK:∀bZ h2 w xs rw,bZ.get 0=some (.ptr bm 0)→bZ.get 4=some (.ptr b4 0)→bZ.get 5=some (.ptr b5 0)→bZ.get 7=some (.bool tk)→xs.map (·.1)=(fy rev L0 l).1→Zr h0 h2 bd bm ro base b4 b5 dZ L0 v0 rev comp (fy rev L0 l).2 w xs rw →K .norm [] bZ h2):
  bB P 24 121 none (bL (bD Tryz.f24) [1,0,1,1,1,1,1,1,1,1,1,1]) [] tm h1 K:=by
 refine kM ?_;refine cn (fun m ds tm h=>∃i w xs rw,TyI h0 bd bm ro base b4 b5 dZ L0 v0 rev comp tk l va m ds tm h i w xs rw) l.length rfl ⟨0,.bh,[],.bh,rfl,rfl,aG _,t0,t4,t5,t7,t11,t74,t75,t76,rfl,hh⟩ (fun m ds tm h hI=>?_);clear t0 t4 t5 t7 t11 t74 t75 t76 hh;obtain⟨i,w,xs,dE,rfl,rfl,ii,t0,t4,t5,t7,t11,t74,t75,t76,MF,hh⟩:=hI;by_cases hi:i<l.length
 ·have di:decide (i<l.length)=true:=decide_eq_true hi
  have dX:(i<l.length)=True:=by simp[hi]
  obtain⟨x,hx⟩:∃x,l[i]? =some x:=⟨_,aw hi⟩;have jk:=br.only hh.oo.1 sl (fun _ _=>by simp);obtain⟨bv,ov,cv,rfl,qw,-⟩:=jk.place (by omega);obtain⟨q0,q1,q2,q3,q4,q5,q6,q7,q8⟩:=Op.at jk hx;obtain⟨h2,cJ,o2,x2,y0,y1,y2,y3,y4,y5,y6,y7,y8⟩:=EH h x;have w1:bV .i64 (ak i+ak 1)=ak (i+1):=cq (by omega);obtain⟨kd,qz,h3⟩:=hk x (aJ hx);have g0:=hh.oo.1.1;have g1:=hh.l0;have g4:=hh.l4;have g5:=hh.l5;have g11:=hh.JB;have gb:=hh.lb;have gd2:=hh.d.l2;have gd3:=hh.d.l3;have gd4:=hh.d.l4;have f2:=kc (hh.fk h3) o2 (by omega) (by simp);have ia:=ia108 dZ kd h3;have cf:=@cfK kd h3;have A2:=gC hh.a o2 (by omega) (by simp);obtain⟨a0,a1,a2,a3,a4,a5,a6,a7,a8⟩:=A2.u9;rw[qz]at y0;obtain⟨O3,WK⟩:=hB i ii;have nR:=hh.gr.one;obtain⟨R,hR⟩:∃R,R=(fy rev L0 (l.take i)).2:=⟨_,rfl⟩;have hss:=Cb (rev:=rev) (L0:=L0) hx;rw[←hR]at hh O3 WK;repeat' (first|((with_reducible refine gh ?_);(conv =>whnf);(with_reducible refine⟨?_⟩))|((with_reducible refine cV sH ?_ rfl rfl ?_);exact rfl;(conv =>arg 4;whnf);(conv =>arg 3;whnf))|((with_reducible refine fh ?_ rfl rfl ?_ ?_);exact rfl;kernel_rfl;(conv =>arg 5;whnf);(conv =>arg 3;whnf))|((with_reducible refine bE rfl ?_);(conv =>arg 2;whnf))|((with_reducible first|refine iB ?_ ?_|refine g_ ?_ ?_|refine hP ?_ ?_|refine pL ?_ ?_|refine pM ?_ ?_)<;>intro hb<;>(try simp only[hb]))|((with_reducible show dh _ _ _ _ _ _ _ _ _);first|((with_reducible apply gM);exact rfl;exact rfl)|((with_reducible apply gN);exact rfl;exact rfl;exact rfl)|((with_reducible apply gP);exact rfl;exact rfl;kernel_rfl)|((with_reducible apply gQ);exact rfl;exact rfl;exact rfl)|((with_reducible apply gT);exact rfl;exact rfl;exact rfl)|((with_reducible apply gR);exact rfl;exact rfl;kernel_rfl;exact rfl)|((with_reducible apply gS);exact rfl;exact rfl;kernel_rfl;exact rfl)|((with_reducible refine gL ?_ ?_)))|((with_reducible show cU _ _ _ _ _ _ _ _ _);first|((with_reducible refine fj ?_ ?_);exact rfl)|((with_reducible apply fm);exact rfl;exact rfl)|((with_reducible refine fo ?_ ?_ ?_);exact rfl;kernel_rfl)|((with_reducible apply fp);exact rfl;exact rfl)|((with_reducible refine fq ?_ ?_ ?_ ?_ ?_);exact rfl;kernel_rfl;exact rfl)|((with_reducible apply ft);exact rfl;kernel_rfl;exact rfl)|((with_reducible refine fi ?_ ?_)))|((with_reducible show il _ _ _ _ _ _);first|(exact cK)|(refine eB ?_ ?_ ?_;exact rfl)|(apply eC;exact rfl;exact rfl)|(refine eD ?_ ?_ ?_ ?_;exact rfl;kernel_rfl)|(apply eF;exact rfl)|(apply eE;exact rfl;exact rfl))|((with_reducible refine bX ?_);kernel_rfl)|(simp only[B,xB,F,ab,ae,af,ag,ah,ai, ↓reduceIte,eq_self,t0,t4,t5,t7,t11,t74,t75,t76,di,dX,q0,q1,q2,q3,q4,q5,q6,q7,q8,cJ,y0,y1,y2,y3,y4,y5,y6,y7,y8,a4,ia,f2,cf]))
  have Ao:=opC h2 bd bm ro base L0 v0 rev comp R w (hh.d.bU o2) x kd qz h3 hr hs O3 JC WK;unfold Op.cs at Ao;rw[qz]at Ao;refine(Ao.call P).mono P ?_;rintro v2 h4 ⟨k,p,w3,o⟩;obtain⟨r,hre⟩:∃r,r=(sI rev L0 R x).1:=⟨_,rfl⟩;obtain⟨R2,hR2⟩:∃R2,R2=(sI rev L0 R x).2:=⟨_,rfl⟩;rw[←hre,←hR2]at o;obtain⟨hv,oks,ops_,okb,opb,oko,opo,od,odk⟩:=o;unfold nz.cs at hv;subst hv;have x4:=odk.nx;have Dc:∀c,bA w=some c→base≤c∧c<h.nx:=fun c e=>hh.d.gr.base e;have RC:∀c,bA dE=some c→base≤c∧c<h.nx:=fun c e=>hh.gr.base e;have kB:∀c,c<base→c≠bd→c≠ro→h4.t.get c=h2.t.get c:=fun c hc n1 n2=>odk.old c (by omega) n1 n2 (fun e=>by have:=Dc c e;omega);have kN:∀c,c<h2.nx→base≤c→bA w≠some c→h4.t.get c=h2.t.get c:=fun c hc hb hn=>odk.old c hc (by omega) (by omega) hn;have kX:h4.t.get h.nx=h2.t.get h.nx:=kN h.nx (by omega) (by omega) (fun e=>by have:=Dc _ e;omega);have z:∀j,cellAt h4 h.nx j=cellAt h2 h.nx j:=fun j=>bo kX _;rw[←z]at y0 y1 y2 y3 y4 y5 y6 y7 y8;have A4:=A2.bG (kB b4 (by omega) (by omega) (by omega));obtain⟨c0,c1,c2,c3,c4,c5,c6,c7,c8⟩:=A4.u9;have vS:cj h4 b4=true:=by rw[bC (kB b4 (by omega) (by omega) (by omega)),bC (o2.1.2 b4 (by omega) (by simp))];exact hh.w4
  have f4:cellAt h4 dZ kd=some (.func (58+kd) [.ptr bd 0] []):=by rw[bo (kB dZ (by omega) (by omega) (by omega))];exact f2
  obtain⟨h5,eL⟩:∃h5,h5=h4.bq 47 [k,.bool r.more,.int .i64 (.ofNat r.JA),.int .i64 (.ofNat r.del),p]:=⟨_,rfl⟩;have o5:Og h4 h5 []:=by rw[eL];exact(Og.refl _ _).new _ _
  have x5:h5.nx=h4.nx+1:=by rw[eL];rfl
  have eZ:h5.row h4.nx 0 5=some [k,.bool r.more,.int .i64 (.ofNat r.JA),.int .i64 (.ofNat r.del),p]:=by rw[eL];exact(bj.new h4 47 [k,.bool r.more,.int .i64 (.ofNat r.JA),.int .i64 (.ofNat r.del),p]).row (by simp)
  have kR:∀c,bA dE=some c→h5.t.get c=h.t.get c:=fun c e=>by
   have:=RC c e;rw[o5.1.2 c (by omega) (by simp),kN c (by omega) this.1 (hh.nw c e),o2.1.2 c this.2 (by simp)]
  have S4:bK 5 base h5 dE _ _:=hh.gr.bG (by omega) kR;have hxl:xs.length=i:=by
   have e:=congrArg List.length MF;rw[List.length_map]at e;rw[e,IT,List.length_take];omega
  have c45:=kc c4 o5 (by omega) (by simp);repeat' (first|((with_reducible refine gh ?_);(conv =>whnf);(with_reducible refine⟨?_⟩))|((with_reducible refine cV sH ?_ rfl rfl ?_);exact rfl;(conv =>arg 4;whnf);(conv =>arg 3;whnf))|((with_reducible refine fh ?_ rfl rfl ?_ ?_);exact rfl;kernel_rfl;(conv =>arg 5;whnf);(conv =>arg 3;whnf))|((with_reducible refine bE rfl ?_);(conv =>arg 2;whnf))|((with_reducible first|refine iB ?_ ?_|refine g_ ?_ ?_|refine hP ?_ ?_|refine pL ?_ ?_|refine pM ?_ ?_)<;>intro hb<;>(try simp only[hb]))|((with_reducible show dh _ _ _ _ _ _ _ _ _);first|((with_reducible apply gM);exact rfl;exact rfl)|((with_reducible apply gN);exact rfl;exact rfl;exact rfl)|((with_reducible apply gP);exact rfl;exact rfl;kernel_rfl)|((with_reducible apply gQ);exact rfl;exact rfl;exact rfl)|((with_reducible apply gT);exact rfl;exact rfl;exact rfl)|((with_reducible apply gR);exact rfl;exact rfl;kernel_rfl;exact rfl)|((with_reducible apply gS);exact rfl;exact rfl;kernel_rfl;exact rfl)|((with_reducible refine gL ?_ ?_)))|((with_reducible show cU _ _ _ _ _ _ _ _ _);first|((with_reducible refine fj ?_ ?_);exact rfl)|((with_reducible apply fm);exact rfl;exact rfl)|((with_reducible refine fo ?_ ?_ ?_);exact rfl;kernel_rfl)|((with_reducible apply fp);exact rfl;exact rfl)|((with_reducible refine fq ?_ ?_ ?_ ?_ ?_);exact rfl;kernel_rfl;exact rfl)|((with_reducible apply ft);exact rfl;kernel_rfl;exact rfl)|((with_reducible refine fi ?_ ?_)))|((with_reducible show il _ _ _ _ _ _);first|(exact cK)|(refine eB ?_ ?_ ?_;exact rfl)|(apply eC;exact rfl;exact rfl)|(refine eD ?_ ?_ ?_ ?_;exact rfl;kernel_rfl)|(apply eF;exact rfl)|(apply eE;exact rfl;exact rfl))|((with_reducible refine bX ?_);kernel_rfl)|(simp only[B,xB,F,ab,ae,af,ag,ah,ai, ↓reduceIte,eq_self,t4,t11,c45,nR,oko,opo,y0,y1,y2,y3,y4,y5,y6,y7,y8,c4,ia,f4,cf,←eL,eZ]))
  refine dz (m:=1) (new:=Ga (r,k,p)) S4 (by omega) (by omega) (by omega) rfl (by omega) (fun v7 h7 g7 x7 gV ud vM=>?_);have wG:=g7.one;have Om:=g7.cells;have k7:∀c,c<h5.nx→bA dE≠some c→h7.t.get c=h5.t.get c:=gV;have nb:∀c,c<base→bA dE≠some c:=fun c hc e=>by have:=RC c e;omega
  have A7:bj h7 b4 0 (cM 0 0 0 false dE):=(A4.bG (o5.1.2 b4 (by omega) (by simp))).bG (k7 b4 (by omega) (nb b4 (by omega)));obtain⟨e0,e1,e2,e3,e4,e5,e6,e7,e8⟩:=A7.u9;have Zp:cj h7 b4=true:=by rw[bC (k7 b4 (by omega) (nb b4 (by omega))),bC (o5.1.2 b4 (by omega) (by simp))];exact vS
  obtain⟨h8,oz⟩:∃h8,h8=h7.cm b4 4 [v7]:=⟨_,rfl⟩;have A8:=A7.put Zp (j:=4) (by simp[cM]) v7;rw[al,←oz]at A8;have k8:∀c,c≠b4→h8.t.get c=h7.t.get c:=fun c hc=>by rw[oz,bT _ _ _ _ hc]
  have x8:h8.nx=h7.nx:=by rw[oz,bI]
  repeat' (first|((with_reducible refine gh ?_);(conv =>whnf);(with_reducible refine⟨?_⟩))|((with_reducible refine cV sH ?_ rfl rfl ?_);exact rfl;(conv =>arg 4;whnf);(conv =>arg 3;whnf))|((with_reducible refine fh ?_ rfl rfl ?_ ?_);exact rfl;kernel_rfl;(conv =>arg 5;whnf);(conv =>arg 3;whnf))|((with_reducible refine bE rfl ?_);(conv =>arg 2;whnf))|((with_reducible first|refine iB ?_ ?_|refine g_ ?_ ?_|refine hP ?_ ?_|refine pL ?_ ?_|refine pM ?_ ?_)<;>intro hb<;>(try simp only[hb]))|((with_reducible show dh _ _ _ _ _ _ _ _ _);first|((with_reducible apply gM);exact rfl;exact rfl)|((with_reducible apply gN);exact rfl;exact rfl;exact rfl)|((with_reducible apply gP);exact rfl;exact rfl;kernel_rfl)|((with_reducible apply gQ);exact rfl;exact rfl;exact rfl)|((with_reducible apply gT);exact rfl;exact rfl;exact rfl)|((with_reducible apply gR);exact rfl;exact rfl;kernel_rfl;exact rfl)|((with_reducible apply gS);exact rfl;exact rfl;kernel_rfl;exact rfl)|((with_reducible refine gL ?_ ?_)))|((with_reducible show cU _ _ _ _ _ _ _ _ _);first|((with_reducible refine fj ?_ ?_);exact rfl)|((with_reducible apply fm);exact rfl;exact rfl)|((with_reducible refine fo ?_ ?_ ?_);exact rfl;kernel_rfl)|((with_reducible apply fp);exact rfl;exact rfl)|((with_reducible refine fq ?_ ?_ ?_ ?_ ?_);exact rfl;kernel_rfl;exact rfl)|((with_reducible apply ft);exact rfl;kernel_rfl;exact rfl)|((with_reducible refine fi ?_ ?_)))|((with_reducible show il _ _ _ _ _ _);first|(exact cK)|(refine eB ?_ ?_ ?_;exact rfl)|(apply eC;exact rfl;exact rfl)|(refine eD ?_ ?_ ?_ ?_;exact rfl;kernel_rfl)|(apply eF;exact rfl)|(apply eE;exact rfl;exact rfl))|((with_reducible refine bX ?_);kernel_rfl)|(simp only[B,xB,F,ab,ae,af,ag,ah,ai, ↓reduceIte,eq_self,t4,t11,wG,Om,e4,Zp,←oz,t76,w1]))
  have fz:fy rev L0 (l.take (i+1))=((fy rev L0 (l.take i)).1++[r],R2):=by
   rw[hss];unfold Oo;rw[←hR,←hre,←hR2]
  -- what stays, from the call on
  have kk:∀c,c<h4.nx→c≠b4→bA dE≠some c→h8.t.get c=h4.t.get c:=fun c hc n1 n2=>by rw[k8 c n1,k7 c (by omega) n2,o5.1.2 c hc (by simp)]
  have w3b:∀c,bA w3=some c→bA w=some c∨h2.nx≤c:=odk.nw;have w3l:∀c,bA w3=some c→c<h4.nx:=fun c e=>(od.gr.base e).2;have w3r:∀c,bA w3=some c→bA dE≠some c:=fun c e e2=>by
   rcases w3b c e with q|q
   ·exact hh.nw c e2 q
   ·have:=RC c e2;omega
  have d8:nC h8 bd bm ro base L0 v0 rev comp R2 w3:=by
   have g:∀c,c<base→c≠b4→h8.t.get c=h4.t.get c:=fun c hc n=>kk c (by omega) n (nb c hc);exact⟨by rw[bo (g bd (by omega) (by omega))];exact od.c0,by rw[bo (g bd (by omega) (by omega))];exact od.c1,by rw[bo (g bd (by omega) (by omega))];exact od.c2,by rw[bC (g bd (by omega) (by omega))];exact od.wr,od.md.bU (by omega) (g bm (by have:=od.l1;omega) (by have:=od.md.lt;have:=WA;omega)) (fun c e=>g c (by have:=od.nv c e;omega) (by have:=De c e;omega)),od.mp.get (by omega) (g ro (by omega) (by omega)),od.gr.bG (by omega) (fun c e=>kk c (w3l c e) (by have:=od.gr.base e;omega) (w3r c e)),od.l1,od.l2,od.l3,by omega,od.nv⟩
  refine⟨l.length-(i+1),by omega,i+1,w3,xs++[(r,k,p)],v7,rfl,rfl,by omega,by exact sT,by exact sT,by exact sT,by exact sT,by exact sT,by exact sT,by exact sT,by exact sT,by rw[fz,List.map_append,MF];rfl,?_⟩;rw[fz];refine⟨d8,?_,?_,A8,by rw[oz,bN];exact Zp,?_,fun y hy=>?_,fun c e e2=>?_,⟨⟨by omega,fun c hc _=>?_⟩,by rw[oz,dD,vM,o5.2,odk.g,o2.2,hh.oo.2]⟩,g1,g4,g5,g11,gb⟩
  ·rw[bo (kk b5 (by omega) (by omega) (nb b5 (by omega))),bo (kB b5 (by omega) (by omega) (by omega)),bo (o2.1.2 b5 (by omega) (by simp))];exact hh.k5
  ·exact((hh.f.bG (o2.1.2 dZ (by omega) (by simp))).bG (kB dZ (by omega) (by omega) (by omega))).bG (kk dZ (by omega) (by omega) (nb dZ (by omega)))
  ·rw[an,aB,aC]
   exact g7.bG (by omega) (fun c e=>k8 c (by have:=g7.base e;omega))
  ·rcases List.mem_append.1 hy with q|q
   ·refine(hh.ok y q).move (by omega) (fun c hc nI n1 n2=>⟨?_,fun e=>?_,fun e=>?_⟩)
    ·rw[kk c (by omega) (by omega) n2,kN c (by omega) hc n1,o2.1.2 c nI (by simp)]
    ·rcases w3b c e with q|q
     ·exact n1 q
     ·omega
    ·rw[ud]at e;cases e;omega
   ·rw[aE]at q;subst q
    have kl:∀c,bA k=some c→c<h4.nx:=gz oks;have pl:∀c,bA p=some c→c<h4.nx:=gz ops_;have nr:∀c,h2.nx≤c→bA dE≠some c:=fun c hc e=>by have:=RC c e;omega
    refine⟨oks.move (by omega) (fun c e=>kk c (kl c e) (by have:=okb c e;omega) (nr c (okb c e).1)),ops_.move (by omega) (fun c e=>kk c (pl c e) (by have:=opb c e;omega) (nr c (opb c e).1)),fun c e=>⟨by have:=okb c e;omega,by have:=kl c e;omega,(okb c e).2,fun e2=>?_⟩,fun c e=>⟨by have:=opb c e;omega,by have:=pl c e;omega,(opb c e).2,fun e2=>?_⟩⟩
    ·rw[ud]at e2;cases e2;have:=kl _ e;omega
    ·rw[ud]at e2;cases e2;have:=pl _ e;omega
  ·rw[ud]at e;cases e;have:=w3l _ e2;omega
  ·rw[kk c (by omega) (by omega) (nb c (by omega)),kB c (by omega) (by omega) (by omega),o2.1.2 c (by omega) (by simp)];exact hh.oo.1.2 c hc (by simp)
 ·have di:decide (i<l.length)=false:=decide_eq_false hi
  obtain rfl:i=l.length:=by omega
  rw[aH]at MF hh;refine rN ?_ (V t0<|V t4<|V t5<|V t7<|V t11<|V t74<|V t75<|V t76<|di);exact hK _ _ w xs dE (by exact sT) (by exact sT) (by exact sT) (by exact sT) MF hh
def gY(rev comp:Nat):List Op→Nat
 |[]=>0
 |o::l=>if iG o rev comp=0 then gY rev comp l else iG o rev comp
theorem xt{rev comp:Nat}:∀{l:List Op},(∀(i:Nat) o,l[i]? =some o→iG o rev comp=0)→gY rev comp l=0
 |[],_=>rfl
 |o::l,h=>by
  unfold gY;rw[if_pos (h 0 o rfl)];exact xt fun i x hx=>h (i+1) x (by simpa using hx)
theorem xu{rev comp:Nat}:∀{l:List Op}{i:Nat}{o:Op},l[i]? =some o→(∀j x,j<i→l[j]? =some x→iG x rev comp=0)→iG o rev comp≠0→gY rev comp l=iG o rev comp
 |[],i,o,h,_,_=>by simp at h
 |a::l,0,o,h,_,hn=>by
  simp at h;subst h;unfold gY;rw[if_neg hn]
 |a::l,i+1,o,h,hj,hn=>by
  unfold gY;rw[if_pos (hj 0 a (by omega) rfl)];exact xu (i:=i) (by simpa using h) (fun j x h1 h2=>hj (j+1) x (by omega) (by simpa using h2)) hn
structure TwH(h0 h:H)(bm b4:Nat)(rev comp:Nat):Prop where
 m1:cellAt h bm 1=some (.int .u64 (.ofNat rev))
 m2:cellAt h bm 2=some (.int .u64 (.ofNat comp))
 a:bj h b4 0 (cM 0 0 0 false .bh)
 w4:cj h b4=true
 oo:Og h0 h [b4]
theorem TwH.bU{h0 h h':H}{bm b4 rev comp:Nat}(t:TwH h0 h bm b4 rev comp)(o:Og h h' [])(hb:bm<h.nx)(h4:b4<h.nx):TwH h0 h' bm b4 rev comp:=
 ⟨kc t.m1 o hb (by simp),kc t.m2 o hb (by simp),gC t.a o h4 (by simp),kw t.w4 o h4 (by simp),⟨⟨Nat.le_trans t.oo.1.1 o.1.1,fun c hc hn=>(o.1.2 c (aq hc t.oo.1.1) (by simp)).trans (t.oo.1.2 c hc hn)⟩,o.2.trans t.oo.2⟩⟩
structure TzI(h0:H)(bm b4 b5:Nat)(rev comp:Nat)(tk:Bool)(l:List Op)(va:AV)(m:Nat)(ds:List Nat)(tm:T AV)(h:H)(i:Nat):Prop where
 ds:ds=[]
 nn:m=l.length-i
 ii:i≤l.length
 t0:tm.get 0=some (.ptr bm 0)
 t4:tm.get 4=some (.ptr b4 0)
 t5:tm.get 5=some (.ptr b5 0)
 t7:tm.get 7=some (.bool tk)
 t8:tm.get 8=some va
 t45:tm.get 45=some va
 t46:tm.get 46=some (.int .i64 (.ofNat l.length))
 t47:tm.get 47=some (.int .i64 (.ofNat i))
 no:∀j x,j<i→l[j]? =some x→iG x rev comp=0
 hh:TwH h0 h bm b4 rev comp
theorem RD(h0:H)(bm b4 b5:Nat)(rev comp:Nat)(tk:Bool)(l:List Op)(va:AV)(hh:TwH h0 h0 bm b4 rev comp)(sl:br h0 va l.length (l.flatMap Op.cs))(hz:l.length≤1000000)(hb:bm<h0.nx)(h4:b4<h0.nx)(nb:∀c,bA va=some c→c≠b4)(dH:bm≠b4)
  (tm:T AV)(t0:tm.get 0=some (.ptr bm 0))(t4:tm.get 4=some (.ptr b4 0))(t5:tm.get 5=some (.ptr b5 0))(t7:tm.get 7=some (.bool tk))(t8:tm.get 8=some va)(K:KQ)
  (hR:∀bZ h2,bZ.get 4=some (.ptr b4 0)→Og h0 h2 [b4]→bj h2 b4 0 (cM (gY rev comp l) 0 0 false .bh)→gY rev comp l≠0→K .ret [] bZ h2)
  (hN:∀bZ h2,bZ.get 0=some (.ptr bm 0)→bZ.get 4=some (.ptr b4 0)→bZ.get 5=some (.ptr b5 0)→bZ.get 7=some (.bool tk)→bZ.get 8=some va→TwH h0 h2 bm b4 rev comp→gY rev comp l=0→K .norm [] bZ h2):
  bB P 24 121 none (bL (bD Tryz.f24) [0,1,1,1,1,1,1,1,1]) [] tm h0 K:=by
 have hlen:=sl.len (P:=P) vK;have vo:=cH sl;refine rN ?_ (V t0<|V t4<|V t5<|V t7<|V t8<|V hlen<|vo);refine cn (fun m ds tm h=>∃i,TzI h0 bm b4 b5 rev comp tk l va m ds tm h i) l.length rfl ⟨0,rfl,rfl,aG _,by exact sT,by exact sT,by exact sT,by exact sT,by exact sT,by exact sT,by exact sT,by exact sT,fun j x hj=>absurd hj (by omega),hh⟩ (fun m ds tm h hI=>?_);clear t0 t4 t5 t7 t8 hh;obtain⟨i,rfl,rfl,ii,t0,t4,t5,t7,t8,t45,t46,t47,no,hh⟩:=hI;by_cases hi:i<l.length
 ·have di:decide (i<l.length)=true:=decide_eq_true hi
  have dX:(i<l.length)=True:=by simp[hi]
  obtain⟨x,hx⟩:∃x,l[i]? =some x:=⟨_,aw hi⟩;have g0:=hh.oo.1.1;have jk:=br.only hh.oo.1 sl (fun c e=>by simp;exact nb c e);obtain⟨bv,ov,cv,rfl,qw,-⟩:=jk.place (by omega);obtain⟨q0,q1,q2,q3,q4,q5,q6,q7,q8⟩:=Op.at jk hx;obtain⟨h2,cJ,o2,x2,y0,y1,y2,y3,y4,y5,y6,y7,y8⟩:=EH h x;have w1:bV .i64 (ak i+ak 1)=ak (i+1):=cq (by omega);have H2:=hh.bU o2 (by omega) (by omega);have m1:=H2.m1;have m2:=H2.m2;refine rT ?_ (V t0<|V t4<|V t5<|V t7<|V t8<|V t45<|V t46<|V t47<|V di<|V dX<|V q0<|V q1<|V q2<|V q3<|V q4<|V q5<|V q6<|V q7<|V q8<|V cJ<|V y0<|V y1<|V y2<|V y3<|V y4<|V y5<|V y6<|V y7<|V y8<|V m1<|m2);refine((Ws h2 x rev comp).call P).mono P ?_;rintro _ h3 ⟨rfl,o3⟩;have x3:=o3.1.1;have H3:=H2.bU o3 (by omega) (by omega);have M1:=H3.m1;have M2:=H3.m2;have qy:=H3.w4;obtain⟨a0,a1,a2,a3,a4,a5,a6,a7,a8⟩:=H3.a.u9;have Y3:=gC (show bj h2 h.nx 0 x.cs from .m9 y0 y1 y2 y3 y4 y5 y6 y7 y8) o3 (by omega) (by simp);obtain⟨z0,z1,z2,z3,z4,z5,z6,z7,z8⟩:=Y3.u9;obtain⟨e,he⟩:∃e,e=iG x rev comp:=⟨_,rfl⟩;obtain⟨Zs,dm⟩:∃Zs,Zs=h3.cm b4 0 [.int .i64 (.ofNat e)]:=⟨_,rfl⟩;have A4:=H3.a.put qy (j:=0) (by simp[cM]) (.int .i64 (.ofNat e));rw[al,←dm]at A4;have A4':bj Zs b4 0 (cM e 0 0 false .bh):=A4;obtain⟨b0,b1,b2,b3,RE,UA,b6,b7,b8⟩:=A4'.u9;have vS:cj Zs b4=true:=by rw[dm,bN];exact qy
  have o4:Og h0 Zs [b4]:=by rw[dm];exact H3.oo.cm (.inl (by simp))
  have k4:∀c,c≠b4→Zs.t.get c=h3.t.get c:=fun c hc=>by rw[dm,bT _ _ _ _ hc]
  rw[←he];by_cases qe:e=0
  ·have de:decide (e=0)=true:=decide_eq_true qe
   refine rT ?_ (V t0<|V t4<|V M1<|V M2<|V z0<|V z1<|V z2<|V z3<|V z4<|V z5<|V z6<|V z7<|V z8<|V a0<|V qy<|V dm.symm<|V b0<|V de<|V @aO<|V t47<|w1);refine⟨l.length-(i+1),by omega,i+1,rfl,rfl,by omega,by exact sT,by exact sT,by exact sT,by exact sT,by exact sT,by exact sT,by exact sT,by exact sT,fun j y hj hy=>?_,⟨by rw[bo (k4 bm dH)];exact M1,by rw[bo (k4 bm dH)];exact M2,by rw[qe]at A4';exact A4',vS,o4⟩⟩;by_cases ej:j<i
   ·exact no j y ej hy
   ·obtain rfl:j=i:=by omega
    rw[hx]at hy;cases hy;rw[←he];exact qe
  ·have de:decide (e=0)=false:=decide_eq_false qe
   have ef:gY rev comp l=e:=by rw[he];exact xu hx no (by rw[←he];exact qe)
   obtain⟨h5,eL⟩:∃h5,h5=Zs.cm b4 0 (cM e 0 0 false .bh):=⟨_,rfl⟩;have A5:bj h5 b4 0 (cM e 0 0 false .bh):=by rw[eL];exact bj.cm vS _
   have o5:Og h0 h5 [b4]:=by rw[eL];exact o4.cm (.inl (by simp))
   unfold cM at eL;refine rT ?_ (V t0<|V t4<|V M1<|V M2<|V z0<|V z1<|V z2<|V z3<|V z4<|V z5<|V z6<|V z7<|V z8<|V a0<|V qy<|V dm.symm<|V b0<|V b1<|V b2<|V b3<|V RE<|V UA<|V b6<|V b7<|V b8<|V de<|V @aM<|V vS<|eL.symm);exact hR _ _ (by exact sT) o5 (by rw[ef];exact A5) (by rw[ef];exact qe)
 ·have di:decide (i<l.length)=false:=decide_eq_false hi
  obtain rfl:i=l.length:=by omega
  refine rN ?_ (V t0<|V t4<|V t5<|V t7<|V t8<|V t45<|V t46<|V t47<|di);exact hN _ _ (by exact sT) (by exact sT) (by exact sT) (by exact sT) (by exact sT) hh (xt fun j x hj=>no j x (List.getElem?_eq_some_iff.1 hj).1 hj)
theorem i45:lf P 91 8=true:=by kernel_rfl
def Zt(v u:AV)(n:Nat):Prop:=(n=0∧v= .bh∧u= .bh)∨(∃b,v= .slice b 0 n (.iK 0)∧u= .slice b 0 n (.exact n))
theorem UB{h:H}{b0 base n m:Nat}{v0 u w:AV}{cs0 csw:List AV}(cl:Zt v0 u n)(gv:bK 8 b0 h v0 n cs0)(gw:bK 8 base h w m csw)(hm:0<m)(hz:n+m≤1000000){K:AV→H→Prop}
  (hk:∀v1 h2,bK 8 h.nx h2 v1 (n+m) (cs0++csw)→Og h h2 []→K v1 h2):jf P (bQ P .append [60,60] [u,w] h) K:=by
 rcases cl with⟨rfl,rfl,rfl⟩|⟨b,rfl,rfl⟩
 ·cases gv with
  |none=>
   rw[al,aD]at hk;refine FZ (base:=h.nx) (n0:=0) (cs0:=[]) (by omega) jl i45 bK.none gw (aA _) (by omega) (fun v7 h7 g7 x7 gV ud vM=>?_);rw[al,aD]at g7;exact hk v7 h7 g7 ⟨⟨x7,fun c hc _=>gV c hc (by simp[bA])⟩,vM⟩
 ·cases gv with
  | cell b n cs t ty h1 h2 h3 h4 h5=>
   cases gw with
   |none=>omega
   | cell bw m csw tw tyw w1 w2 w3 w4 w5=>
    have hr:=(oT (base:=b0) h2 h4 h5);have hrw:=(oT (base:=base) w2 w4 w5);have r2:=hrw.row (o:=0) (n:=m*8) (by omega) (by omega);rw[aN,aK (by omega)]at r2;rw[fG jl jl (fun k h=>by cases h) i45,r2];have hrow0:h.row b 0 (n*8)=some cs0:=by
     rcases Nat.eq_zero_or_pos n with q|q
     ·subst q
      rw[Nat.zero_mul,rD hr 0];have :cs0=[]:=List.length_eq_zero_iff.1 (by omega);rw[this]
     ·have r1:=hr.row (o:=0) (n:=n*8) (by omega) (by omega)
      rwa[aN,aK (by omega)]at r1
    refine Ob (by omega) w3 (by omega) hrow0 (hk _ _ ?_ ⟨t_,rfl⟩);have zo:(cs0++csw).length=(n+m)*8:=by rw[an,h3,w3,Nat.add_mul]
    refine .cell h.nx (n+m) _ (T.ofRow (cs0++csw)) 92 (aA _) (by rw[sE];omega) zo ?_ (T.eG _);rw[←zo];exact iS _ _ _ _
structure rU(h0 h':H)(bm:Nat)(L0:List Rec)(rev comp:Nat)(err:Nat)(tk:Bool)(rs:List nz)(R:List Rec)(v:AV)(xs:List RV)(dE v1 v0:AV):Prop where
 v:v= .agg (cM err 0 0 tk dE)
 hx:xs.map (·.1)=rs
 gr:br h' dE xs.length (xs.flatMap Ga)
 ok:∀x,x∈xs→br h' x.2.1 x.1.rM.length (x.1.rM.flatMap KV.cs)∧br h' x.2.2 x.1.prev.length (x.1.prev.flatMap KV.cs)
 md:l_ h' bm (L0++R) (if R=[]then rev else rev+1) comp v1
 gv:bK 8 0 h' v1 (L0++R).length ((L0++R).flatMap Rec.cs)
 oo:Og h0 h' [bm]
 nv:∀c,bA v1=some c→c≠bm
 rb:∀c,bA dE=some c→h0.nx≤c
 xb:∀x,x∈xs→(∀c,bA x.2.1=some c→h0.nx≤c)∧(∀c,bA x.2.2=some c→h0.nx≤c)
 vb:∀c,bA v1=some c→bA v0=some c∨h0.nx≤c
structure iV(h:H)(dE:AV)(xs:List RV):Prop where
 gr:br h dE xs.length (xs.flatMap Ga)
 ok:∀x,x∈xs→br h x.2.1 x.1.rM.length (x.1.rM.flatMap KV.cs)∧br h x.2.2 x.1.prev.length (x.1.prev.flatMap KV.cs)
theorem iV.move{h h':H}{dE:AV}{xs:List RV}{lo:Nat}(k:iV h dE xs)(hx:h.nx≤h'.nx)(e:∀c,lo≤c→c<h.nx→h'.t.get c=h.t.get c)(b1:∀c,bA dE=some c→lo≤c)(b2:∀x,x∈xs→(∀c,bA x.2.1=some c→lo≤c)∧(∀c,bA x.2.2=some c→lo≤c)):iV h' dE xs:=
 ⟨k.gr.move hx (fun c q=>e c (b1 c q) (gz k.gr c q)),fun x Gb=>⟨(k.ok x Gb).1.move hx (fun c q=>e c ((b2 x Gb).1 c q) (gz (k.ok x Gb).1 c q)),(k.ok x Gb).2.move hx (fun c q=>e c ((b2 x Gb).2 c q) (gz (k.ok x Gb).2 c q))⟩⟩
theorem Zu(h0 h:H)(bd bm ro base b4 b5 dZ:Nat)(L0:List Rec)(v0:AV)(rev comp:Nat)(tk:Bool)(R:List Rec)(w:AV)(xs:List RV)(dE:AV)(hh:Zr h0 h bd bm ro base b4 b5 dZ L0 v0 rev comp R w xs dE)(gv0:bK 8 0 h0 v0 L0.length (L0.flatMap Rec.cs))(WA:bm<h0.nx)(dH:∀c,bA v0=some c→c≠bm)(hr:rev≤1000000)(hz:L0.length+R.length≤1000000)
  (tm:T AV)(t0:tm.get 0=some (.ptr bm 0))(t4:tm.get 4=some (.ptr b4 0))(t5:tm.get 5=some (.ptr b5 0))(t7:tm.get 7=some (.bool tk))(Q:AV→H→Prop)
  (hQ:∀v h' v1,rU h0 h' bm L0 rev comp 0 tk (xs.map (·.1)) R v xs dE v1 v0→Q v h'):
  bB P 24 121 none (bL (bD Tryz.f24) [1,1,1,1,1,1,1,1,1,1,1]) [] tm h (nc P Tryz.f24 Q):=by
 have g0:=hh.oo.1.1;have g1:=hh.l0;have g4:=hh.l4;have g5:=hh.l5;have g11:=hh.JB;have gb:=hh.lb;have gd2:=hh.d.l2;have gd3:=hh.d.l3;have gd4:=hh.d.l4;have Dc:∀c,bA w=some c→base≤c∧c<h.nx:=fun c e=>hh.d.gr.base e;obtain⟨a0,a1,a2,a3,a4,a5,a6,a7,a8⟩:=hh.a.u9;have w4:=hh.w4;have nR:=hh.gr.one;have wo:=hh.d.gr.one;have hlen:=hh.d.gr.slice.len (P:=P) jl;obtain⟨h1,cC⟩:∃h1,h1=h.cm b4 3 [.bool tk]:=⟨_,rfl⟩;have A1:bj h1 b4 0 (cM 0 0 0 tk dE):=by
  have:=hh.a.put w4 (j:=3) (by simp[cM]) (.bool tk);rw[al,←cC]at this;exact this
 have S8:cj h1 b4=true:=by rw[cC,bN];exact w4
 have o1:Og h h1 [b4]:=by rw[cC];exact(Og.refl _ _).cm (.inl (by simp))
 have oo1:Og h0 h1 []:=by rw[cC];exact hh.oo.cm (.inr g1)
 have x1:h1.nx=h.nx:=by rw[cC,bI]
 have k1:∀c,c≠b4→h1.t.get c=h.t.get c:=fun c hc=>by rw[cC,bT _ _ _ _ hc]
 have k5:cellAt h1 b5 0=some (.ptr bd 0):=by rw[bo (k1 b5 (by omega))];exact hh.k5
 have d2:cellAt h1 bd 2=some w:=by rw[bo (k1 bd (by omega))];exact hh.d.c2
 obtain⟨b0,b1,b2,b3,RE,UA,b6,b7,b8⟩:=A1.u9;have WM:iV h dE xs:=⟨hh.gr.slice,fun x hx=>⟨(hh.ok x hx).ks,(hh.ok x hx).ps⟩⟩;have Zv:∀c,bA dE=some c→base≤c:=fun c e=>(hh.gr.base e).1;have RF:∀x,x∈xs→(∀c,bA x.2.1=some c→base≤c)∧(∀c,bA x.2.2=some c→base≤c):=fun x hx=>⟨fun c e=>((hh.ok x hx).kb c e).1,fun c e=>((hh.ok x hx).pb c e).1⟩;have KT:l_ h1 bm L0 rev comp v0:=hh.d.md.bU (by omega) (k1 bm (by omega)) (fun c e=>k1 c (by have:=hh.d.nv c e;have:=(gv0.base e).2;omega));have gv1:bK 8 0 h1 v0 L0.length (L0.flatMap Rec.cs):=gv0.bG oo1.1.1 (fun c e=>oo1.1.2 c (gv0.base e).2 (by simp));cases hR:R with
 | nil=>
  subst hR;have d1:decide (0<([]:List Rec).length)=false:=rfl;obtain⟨h2,cJ⟩:∃h2,h2=h1.cm b4 0 (cM 0 0 0 tk dE):=⟨_,rfl⟩;have A2:bj h2 b4 0 (cM 0 0 0 tk dE):=by rw[cJ];exact bj.cm S8 _
  obtain⟨e0,e1,e2,e3,e4,e5,e6,e7,e8⟩:=A2.u9;have k2:∀c,c≠b4→h2.t.get c=h1.t.get c:=fun c hc=>by rw[cJ,bT _ _ _ _ hc]
  have x2:h2.nx=h1.nx:=by rw[cJ,bI]
  have oo2:Og h0 h2 []:=by rw[cJ];exact oo1.cm (.inr g1)
  unfold cM at cJ;refine rN ?_ (V t0<|V t4<|V t5<|V t7<|V a3<|V w4<|V cC.symm<|V k5<|V d2<|V wo<|V hlen<|V d1<|V b0<|V b1<|V b2<|V b3<|V RE<|V UA<|V b6<|V b7<|V b8<|V S8<|V nR<|V cJ.symm<|V e0<|V e1<|V e2<|V e3<|V e4<|V e5<|V e6<|V e7<|e8);have rok2:=WM.move (h':=h2) (lo:=base) (by omega) (fun c hc nI=>by rw[k2 c (by omega),k1 c (by omega)]) Zv RF;refine hQ _ _ v0 ⟨rfl,rfl,rok2.gr,rok2.ok,?_,?_,⟨⟨by omega,fun c hc _=>oo2.1.2 c hc (by simp)⟩,oo2.2⟩,dH,fun c e=>by have:=Zv c e;omega,fun x hx=>⟨fun c e=>by have:=(RF x hx).1 c e;omega,fun c e=>by have:=(RF x hx).2 c e;omega⟩,fun c e=>.inl e⟩
  ·rw[ao,if_pos rfl]
   exact KT.bU (by omega) (k2 bm (by omega)) (fun c e=>k2 c (by have:=(gv0.base e).2;omega))
  ·rw[ao]
   exact gv1.bG (by omega) (fun c e=>k2 c (by have:=(gv0.base e).2;omega))
 | cons r0 R0=>
  have hRl:0<R.length:=by rw[hR];simp
  have hRn:R≠[]:=by rw[hR];simp
  have d1:decide (0<R.length)=true:=decide_eq_true hRl;have m0:=KT.c0;have vo:=gv1.one;repeat' (first|((with_reducible refine gh ?_);(conv =>whnf);(with_reducible refine⟨?_⟩))|((with_reducible refine cV sH ?_ rfl rfl ?_);exact rfl;(conv =>arg 4;whnf);(conv =>arg 3;whnf))|((with_reducible refine fh ?_ rfl rfl ?_ ?_);exact rfl;kernel_rfl;(conv =>arg 5;whnf);(conv =>arg 3;whnf))|((with_reducible refine bE rfl ?_);(conv =>arg 2;whnf))|((with_reducible first|refine iB ?_ ?_|refine g_ ?_ ?_|refine hP ?_ ?_|refine pL ?_ ?_|refine pM ?_ ?_)<;>intro hb<;>(try simp only[hb]))|((with_reducible show dh _ _ _ _ _ _ _ _ _);first|((with_reducible apply gM);exact rfl;exact rfl)|((with_reducible apply gN);exact rfl;exact rfl;exact rfl)|((with_reducible apply gP);exact rfl;exact rfl;kernel_rfl)|((with_reducible apply gQ);exact rfl;exact rfl;exact rfl)|((with_reducible apply gT);exact rfl;exact rfl;exact rfl)|((with_reducible apply gR);exact rfl;exact rfl;kernel_rfl;exact rfl)|((with_reducible apply gS);exact rfl;exact rfl;kernel_rfl;exact rfl)|((with_reducible refine gL ?_ ?_)))|((with_reducible show cU _ _ _ _ _ _ _ _ _);first|((with_reducible refine fj ?_ ?_);exact rfl)|((with_reducible apply fm);exact rfl;exact rfl)|((with_reducible refine fo ?_ ?_ ?_);exact rfl;kernel_rfl)|((with_reducible apply fp);exact rfl;exact rfl)|((with_reducible refine fq ?_ ?_ ?_ ?_ ?_);exact rfl;kernel_rfl;exact rfl)|((with_reducible apply ft);exact rfl;kernel_rfl;exact rfl)|((with_reducible refine fi ?_ ?_)))|((with_reducible show il _ _ _ _ _ _);first|(exact cK)|(refine eB ?_ ?_ ?_;exact rfl)|(apply eC;exact rfl;exact rfl)|(refine eD ?_ ?_ ?_ ?_;exact rfl;kernel_rfl)|(apply eF;exact rfl)|(apply eE;exact rfl;exact rfl))|((with_reducible refine bX ?_);kernel_rfl)|(simp only[B,xB,F,ab,ae,af,ag,ah,ai, ↓reduceIte,eq_self,t0,t4,t5,t7,a3,w4,←cC,k5,d2,wo,hlen,d1,m0,vo]))
  refine((clipC h1 0 v0 _ _ gv1).call P).mono P ?_;rintro u Ls ⟨he1,cl⟩;rw[he1];have uo:u.one=true:=by rcases cl with⟨-,-,rfl⟩|⟨b,-,rfl⟩<;>rfl
  have gw1:bK 8 base h1 w _ _:=hh.d.gr.bG (by omega) (fun c e=>k1 c (by have:=Dc c e;omega));repeat' (first|((with_reducible refine gh ?_);(conv =>whnf);(with_reducible refine⟨?_⟩))|((with_reducible refine cV sH ?_ rfl rfl ?_);exact rfl;(conv =>arg 4;whnf);(conv =>arg 3;whnf))|((with_reducible refine fh ?_ rfl rfl ?_ ?_);exact rfl;kernel_rfl;(conv =>arg 5;whnf);(conv =>arg 3;whnf))|((with_reducible refine bE rfl ?_);(conv =>arg 2;whnf))|((with_reducible first|refine iB ?_ ?_|refine g_ ?_ ?_|refine hP ?_ ?_|refine pL ?_ ?_|refine pM ?_ ?_)<;>intro hb<;>(try simp only[hb]))|((with_reducible show dh _ _ _ _ _ _ _ _ _);first|((with_reducible apply gM);exact rfl;exact rfl)|((with_reducible apply gN);exact rfl;exact rfl;exact rfl)|((with_reducible apply gP);exact rfl;exact rfl;kernel_rfl)|((with_reducible apply gQ);exact rfl;exact rfl;exact rfl)|((with_reducible apply gT);exact rfl;exact rfl;exact rfl)|((with_reducible apply gR);exact rfl;exact rfl;kernel_rfl;exact rfl)|((with_reducible apply gS);exact rfl;exact rfl;kernel_rfl;exact rfl)|((with_reducible refine gL ?_ ?_)))|((with_reducible show cU _ _ _ _ _ _ _ _ _);first|((with_reducible refine fj ?_ ?_);exact rfl)|((with_reducible apply fm);exact rfl;exact rfl)|((with_reducible refine fo ?_ ?_ ?_);exact rfl;kernel_rfl)|((with_reducible apply fp);exact rfl;exact rfl)|((with_reducible refine fq ?_ ?_ ?_ ?_ ?_);exact rfl;kernel_rfl;exact rfl)|((with_reducible apply ft);exact rfl;kernel_rfl;exact rfl)|((with_reducible refine fi ?_ ?_)))|((with_reducible show il _ _ _ _ _ _);first|(exact cK)|(refine eB ?_ ?_ ?_;exact rfl)|(apply eC;exact rfl;exact rfl)|(refine eD ?_ ?_ ?_ ?_;exact rfl;kernel_rfl)|(apply eF;exact rfl)|(apply eE;exact rfl;exact rfl))|((with_reducible refine bX ?_);kernel_rfl)|(simp only[B,xB,F,ab,ae,af,ag,ah,ai, ↓reduceIte,eq_self,t0,t4,t5,k5,d2,wo,uo,m0,vo]))
  refine UB cl gv1 gw1 hRl hz (fun v1 h2 g2 o2=>?_);have x2:=o2.1.1;have WN:=g2.one;have v1c:=g2.cells;have wm:=KT.wr;have m0':=kc m0 o2 KT.lt (by simp);have wm':=kw wm o2 KT.lt (by simp);have m1':=kc KT.c1 o2 KT.lt (by simp);have m2':=kc KT.c2 o2 KT.lt (by simp);have k5':=kc k5 o2 (by omega) (by simp);have d2':=kc d2 o2 (by omega) (by simp);have M:bj h2 bm 0 [v0,.int .u64 (.ofNat rev),.int .u64 (.ofNat comp)]:=.m3 m0' m1' m2';obtain⟨h3,cB⟩:∃h3,h3=h2.cm bm 0 [v1]:=⟨_,rfl⟩;have M3:=M.put wm' (j:=0) (by simp) v1;rw[al,←cB]at M3;have wm3:cj h3 bm=true:=by rw[cB,bN];exact wm'
  obtain⟨p0,p1,p2⟩:=bj.u3 (show bj h3 bm 0 [v1,.int .u64 (.ofNat rev),.int .u64 (.ofNat comp)]from M3);obtain⟨h4,dm⟩:∃h4,h4=h3.cm bm 1 [.int .u64 (.ofNat (rev+1))]:=⟨_,rfl⟩;have M4:=M3.put wm3 (j:=1) (by simp) (.int .u64 (.ofNat (rev+1)));rw[al,←dm]at M4;obtain⟨r0',r1',r2'⟩:=bj.u3 (show bj h4 bm 0 [v1,.int .u64 (.ofNat (rev+1)),.int .u64 (.ofNat comp)]from M4);have wm4:cj h4 bm=true:=by rw[dm,bN];exact wm3
  have IL:bV .u64 (ak rev+ak 1)=ak (rev+1):=sC (by omega);have k4:∀c,c≠bm→h4.t.get c=h2.t.get c:=fun c hc=>by rw[dm,bT _ _ _ _ hc,cB,bT _ _ _ _ hc]
  have x4:h4.nx=h2.nx:=by rw[dm,bI,cB,bI]
  have A4:bj h4 b4 0 (cM 0 0 0 tk dE):=(gC A1 o2 (by omega) (by simp)).bG (k4 b4 (by omega));have vS:cj h4 b4=true:=by rw[bC (k4 b4 (by omega))];exact kw S8 o2 (by omega) (by simp)
  obtain⟨e0,e1,e2,e3,e4,e5,e6,e7,e8⟩:=A4.u9;obtain⟨h5,eL⟩:∃h5,h5=h4.cm b4 0 (cM 0 0 0 tk dE):=⟨_,rfl⟩;have A5:bj h5 b4 0 (cM 0 0 0 tk dE):=by rw[eL];exact bj.cm vS _
  obtain⟨s0,s1,s2,s3,s4,s5,s6,s7,s8⟩:=A5.u9;have UC:∀c,c≠b4→h5.t.get c=h4.t.get c:=fun c hc=>by rw[eL,bT _ _ _ _ hc]
  have x5:h5.nx=h4.nx:=by rw[eL,bI]
  unfold cM at eL;repeat' (first|((with_reducible refine gh ?_);(conv =>whnf);(with_reducible refine⟨?_⟩))|((with_reducible refine cV sH ?_ rfl rfl ?_);exact rfl;(conv =>arg 4;whnf);(conv =>arg 3;whnf))|((with_reducible refine fh ?_ rfl rfl ?_ ?_);exact rfl;kernel_rfl;(conv =>arg 5;whnf);(conv =>arg 3;whnf))|((with_reducible refine bE rfl ?_);(conv =>arg 2;whnf))|((with_reducible first|refine iB ?_ ?_|refine g_ ?_ ?_|refine hP ?_ ?_|refine pL ?_ ?_|refine pM ?_ ?_)<;>intro hb<;>(try simp only[hb]))|((with_reducible show dh _ _ _ _ _ _ _ _ _);first|((with_reducible apply gM);exact rfl;exact rfl)|((with_reducible apply gN);exact rfl;exact rfl;exact rfl)|((with_reducible apply gP);exact rfl;exact rfl;kernel_rfl)|((with_reducible apply gQ);exact rfl;exact rfl;exact rfl)|((with_reducible apply gT);exact rfl;exact rfl;exact rfl)|((with_reducible apply gR);exact rfl;exact rfl;kernel_rfl;exact rfl)|((with_reducible apply gS);exact rfl;exact rfl;kernel_rfl;exact rfl)|((with_reducible refine gL ?_ ?_)))|((with_reducible show cU _ _ _ _ _ _ _ _ _);first|((with_reducible refine fj ?_ ?_);exact rfl)|((with_reducible apply fm);exact rfl;exact rfl)|((with_reducible refine fo ?_ ?_ ?_);exact rfl;kernel_rfl)|((with_reducible apply fp);exact rfl;exact rfl)|((with_reducible refine fq ?_ ?_ ?_ ?_ ?_);exact rfl;kernel_rfl;exact rfl)|((with_reducible apply ft);exact rfl;kernel_rfl;exact rfl)|((with_reducible refine fi ?_ ?_)))|((with_reducible show il _ _ _ _ _ _);first|(exact cK)|(refine eB ?_ ?_ ?_;exact rfl)|(apply eC;exact rfl;exact rfl)|(refine eD ?_ ?_ ?_ ?_;exact rfl;kernel_rfl)|(apply eF;exact rfl)|(apply eE;exact rfl;exact rfl))|((with_reducible refine bX ?_);kernel_rfl)|(simp only[B,xB,F,ab,ae,af,ag,ah,ai, ↓reduceIte,eq_self,t0,t4,t5,k5,k5',d2',wo,uo,vo,WN,v1c,m0',wm',←cB,p0,p1,p2,wm3,IL,←dm,e0,e1,e2,e3,e4,e5,e6,e7,e8,vS,nR,←eL,s0,s1,s2,s3,s4,s5,s6,s7,s8]))
  have kk:∀c,c<h.nx→c≠b4→c≠bm→h5.t.get c=h.t.get c:=fun c hc n1 n2=>by rw[UC c n1,k4 c n2,o2.1.2 c (by omega) (by simp),k1 c n1]
  have rok5:=WM.move (h':=h5) (lo:=base) (by omega) (fun c hc nI=>kk c nI (by omega) (by omega)) Zv RF;have M5:bj h5 bm 0 [v1,.int .u64 (.ofNat (rev+1)),.int .u64 (.ofNat comp)]:=(bj.m3 r0' r1' r2').bG (UC bm (by omega));obtain⟨y0,y1,y2⟩:=M5.u3;have g5':bK 8 0 h5 v1 (L0++R).length ((L0++R).flatMap Rec.cs):=by
   rw[an,aB];exact(g2.bG (by omega) (fun c e=>by have:=(g2.base e).1;rw[UC c (by omega),k4 c (by omega)])).wk (aG _)
  refine hQ _ _ v1 ⟨rfl,rfl,rok5.gr,rok5.ok,?_,g5',⟨⟨by omega,fun c hc hn=>?_⟩,?_⟩,fun c e=>by have:=(g2.base e).1;omega,fun c e=>by have:=Zv c e;omega,fun x hx=>⟨fun c e=>by have:=(RF x hx).1 c e;omega,fun c e=>by have:=(RF x hx).2 c e;omega⟩,fun c e=>.inr (by have:=(g2.base e).1;omega)⟩
  ·rw[if_neg hRn]
   exact⟨by omega,y0,y1,y2,by rw[bC (UC bm (by omega))];exact wm4,g5'.slice⟩
  ·rw[kk c (by omega) (by omega) (by simpa using hn)];exact hh.oo.1.2 c hc (by simp)
  ·rw[eL,dD,dm,dD,cB,dD,o2.2,o1.2,hh.oo.2]
def twB(l:List Op):Bool:=l.any fun o=>(iH l).any (xm o)
theorem MG(l:List Op):twB l=true↔TwP l:=by
 unfold twB TwP;rw[List.any_eq_true];constructor
 ·rintro⟨o,ho,h⟩
  obtain⟨p,hp,hb⟩:=List.any_eq_true.1 h;exact⟨o,ho,p,hp,hb⟩
 ·rintro⟨o,ho,p,hp,hb⟩
  exact⟨o,ho,List.any_eq_true.2 ⟨p,hp,hb⟩⟩
structure Tx where
 err:Nat
 tk:Bool
 rs:List nz
 R:List Rec
def jP(r:Rq)(tk:Bool):List Op:=if tk then r.th else r.el
def UD(rev:Nat)(L0:List Rec)(r:Rq):Bool:= !r.eO.any (jm (dg rev L0))
def e_(rev comp:Nat)(L0:List Rec)(r:Rq):Tx:=
 if cW r=0 then
  if twB (jP r (UD rev L0 r))then⟨12,false,[],[]⟩
  else if gY rev comp (jP r (UD rev L0 r))=0 then⟨0,UD rev L0 r,(fy rev L0 (jP r (UD rev L0 r))).1,(fy rev L0 (jP r (UD rev L0 r))).2⟩
  else⟨gY rev comp (jP r (UD rev L0 r)),false,[],[]⟩
 else⟨cW r,false,[],[]⟩
theorem EL{o:Op}(h:qv o=true):∃kd:Nat,o.kind=ak kd∧kd<3:=by
 unfold qv Mq at h;by_cases q0:o.kind== .ofNat 0
 ·exact⟨0,by simpa using q0,by omega⟩
 ·by_cases q1:o.kind== .ofNat 1
  ·exact⟨1,by simpa using q1,by omega⟩
  ·by_cases q2:o.kind== .ofNat 2
   ·exact⟨2,by simpa using q2,by omega⟩
   ·rw[if_neg q0,if_neg q1,if_neg q2]at h
    simp at h
theorem rV{r:Rq}(h:cW r=0)(tk:Bool):∀op,op∈jP r tk→∃kd:Nat,op.kind=ak kd∧kd<3:=by
 unfold cW at h;split at h
 ·rename_i q
  intro op ho;unfold jP at ho;split at ho
  ·exact EL (List.all_eq_true.1 q.2.2.2.2.1 op ho)
  ·exact EL (List.all_eq_true.1 q.2.2.2.2.2 op ho)
 ·cases h
theorem MH{m n:Nat}:∀(L:List Rec)(W:View),(∀x,x∈L→x.main≤m∧x.main≤n)→L.foldl (fun W r=>if r.main≤m then fw W r else W) W=L.foldl (fun W r=>if r.main≤n then fw W r else W) W
 |[],_,_=>rfl
 |r::L,W,h=>by
  have:=h r (by simp);rw[az,az,if_pos this.1,if_pos this.2];exact MH L _ fun x hx=>h x (by simp[hx])
theorem KU{rev:Nat}{L:List Rec}(h:∀x,x∈L→x.main≤rev):dg rev L=dg (rev+1) L:=MH L [] fun x hx=>⟨h x hx,by have:=h x hx;omega⟩
theorem EM(h:H)(r:Rq)(vc vt ve:AV)(oc:vc.one=true)(ot:vt.one=true)(oe:ve.one=true):n_ h 38 (r.cs vc vt ve)= .val (.ptr h.nx 0) (h.bq 38 (r.cs vc vt ve)):=jb (by unfold Rq.cs;simp only[iT,la,oc,ot,oe,vi,rm,Bool.and_self,Bool.true_and])
theorem Cc(h:H):∃h1,h.bq 33 [.int .i64 (.ofNat 0),.int .u64 (.ofNat 0),.int .u64 (.ofNat 0),.bool false,.bh,.int .u32 (.ofNat 0),.int .u64 (.ofNat 0),.int .u64 (.ofNat 0),.int .i64 (.ofNat 0)]=h1∧Og h h1 []∧h1.nx=h.nx+1∧cj h1 h.nx=true∧bj h1 h.nx 0 (cM 0 0 0 false .bh):=
 ⟨_,rfl,(Og.refl _ _).new _ _,rfl,lu _ _ _,bj.new _ _ _⟩
theorem rU.bad{h0 h':H}{bm rev comp b4 err:Nat}{L0:List Rec}{v0:AV}(md:l_ h0 bm L0 rev comp v0)(gv:bK 8 0 h0 v0 L0.length (L0.flatMap Rec.cs))(dH:∀c,bA v0=some c→c≠bm)(o:Og h0 h' []):
  rU h0 h' bm L0 rev comp err false [] [] (.agg (cM err 0 0 false .bh)) [] .bh v0 v0:=by
 have k:∀c,c<h0.nx→h'.t.get c=h0.t.get c:=fun c hc=>o.1.2 c hc (by simp);exact⟨rfl,rfl,.none,fun x hx=>(by cases hx),by rw[ao,if_pos rfl];exact md.bU o.1.1 (k bm md.lt) (fun c e=>k c (gv.base e).2),by rw[ao];exact gv.bG o.1.1 (fun c e=>k c (gv.base e).2),⟨⟨o.1.1,fun c hc _=>k c hc⟩,o.2⟩,dH,fun c e=>(by cases e),fun x hx=>(by cases hx),fun c e=>.inl e⟩
theorem txnC (h0:H)(bm:Nat)(L0:List Rec)(rev comp:Nat)(v0:AV)(md:l_ h0 bm L0 rev comp v0)(gv:bK 8 0 h0 v0 L0.length (L0.flatMap Rec.cs))(dH:∀c,bA v0=some c→c≠bm)(r:Rq)(vc vt ve:AV)(ra:ua h0 r vc vt ve)
    (hm:∀x,x∈L0→x.main≤rev)(hr:rev≤1000000)(hs:dI L0)(JC:L0.length≤200000)
    (hB:∀tk i,i≤(jP r tk).length→dI (fy rev L0 ((jP r tk).take i)).2∧(fy rev L0 ((jP r tk).take i)).2.length≤200000):
    bW P (.enter 24 [.ptr bm 0,.agg (r.cs vc vt ve)] h0) fun v h'=>∃xs dE v1,rU h0 h' bm L0 rev comp (e_ rev comp L0 r).err (e_ rev comp L0 r).tk (e_ rev comp L0 r).rs (e_ rev comp L0 r).R v xs dE v1 v0:=by
  have oc:=cH ra.sc;have ot:=cH ra.st;have oe:=cH ra.se;have Cd:=md.lt;obtain⟨h1,cC⟩:∃h1,h1=h0.bq 38 (r.cs vc vt ve):=⟨_,rfl⟩;have bx:=EM h0 r vc vt ve oc ot oe;rw[←cC]at bx;have o1:Og h0 h1 []:=by rw[cC];exact(Og.refl _ _).new _ _
  have x1:h1.nx=h0.nx+1:=by rw[cC];rfl
  have Y1:bj h1 h0.nx 0 (r.cs vc vt ve):=by rw[cC];exact bj.new _ _ _
  obtain⟨h2,cJ,o2,x2,ug,A2⟩:=Cc h1;have f_:=o1.t o2;have Y2:=gC Y1 o2 (by omega) (by simp);obtain⟨y0,y1,y2,y3,y4,y5,y6,y7⟩:=Y2.u8;refine bn (fn:=Tryz.f24) (c:=bD Tryz.f24) Tryz.func24 rfl ?_;show bB P 24 121 none _ _ _ _ _;refine bp ?_;refine rN ?_ (V bx<|V cJ<|V y0<|V y1<|V y2<|V y3<|V y4<|V y5<|V y6<|y7);refine((Mr h2 r vc vt ve (ra.bU f_)).call P).mono P ?_;rintro _ h3 ⟨rfl,o3⟩;have x3:=o3.1.1;have Y3:=gC Y2 o3 (by omega) (by simp);have A3:=gC A2 o3 (by omega) (by simp);have qy:=kw ug o3 (by omega) (by simp);obtain⟨a0,a1,a2,a3,a4,a5,a6,a7,a8⟩:=A3.u9;obtain⟨e,he⟩:∃e,e=cW r:=⟨_,rfl⟩;obtain⟨h4,dm⟩:∃h4,h4=h3.cm h1.nx 0 [.int .i64 (.ofNat e)]:=⟨_,rfl⟩;have A4:bj h4 h1.nx 0 (cM e 0 0 false .bh):=by
    have:=A3.put qy (j:=0) (by simp[cM]) (.int .i64 (.ofNat e));rw[al,←dm]at this;exact this
  have vS:cj h4 h1.nx=true:=by rw[dm,bN];exact qy
  have rJ:Og h0 h4 []:=by rw[dm];exact(f_.t o3).cm (.inr (by omega))
  have x4:h4.nx=h3.nx:=by rw[dm,bI]
  have k4:∀c,c≠h1.nx→h4.t.get c=h3.t.get c:=fun c hc=>by rw[dm,bT _ _ _ _ hc]
  obtain⟨b0,b1,b2,b3,b4,b5,b6,b7,b8⟩:=A4.u9;have Y4:bj h4 h0.nx 0 (r.cs vc vt ve):=Y3.bG (k4 _ (by omega));rw[←he];by_cases qe:e=0
  · have de :decide (e=0)=true:=decide_eq_true qe
    subst qe;have xZ:cW r=0:=he.symm;have m4:=md.bU rJ.1.1 (rJ.1.2 bm Cd (by simp)) (fun c e=>rJ.1.2 c (gv.base e).2 (by simp));have m41:=m4.c1;have De:∀c,bA v0=some c→c<h0.nx:=fun c e=>(gv.base e).2;refine rN ?_ (V a0<|V qy<|V dm.symm<|V b0<|V de<|V @aO<|m41);refine((atC h4 bm rev L0 v0 m4.lt m4.c0 m4.sl (by omega) (fun c e=>by have:=De c e;omega)).call P).mono P ?_;rintro _ h5 ⟨ro,rfl,pW,o5,m5⟩;have x5:=o5.1.1;have hro5:=m5.lt;obtain⟨h6,kO⟩:∃h6,h6=h5.bq 120 [.ptr bm 0,.map ro,.bh]:=⟨_,rfl⟩;have o6:Og h5 h6 []:=by rw[kO];exact(Og.refl _ _).new _ _
    have x6:h6.nx=h5.nx+1:=by rw[kO];rfl
    have D6:bj h6 h5.nx 0 [.ptr bm 0,.map ro,.bh]:=by rw[kO];exact bj.new _ _ _
    have wd6:cj h6 h5.nx=true:=by rw[kO];exact lu _ _ _
    obtain⟨h7,rR⟩:∃h7,h7=(h6.bq 118 [.cN]).cm h6.nx 0 [.ptr h5.nx 0]:=⟨_,rfl⟩;have o7:Og h6 h7 []:=by rw[rR];exact((Og.refl _ _).new _ _).cm (.inr (aA _))
    have x7:h7.nx=h6.nx+1:=by rw[rR,bI,dt]
    have F7:bj h7 h6.nx 0 [.ptr h5.nx 0]:=by rw[rR];exact bj.box _ _ _ _
    have k5:=F7.u1;have o67:=o6.t o7;have EN:=o5.t o67;have WL:=rJ.t EN;have D7:=gC D6 o7 (by omega) (by simp);have wd7:=kw wd6 o7 (by omega) (by simp);obtain⟨d0,d1,d2⟩:=D7.u3;have m7:fu encS h7 ro (mR (dg rev L0)):=m5.bU o67.1 (by simp);have A7:=gC A4 EN (by omega) (by simp);have Zp:=kw vS EN (by omega) (by simp);have Y7:=gC Y4 EN (by omega) (by simp);obtain⟨z0,z1,z2,z3,z4,z5,z6,z7⟩:=Y7.u8;have ra7:=ra.bU WL;refine rN ?_ (V m41<|V kO.symm<|V rR.symm<|V z0<|V z1<|V z2<|V z3<|V z4<|V z5<|V z6<|V z7<|V oc<|V ot<|oe);refine((cixA h7 vc (.func 54 [] [.ptr h6.nx 0]) r.eO (jm (dg rev L0)) ra7.sc ra7.zc 54 [] [.ptr h6.nx 0] rfl (fun args h=>bz 54 (by kernel_rfl) [] _ args) (fun x h _ o=>?_)).call P).mono P ?_
    ·exact Zq h h6.nx h5.nx ro (dg rev L0) x (kc k5 o (by omega) (by simp)) (kc d1 o (by omega) (by simp)) (m7.bU o.1 (by simp)) (by have:=o.1.1;omega) (by have:=o.1.1;omega)
    rintro _ h8 ⟨rfl,o8⟩;have x8:=o8.1.1;have Zw:=WL.t o8;have S9:=EN.t o8;obtain⟨tk,Gv⟩:∃tk,tk=UD rev L0 r:=⟨_,rfl⟩;have UE:(!r.eO.any (jm (dg rev L0)))=tk:=Gv.symm;have Y8:=gC Y7 o8 (by omega) (by simp);obtain⟨z0',z1',z2',z3',z4',z5',z6',z7'⟩:=Y8.u8;have ra8:=ra.bU Zw;have A8:=gC A7 o8 (by omega) (by simp);have w48:=kw Zp o8 (by omega) (by simp);obtain⟨p0,p1,p2,p3,p4,p5,p6,p7,p8⟩:=A8.u9;have k58:=kc k5 o8 (by omega) (by simp);obtain⟨va,WO,sva,Zx,ova⟩:∃va,va=(if tk then vt else ve)∧br h8 va (jP r tk).length ((jP r tk).flatMap Op.cs)∧(jP r tk).length≤1000000∧va.one=true:=by
      refine⟨_,rfl,?_⟩;unfold jP;cases tk
      ·exact⟨ra8.se,ra8.ze,oe⟩
      ·exact⟨ra8.st,ra8.zt,ot⟩
    have KW:∀c,bA va=some c→c<h0.nx:=fun c e=>by
      rw[WO]at e;cases tk
      ·exact gz ra.se c e
      ·exact gz ra.st c e
    -- behind the choice of the branch
    have rest:∀tm:T AV,tm.get 0=some (.ptr bm 0)→tm.get 4=some (.ptr h1.nx 0)→tm.get 5=some (.ptr h6.nx 0)→tm.get 7=some (.bool tk)→tm.get 8=some va→
        bB P 24 121 none (bL (bD Tryz.f24) [1,1,1,1,1,1,1]) [] tm h8 (nc P Tryz.f24 fun v h'=>∃xs dE v1,rU h0 h' bm L0 rev comp (e_ rev comp L0 r).err (e_ rev comp L0 r).tk (e_ rev comp L0 r).rs (e_ rev comp L0 r).R v xs dE v1 v0):=by
      intro tm t0 t4 t5 t7 t8;refine rN ?_ (V t0<|V t4<|V t5<|V t7<|t8);refine((Zk h8 va (jP r tk) sva Zx).call P).mono P ?_;rintro _ h9 ⟨b,⟨rfl,o9⟩,hb⟩;have x9:=o9.1.1;have Zy:b=twB (jP r tk):=by rw[Bool.eq_iff_iff,hb,MG]
      have A9:=gC A8 o9 (by omega) (by simp);have w49:=kw w48 o9 (by omega) (by simp);obtain⟨s0,s1,s2,s3,s4,s5,s6,s7,s8⟩:=A9.u9;have S_:=Zw.t o9;cases b with
      | true=>
        have et:e_ rev comp L0 r=⟨12,false,[],[]⟩:=by unfold e_;rw[if_pos xZ,←Gv,←Zy];rfl
        rw[et];obtain⟨hA,hAe⟩:∃hA,hA=h9.cm h1.nx 0 [.int .i64 (.ofNat 12)]:=⟨_,rfl⟩;have AA:bj hA h1.nx 0 (cM 12 0 0 false .bh):=by
          have:=A9.put w49 (j:=0) (by simp[cM]) (.int .i64 (.ofNat 12));rw[al,←hAe]at this;exact this
        have wA:cj hA h1.nx=true:=by rw[hAe,bN];exact w49
        obtain⟨u0,u1,u2,u3,u4,u5,u6,u7,u8⟩:=AA.u9;obtain⟨hB',Zz⟩:∃hB',hB'=hA.cm h1.nx 0 (cM 12 0 0 false .bh):=⟨_,rfl⟩;have AB:bj hB' h1.nx 0 (cM 12 0 0 false .bh):=by rw[Zz];exact bj.cm wA _
        obtain⟨c0,c1,c2,c3,c4,c5,c6,c7,c8⟩:=AB.u9;have o0B:Og h0 hB' []:=by rw[Zz,hAe];exact(S_.cm (.inr (by omega))).cm (.inr (by omega))
        unfold cM at Zz;refine rN ?_ (V t4<|V s0<|V w49<|V hAe.symm<|V u0<|V u1<|V u2<|V u3<|V u4<|V u5<|V u6<|V u7<|V u8<|V wA<|V Zz.symm<|V c0<|V c1<|V c2<|V c3<|V c4<|V c5<|V c6<|V c7<|c8);exact⟨[],.bh,v0,rU.bad (b4:=0) md gv dH o0B⟩
      | false=>
        have m9:=md.bU S_.1.1 (S_.1.2 bm Cd (by simp)) (fun c e=>S_.1.2 c (gv.base e).2 (by simp));refine Iy ?_ (@sc [0,1,1,1,1,1,1,1,1]);refine⟨?_⟩;refine RD h9 bm h1.nx h6.nx rev comp tk (jP r tk) va ⟨m9.c1,m9.c2,A9,w49,Og.refl _ _⟩ (br.only o9.1 sva (fun _ _=>by simp)) Zx (by omega) (by omega) (fun c e=>by have:=KW c e;omega) (by omega) _ (by exact sT) (by exact sT) (by exact sT) (by exact sT) (by exact sT) _ ?_ ?_
        · intro bZ hA g4 oA AA hf
          clear t0 t4 t5 t7 t8;have et:e_ rev comp L0 r=⟨gY rev comp (jP r tk),false,[],[]⟩:=by unfold e_;rw[if_pos xZ,←Gv,←Zy,if_neg (by simp),if_neg hf]
          rw[et];have o0A:Og h0 hA []:=⟨⟨by have:=oA.1.1;have:=S_.1.1;omega,fun c hc _=>by rw[oA.1.2 c (by omega) (by simp;omega)];exact S_.1.2 c hc (by simp)⟩,oA.2.trans S_.2⟩;obtain⟨u0,u1,u2,u3,u4,u5,u6,u7,u8⟩:=AA.u9;refine rN ?_ (V g4<|V u0<|V u1<|V u2<|V u3<|V u4<|V u5<|V u6<|V u7<|u8);exact⟨[],.bh,v0,rU.bad (b4:=0) md gv dH o0A⟩
        · intro bZ hA g0 g4 g5 g7 g8 tw hf
          clear t0 t4 t5 t7 t8;have oA:=tw.oo;have xA:=oA.1.1;have hn1:∀c,c<h9.nx→c≠h1.nx→hA.t.get c=h9.t.get c:=fun c hc hn=>oA.1.2 c hc (by simp[hn]);have o0A:Og h0 hA []:=⟨⟨by have:=S_.1.1;omega,fun c hc _=>by rw[hn1 c (by omega) (by omega)];exact S_.1.2 c hc (by simp)⟩,oA.2.trans S_.2⟩;have k8A:∀c,c<h8.nx→c≠h1.nx→hA.t.get c=h8.t.get c:=fun c hc hn=>by rw[hn1 c (by omega) hn,o9.1.2 c hc (by simp)]
          have k7A:∀c,c<h7.nx→c≠h1.nx→hA.t.get c=h7.t.get c:=fun c hc hn=>by rw[k8A c (by omega) hn,o8.1.2 c hc (by simp)]
          have k5A:cellAt hA h6.nx 0=some (.ptr h5.nx 0):=by rw[bo (k7A _ (by omega) (by omega))];exact k5
          obtain⟨l,hl⟩:∃l,l=jP r tk:=⟨_,rfl⟩;have svA:br h0 va l.length (l.flatMap Op.cs):=by
            rw[hl,WO];unfold jP;cases tk
            ·exact ra.se
            ·exact ra.st
          have hlenA:=(svA.move (h':=hA) o0A.1.1 (fun c e=>o0A.1.2 c (KW c e) (by simp))).len (P:=P) vK;obtain⟨hC,RG⟩:∃hC,hC=(hA.bq 127 [.nilFunc,.nilFunc,.nilFunc]).cm hA.nx 0 [.func 58 [.ptr h5.nx 0] [],.func 59 [.ptr h5.nx 0] [],.func 60 [.ptr h5.nx 0] []]:=⟨_,rfl⟩;have oC:Og hA hC []:=by rw[RG];exact((Og.refl _ _).new _ _).cm (.inr (aA _))
          have xC:hC.nx=hA.nx+1:=by rw[RG,bI,dt]
          have FC:bj hC hA.nx 0 [.func 58 [.ptr h5.nx 0] [],.func 59 [.ptr h5.nx 0] [],.func 60 [.ptr h5.nx 0] []]:=by rw[RG];exact bj.box _ _ _ _
          have o0C:=o0A.t oC;have k7C:∀c,c<h7.nx→c≠h1.nx→hC.t.get c=h7.t.get c:=fun c hc hn=>by rw[oC.1.2 c (by omega) (by simp),k7A c hc hn]
          have mC:=md.bU o0C.1.1 (o0C.1.2 bm Cd (by simp)) (fun c e=>o0C.1.2 c (gv.base e).2 (by simp));have eqV:dg (rev+1) (L0++[])=dg rev L0:=by rw[ao,KU hm]
          have hTx:Zr h0 hC h5.nx bm ro hC.nx h1.nx h6.nx hA.nx L0 v0 rev comp [] .bh [] .bh:=
            ⟨⟨by rw[bo (k7C _ (by omega) (by omega))];exact d0,by rw[bo (k7C _ (by omega) (by omega))];exact d1,by rw[bo (k7C _ (by omega) (by omega))];exact d2,by rw[bC (k7C _ (by omega) (by omega))];exact wd7,mC,by rw[eqV];exact m7.get (by omega) (k7C ro (by omega) (by omega)),.none,by omega,by omega,by omega,aA _,fun c e=>by have:=De c e;omega⟩,
             by rw[bo (k7C _ (by omega) (by omega))];exact k5,FC,gC tw.a oC (by omega) (by simp),kw tw.w4 oC (by omega) (by simp),.none,fun x hx=>(by cases hx),fun c e=>(by cases e),o0C,by omega,by omega,by omega,by omega,by omega⟩
          have et:e_ rev comp L0 r=⟨0,tk,(fy rev L0 l).1,(fy rev L0 l).2⟩:=by unfold e_;rw[if_pos xZ,←Gv,←Zy,if_neg (by simp),if_pos hf,hl]
          rw[et];refine oq ?_ (@sc [1,0,1,1,1,1,1,1,1,1,1,1]) (V g0<|V g4<|V g5<|V g7<|V g8<|V k5A<|V RG.symm<|V ova<|hlenA);refine⟨?_⟩;have hBl:=hB tk;rw[←hl]at hBl;refine Uz h0 hC h5.nx bm ro hC.nx h1.nx h6.nx hA.nx L0 v0 rev comp tk l va hTx svA (by rw[hl];exact Zx) hr hs JC hBl (by rw[hl];exact rV xZ tk) (by omega) (fun c e=>by have:=De c e;omega) _ (by exact sT) (by exact sT) (by exact sT) (by exact sT) (by exact sT) (by exact sT) (by exact sT) (by exact sT) _ ?_;intro Gu hD w xs dE f0 f4 f5 f7 MF hTy;refine Iy ?_ (@sc [1,1,1,1,1,1,1,1,1,1,1]);refine⟨?_⟩;have Zz:=hBl l.length (aA _);rw[aH]at Zz;refine Zu h0 hD h5.nx bm ro hC.nx h1.nx h6.nx hA.nx L0 v0 rev comp tk _ w xs dE hTy gv Cd dH hr (by have:=Zz.2;omega) Gu f0 f4 f5 f7 _ ?_;intro v h' v1 tp;rw[MF]at tp;exact⟨xs,dE,v1,tp⟩
    cases tk with
    | true=>
      refine oq ?_ (@sc [1,1,1,1,1,1,1]) (V UE<|V z0'<|V z1'<|V z2'<|V z3'<|V z4'<|V z5'<|V z6'<|V z7'<|V oc<|V ot<|oe);refine⟨?_⟩;exact rest _ (by exact sT) (by exact sT) (by exact sT) (by exact sT) (by rw[WO];exact sT)
    | false=>
      refine oq ?_ (@sc [1,1,1,1,1,1,1]) (V UE<|V z0'<|V z1'<|V z2'<|V z3'<|V z4'<|V z5'<|V z6'<|V z7'<|V oc<|V ot<|oe);refine⟨?_⟩;exact rest _ (by exact sT) (by exact sT) (by exact sT) (by exact sT) (by rw[WO];simp only[B,xB,F,ab,ae,af,ag,ah,ai, ↓reduceIte,eq_self,Bool.false_eq_true])
  · have de:decide (e=0)=false:=decide_eq_false qe
    have et:e_ rev comp L0 r=⟨e,false,[],[]⟩:=by unfold e_;rw[if_neg (by rw[←he];exact qe),he]
    rw[et];obtain⟨h5,eL⟩:∃h5,h5=h4.cm h1.nx 0 (cM e 0 0 false .bh):=⟨_,rfl⟩;have A5:bj h5 h1.nx 0 (cM e 0 0 false .bh):=by rw[eL];exact bj.cm vS _
    obtain⟨c0,c1,c2,c3,c4,c5,c6,c7,c8⟩:=A5.u9;have F_:Og h0 h5 []:=by rw[eL];exact rJ.cm (.inr (by omega))
    unfold cM at eL;refine rN ?_ (V a0<|V qy<|V dm.symm<|V b0<|V b1<|V b2<|V b3<|V b4<|V b5<|V b6<|V b7<|V b8<|V de<|V @aM<|V vS<|V eL.symm<|V c0<|V c1<|V c2<|V c3<|V c4<|V c5<|V c6<|V c7<|c8);exact⟨[],.bh,v0,rU.bad (b4:=0) md gv dH F_⟩
structure Ap where
 err:Nat
 rev:Nat
 comp:Nat
 tk:Bool
 rs:List nz
 R:List Rec
def fI(rev comp:Nat)(n:Nat):Nat×Nat:=if n≤comp then(9,comp)else if rev<n then(10,comp)else(0,n)
def fN(rev comp:Nat)(L0:List Rec)(r:Rq):Ap:=
 if r.kind=0 then⟨(e_ rev comp L0 r).err,if(e_ rev comp L0 r).R=[]then rev else rev+1,comp,(e_ rev comp L0 r).tk,(e_ rev comp L0 r).rs,(e_ rev comp L0 r).R⟩
 else if r.kind=1 then⟨(fI rev comp r.rev).1,rev,(fI rev comp r.rev).2,false,[],[]⟩
 else⟨11,rev,comp,false,[],[]⟩
structure ZA(h0 h':H)(bm:Nat)(L0:List Rec)(a:Ap)(v:AV)(xs:List RV)(dE v1 v0:AV):Prop where
 v:v= .agg (cM a.err a.rev a.comp a.tk dE)
 hx:xs.map (·.1)=a.rs
 ok:iV h' dE xs
 md:l_ h' bm (L0++a.R) a.rev a.comp v1
 gv:bK 8 0 h' v1 (L0++a.R).length ((L0++a.R).flatMap Rec.cs)
 oo:Og h0 h' [bm]
 nv:∀c,bA v1=some c→c≠bm
 vb:∀c,bA v1=some c→bA v0=some c∨h0.nx≤c
 rb:∀c,bA dE=some c→h0.nx≤c
 xb:∀x,x∈xs→(∀c,bA x.2.1=some c→h0.nx≤c)∧(∀c,bA x.2.2=some c→h0.nx≤c)
theorem iV.nil(h:H):iV h .bh []:=⟨.none,fun x hx=>by cases hx⟩
theorem compC(h0:H)(bm:Nat)(L0:List Rec)(rev comp:Nat)(v0:AV)(md:l_ h0 bm L0 rev comp v0)(gv:bK 8 0 h0 v0 L0.length (L0.flatMap Rec.cs))(dH:∀c,bA v0=some c→c≠bm)(r:Rq)(vc vt ve:AV)(ra:ua h0 r vc vt ve):
  bW P (.enter 25 [.ptr bm 0,.agg (r.cs vc vt ve)] h0) fun v h'=>v= .agg (cM (fI rev comp r.rev).1 0 0 false .bh)∧Og h0 h' [bm]∧l_ h' bm L0 rev (fI rev comp r.rev).2 v0∧bK 8 0 h' v0 L0.length (L0.flatMap Rec.cs):=by
 have oc:=cH ra.sc;have ot:=cH ra.st;have oe:=cH ra.se;have Cd:=md.lt;have bx:=EM h0 r vc vt ve oc ot oe;obtain⟨h1,cC⟩:∃h1,h1=h0.bq 38 (r.cs vc vt ve):=⟨_,rfl⟩;rw[←cC]at bx;have o1:Og h0 h1 []:=by rw[cC];exact(Og.refl _ _).new _ _
 have x1:h1.nx=h0.nx+1:=by rw[cC];rfl
 have Y1:bj h1 h0.nx 0 (r.cs vc vt ve):=by rw[cC];exact bj.new _ _ _
 obtain⟨h2,cJ,o2,x2,ug,A2⟩:=Cc h1;have f_:=o1.t o2;obtain⟨y0,y1,y2,y3,y4,y5,y6,y7⟩:=(gC Y1 o2 (by omega) (by simp)).u8;have m2:=md.bU f_.1.1 (f_.1.2 bm Cd (by simp)) (fun c e=>f_.1.2 c (gv.base e).2 (by simp));have m21:=m2.c1;have m22:=m2.c2;have m20:=m2.c0;have wm2:=m2.wr;obtain⟨a0,a1,a2,a3,a4,a5,a6,a7,a8⟩:=A2.u9
 -- an error
 have bad:∀e:Nat,∃h3,(h2.cm h1.nx 0 [.int .i64 (.ofNat e)]).cm h1.nx 0 [.int .i64 (.ofNat e),.int .u64 (.ofNat 0),.int .u64 (.ofNat 0),.bool false,.bh,.int .u32 (.ofNat 0),.int .u64 (.ofNat 0),.int .u64 (.ofNat 0),.int .i64 (.ofNat 0)]=h3∧bj (h2.cm h1.nx 0 [.int .i64 (.ofNat e)]) h1.nx 0 (cM e 0 0 false .bh)∧bj h3 h1.nx 0 (cM e 0 0 false .bh)∧Og h0 h3 []:=fun e=>by
  refine⟨_,rfl,?_,bj.cm (by rw[bN];exact ug) _,(f_.cm (.inr (by omega))).cm (.inr (by omega))⟩;have:=A2.put ug (j:=0) (by simp[cM]) (.int .i64 (.ofNat e));rw[al]at this;exact this
 by_cases q1:r.rev≤comp
 ·have d1:decide (r.rev≤comp)=true:=decide_eq_true q1
  have e:fI rev comp r.rev=(9,comp):=by unfold fI;rw[if_pos q1]
  obtain⟨h3,cB,A3,A4,o3⟩:=bad 9;obtain⟨b0,b1,b2,b3,b4,b5,b6,b7,b8⟩:=A3.u9;obtain⟨c0,c1,c2,c3,c4,c5,c6,c7,c8⟩:=A4.u9;have qy:cj (h2.cm h1.nx 0 [.int .i64 (.ofNat 9)]) h1.nx=true:=by rw[bN];exact ug
  obtain⟨hx,WC⟩:∃hx,hx=h2.cm h1.nx 0 [.int .i64 (.ofNat 9)]:=⟨_,rfl⟩;rw[←WC]at cB b0 b1 b2 b3 b4 b5 b6 b7 b8 qy;rw[e];refine bn (fn:=Tryz.f25) (c:=bD Tryz.f25) Tryz.func25 rfl ?_;show bB P 25 29 none _ _ _ _ _;refine bp ?_;refine rT ?_ (V bx<|V cJ<|V y7<|V m22<|V d1<|V a0<|V ug<|V WC.symm<|V b0<|V b1<|V b2<|V b3<|V b4<|V b5<|V b6<|V b7<|V b8<|V qy<|V cB<|V c0<|V c1<|V c2<|V c3<|V c4<|V c5<|V c6<|V c7<|c8);exact⟨rfl,⟨⟨o3.1.1,fun c hc _=>o3.1.2 c hc (by simp)⟩,o3.2⟩,md.bU o3.1.1 (o3.1.2 bm Cd (by simp)) (fun c e=>o3.1.2 c (gv.base e).2 (by simp)),gv.bG o3.1.1 (fun c e=>o3.1.2 c (gv.base e).2 (by simp))⟩
 ·have d1:decide (r.rev≤comp)=false:=decide_eq_false q1
  by_cases q2:rev<r.rev
  ·have d2:decide (rev<r.rev)=true:=decide_eq_true q2
   have e:fI rev comp r.rev=(10,comp):=by unfold fI;rw[if_neg q1,if_pos q2]
   obtain⟨h3,cB,A3,A4,o3⟩:=bad 10;obtain⟨b0,b1,b2,b3,b4,b5,b6,b7,b8⟩:=A3.u9;obtain⟨c0,c1,c2,c3,c4,c5,c6,c7,c8⟩:=A4.u9;have qy:cj (h2.cm h1.nx 0 [.int .i64 (.ofNat 10)]) h1.nx=true:=by rw[bN];exact ug
   obtain⟨hx,WC⟩:∃hx,hx=h2.cm h1.nx 0 [.int .i64 (.ofNat 10)]:=⟨_,rfl⟩;rw[←WC]at cB b0 b1 b2 b3 b4 b5 b6 b7 b8 qy;rw[e];refine bn (fn:=Tryz.f25) (c:=bD Tryz.f25) Tryz.func25 rfl ?_;show bB P 25 29 none _ _ _ _ _;refine bp ?_;refine rT ?_ (V bx<|V cJ<|V y7<|V m21<|V m22<|V d1<|V d2<|V a0<|V ug<|V WC.symm<|V b0<|V b1<|V b2<|V b3<|V b4<|V b5<|V b6<|V b7<|V b8<|V qy<|V cB<|V c0<|V c1<|V c2<|V c3<|V c4<|V c5<|V c6<|V c7<|c8);exact⟨rfl,⟨⟨o3.1.1,fun c hc _=>o3.1.2 c hc (by simp)⟩,o3.2⟩,md.bU o3.1.1 (o3.1.2 bm Cd (by simp)) (fun c e=>o3.1.2 c (gv.base e).2 (by simp)),gv.bG o3.1.1 (fun c e=>o3.1.2 c (gv.base e).2 (by simp))⟩
  ·have d2:decide (rev<r.rev)=false:=decide_eq_false q2
   have e:fI rev comp r.rev=(0,r.rev):=by unfold fI;rw[if_neg q1,if_neg q2]
   obtain⟨h3,cB⟩:∃h3,h3=h2.cm bm 2 [.int .u64 (.ofNat r.rev)]:=⟨_,rfl⟩;have o3:Og h2 h3 [bm]:=by rw[cB];exact(Og.refl _ _).cm (.inl (by simp))
   have M3:=(bj.m3 m20 m21 m22).put wm2 (j:=2) (by simp) (.int .u64 (.ofNat r.rev));rw[al,←cB]at M3;obtain⟨p0,p1,p2⟩:=bj.u3 (show bj h3 bm 0 [v0,.int .u64 (.ofNat rev),.int .u64 (.ofNat r.rev)]from M3);have wm3:cj h3 bm=true:=by rw[cB,bN];exact wm2
   have x3:h3.nx=h2.nx:=by rw[cB,bI]
   have A3:=gC A2 o3 (by omega) (by simp;omega);have qy:=kw ug o3 (by omega) (by simp;omega);obtain⟨b0,b1,b2,b3,b4,b5,b6,b7,b8⟩:=A3.u9;obtain⟨h4,dm⟩:∃h4,h4=h3.cm h1.nx 0 (cM 0 0 0 false .bh):=⟨_,rfl⟩;have A4:bj h4 h1.nx 0 (cM 0 0 0 false .bh):=by rw[dm];exact bj.cm qy _
   obtain⟨c0,c1,c2,c3,c4,c5,c6,c7,c8⟩:=A4.u9;have k4:∀c,c≠h1.nx→h4.t.get c=h3.t.get c:=fun c hc=>by rw[dm,bT _ _ _ _ hc]
   have x4:h4.nx=h3.nx:=by rw[dm,bI]
   unfold cM at dm;rw[e];refine bn (fn:=Tryz.f25) (c:=bD Tryz.f25) Tryz.func25 rfl ?_;show bB P 25 29 none _ _ _ _ _;refine bp ?_;refine rT ?_ (V bx<|V cJ<|V y7<|V m21<|V m22<|V d1<|V d2<|V wm2<|V cB.symm<|V b0<|V b1<|V b2<|V b3<|V b4<|V b5<|V b6<|V b7<|V b8<|V qy<|V dm.symm<|V c0<|V c1<|V c2<|V c3<|V c4<|V c5<|V c6<|V c7<|c8);have kk:∀c,c<h0.nx→c≠bm→h4.t.get c=h0.t.get c:=fun c hc hn=>by rw[k4 c (by omega),o3.1.2 c (by omega) (by simp[hn]),f_.1.2 c hc (by simp)]
   have g4:bK 8 0 h4 v0 L0.length (L0.flatMap Rec.cs):=gv.bG (by omega) (fun c e=>kk c (gv.base e).2 (dH c e));exact⟨rfl,⟨⟨by omega,fun c hc hn=>kk c hc (by simpa using hn)⟩,by rw[dm,dD,o3.2,f_.2]⟩,⟨by omega,by rw[bo (k4 bm (by omega))];exact p0,by rw[bo (k4 bm (by omega))];exact p1,by rw[bo (k4 bm (by omega))];exact p2,by rw[bC (k4 bm (by omega))];exact wm3,g4.slice⟩,g4⟩
theorem xv(h0 h:H)(bm b4:Nat)(L:List Rec)(err r0 c0 rev comp:Nat)(tk:Bool)(xs:List RV)(dE v1:AV)(A:bj h b4 0 (cM err r0 c0 tk dE))(w4:cj h b4=true)(md:l_ h bm L rev comp v1)(gv:bK 8 0 h v1 L.length (L.flatMap Rec.cs))(ok:iV h dE xs)(oo:Og h0 h [bm])(l4:h0.nx≤b4)(lb:bm<h0.nx)(h4:b4<h.nx)
  (b1:∀c,bA dE=some c→c≠b4)(b2:∀x,x∈xs→(∀c,bA x.2.1=some c→c≠b4)∧(∀c,bA x.2.2=some c→c≠b4))(hv:∀c,bA v1=some c→c≠b4)(nv:∀c,bA v1=some c→c≠bm)
  (tm:T AV)(t0:tm.get 0=some (.ptr bm 0))(t4:tm.get 4=some (.ptr b4 0))(Q:AV→H→Prop)(hQ:∀v h',v= .agg (cM err rev comp tk dE)→iV h' dE xs→l_ h' bm L rev comp v1→bK 8 0 h' v1 L.length (L.flatMap Rec.cs)→Og h0 h' [bm]→Q v h'):
  bB P 6 32 none (bL (bD Tryz.f6) [1,1,1]) [] tm h (nc P Tryz.f6 Q):=by
 have ro:=cH ok.gr;have m1:=md.c1;have m2:=md.c2;obtain⟨a0,a1,a2,a3,a4,a5,a6,a7,a8⟩:=A.u9;obtain⟨h1,cC⟩:∃h1,h1=(h.cm b4 1 [.int .u64 (.ofNat rev)]).cm b4 2 [.int .u64 (.ofNat comp)]:=⟨_,rfl⟩;have A1:bj h1 b4 0 (cM err rev comp tk dE):=by
  have q1:=A.put w4 (j:=1) (by simp[cM]) (.int .u64 (.ofNat rev));have q2:=q1.put (by rw[bN];exact w4) (j:=2) (by simp[cM]) (.int .u64 (.ofNat comp));rw[al,al,←cC]at q2;exact q2
 have S8:cj h1 b4=true:=by rw[cC,bN,bN];exact w4
 obtain⟨WQ,c1,c2,c3,c4,c5,c6,c7,c8⟩:=A1.u9;obtain⟨h2,cJ⟩:∃h2,h2=h1.cm b4 0 (cM err rev comp tk dE):=⟨_,rfl⟩;have A2:bj h2 b4 0 (cM err rev comp tk dE):=by rw[cJ];exact bj.cm S8 _
 obtain⟨e0,e1,e2,e3,e4,e5,e6,e7,e8⟩:=A2.u9;have k2:∀c,c≠b4→h2.t.get c=h.t.get c:=fun c hc=>by rw[cJ,bT _ _ _ _ hc,cC,bT _ _ _ _ hc,bT _ _ _ _ hc]
 have x2:h2.nx=h.nx:=by rw[cJ,bI,cC,bI,bI]
 have hg:h2.g=h.g:=by rw[cJ,dD,cC,dD,dD]
 have n1:(bm=b4)=False:=by simp;omega
 unfold cM at cJ;refine rT ?_ (V t0<|V t4<|V m1<|V m2<|V n1<|V a1<|V a2<|V w4<|V cC.symm<|V WQ<|V c1<|V c2<|V c3<|V c4<|V c5<|V c6<|V c7<|V c8<|V S8<|V ro<|V cJ.symm<|V e0<|V e1<|V e2<|V e3<|V e4<|V e5<|V e6<|V e7<|e8);refine hQ _ _ rfl ⟨ok.gr.move (by omega) (fun c e=>k2 c (b1 c e)),fun x hx=>⟨(ok.ok x hx).1.move (by omega) (fun c e=>k2 c ((b2 x hx).1 c e)),(ok.ok x hx).2.move (by omega) (fun c e=>k2 c ((b2 x hx).2 c e))⟩⟩ (md.bU (by omega) (k2 bm (by omega)) (fun c e=>k2 c (hv c e))) (gv.bG (by omega) (fun c e=>k2 c (hv c e))) ⟨⟨by have:=oo.1.1;omega,fun c hc hn=>by rw[k2 c (by omega)];exact oo.1.2 c hc hn⟩,hg.trans oo.2⟩
theorem ZB(h0:H)(bm:Nat)(L0:List Rec)(rev comp:Nat)(v0:AV)(md:l_ h0 bm L0 rev comp v0)(gv:bK 8 0 h0 v0 L0.length (L0.flatMap Rec.cs))(dH:∀c,bA v0=some c→c≠bm)(r:Rq)(vc vt ve:AV)(ra:ua h0 r vc vt ve)
  (hm:∀x,x∈L0→x.main≤rev)(hr:rev≤1000000)(hs:dI L0)(JC:L0.length≤200000)
  (hB:∀tk i,i≤(jP r tk).length→dI (fy rev L0 ((jP r tk).take i)).2∧(fy rev L0 ((jP r tk).take i)).2.length≤200000):
  bW P (.enter 6 [.ptr bm 0,.agg (r.cs vc vt ve)] h0) fun v h'=>∃xs dE v1,ZA h0 h' bm L0 (fN rev comp L0 r) v xs dE v1 v0:=by
 have oc:=cH ra.sc;have ot:=cH ra.st;have oe:=cH ra.se;have Cd:=md.lt;have De:∀c,bA v0=some c→c<h0.nx:=fun c e=>(gv.base e).2;have bx:=EM h0 r vc vt ve oc ot oe;obtain⟨h1,cC⟩:∃h1,h1=h0.bq 38 (r.cs vc vt ve):=⟨_,rfl⟩;rw[←cC]at bx;have o1:Og h0 h1 []:=by rw[cC];exact(Og.refl _ _).new _ _
 have x1:h1.nx=h0.nx+1:=by rw[cC];rfl
 have Y1:bj h1 h0.nx 0 (r.cs vc vt ve):=by rw[cC];exact bj.new _ _ _
 obtain⟨h2,cJ,o2,x2,ug,A2⟩:=Cc h1;have f_:=o1.t o2;have Y2:=gC Y1 o2 (by omega) (by simp);obtain⟨y0,y1,y2,y3,y4,y5,y6,y7⟩:=Y2.u8;have m2:=md.bU f_.1.1 (f_.1.2 bm Cd (by simp)) (fun c e=>f_.1.2 c (De c e) (by simp));have gv2:=gv.bG f_.1.1 (fun c e=>f_.1.2 c (De c e) (by simp));have Da:=ra.bU f_;obtain⟨a0,a1,a2,a3,a4,a5,a6,a7,a8⟩:=A2.u9;by_cases q0:r.kind=0
 ·have d0:(r.kind==ak 0)=true:=by rw[q0];rfl
  have ea:fN rev comp L0 r=⟨(e_ rev comp L0 r).err,if(e_ rev comp L0 r).R=[]then rev else rev+1,comp,(e_ rev comp L0 r).tk,(e_ rev comp L0 r).rs,(e_ rev comp L0 r).R⟩:=by unfold fN;rw[if_pos q0]
  rw[ea];refine bn (fn:=Tryz.f6) (c:=bD Tryz.f6) Tryz.func6 rfl ?_;show bB P 6 32 none _ _ _ _ _;refine bp ?_;refine rN ?_ (V bx<|V cJ<|V y0<|V y1<|V y2<|V y3<|V y4<|V y5<|V y6<|V y7<|d0);refine((txnC h2 bm L0 rev comp v0 m2 gv2 dH r vc vt ve Da hm hr hs JC hB).call P).mono P ?_;rintro _ h3 ⟨xs,dE,v1,tp⟩;obtain⟨T,hT⟩:∃T,T=e_ rev comp L0 r:=⟨_,rfl⟩;rw[←hT]at tp ⊢;obtain⟨hv,hx,gr,ok,md3,gv3,IU,nv3,rb,xb,vb⟩:=tp;unfold cM at hv;subst hv;have x3:=IU.1.1;have ro:=cH gr;have A3:=gC A2 IU (by omega) (by simp;omega);have qy:=kw ug IU (by omega) (by simp;omega);obtain⟨b0,b1,b2,b3,b4,b5,b6,b7,b8⟩:=A3.u9;obtain⟨h4,dm⟩:∃h4,h4=h3.cm h1.nx 0 (cM T.err 0 0 T.tk dE):=⟨_,rfl⟩;have A4:bj h4 h1.nx 0 (cM T.err 0 0 T.tk dE):=by rw[dm];exact bj.cm qy _
  have vS:cj h4 h1.nx=true:=by rw[dm,bN];exact qy
  have k4:∀c,c≠h1.nx→h4.t.get c=h3.t.get c:=fun c hc=>by rw[dm,bT _ _ _ _ hc]
  have x4:h4.nx=h3.nx:=by rw[dm,bI]
  have RH:∀c,bA v1=some c→c≠h1.nx:=fun c e=>by
   rcases vb c e with q|q
   ·have:=De c q;omega
   ·omega
  unfold cM at dm;refine oq ?_ (@sc [1,1,1]) (V ro<|V b0<|V b1<|V b2<|V b3<|V b4<|V b5<|V b6<|V b7<|V b8<|V qy<|dm.symm);refine⟨?_⟩;have WM:iV h4 dE xs:=⟨gr.move (by omega) (fun c e=>k4 c (by have:=rb c e;omega)),fun x hx=>⟨(ok x hx).1.move (by omega) (fun c e=>k4 c (by have:=(xb x hx).1 c e;omega)),(ok x hx).2.move (by omega) (fun c e=>k4 c (by have:=(xb x hx).2 c e;omega))⟩⟩;refine xv h0 h4 bm h1.nx _ T.err 0 0 _ comp T.tk xs dE v1 A4 vS (md3.bU (by omega) (k4 bm (by omega)) (fun c e=>k4 c (RH c e))) (gv3.bG (by omega) (fun c e=>k4 c (RH c e))) WM ⟨⟨by omega,fun c hc hn=>by rw[k4 c (by omega),IU.1.2 c (by omega) hn,f_.1.2 c hc (by simp)]⟩,by rw[dm,dD,IU.2,f_.2]⟩ (by omega) Cd (by omega) (fun c e=>by have:=rb c e;omega) (fun x hx=>⟨fun c e=>by have:=(xb x hx).1 c e;omega,fun c e=>by have:=(xb x hx).2 c e;omega⟩) RH nv3 _ (by exact sT) (by exact sT) _ ?_;intro v h' hv rk m g o;exact⟨xs,dE,v1,hv,hx,rk,m,g,o,nv3,fun c e=>by rcases vb c e with q|q;exact .inl q;exact .inr (by omega),fun c e=>by have:=rb c e;omega,fun x hx=>⟨fun c e=>by have:=(xb x hx).1 c e;omega,fun c e=>by have:=(xb x hx).2 c e;omega⟩⟩
 ·have d0:(r.kind==ak 0)=false:=by simpa using q0
  by_cases q1:r.kind=1
  ·have d1:(r.kind==ak 1)=true:=by rw[q1];rfl
   have ea:fN rev comp L0 r=⟨(fI rev comp r.rev).1,rev,(fI rev comp r.rev).2,false,[],[]⟩:=by unfold fN;rw[if_neg q0,if_pos q1]
   rw[ea];refine bn (fn:=Tryz.f6) (c:=bD Tryz.f6) Tryz.func6 rfl ?_;show bB P 6 32 none _ _ _ _ _;refine bp ?_;refine rN ?_ (V bx<|V cJ<|V y0<|V y1<|V y2<|V y3<|V y4<|V y5<|V y6<|V y7<|V d0<|d1);refine((compC h2 bm L0 rev comp v0 m2 gv2 dH r vc vt ve Da).call P).mono P ?_;rintro _ h3 ⟨hv,IU,md3,gv3⟩;obtain⟨T,hT⟩:∃T,T=fI rev comp r.rev:=⟨_,rfl⟩;rw[←hT]at hv md3 ⊢;unfold cM at hv;subst hv;have x3:=IU.1.1;have A3:=gC A2 IU (by omega) (by simp;omega);have qy:=kw ug IU (by omega) (by simp;omega);obtain⟨b0,b1,b2,b3,b4,b5,b6,b7,b8⟩:=A3.u9;obtain⟨h4,dm⟩:∃h4,h4=h3.cm h1.nx 0 (cM T.1 0 0 false .bh):=⟨_,rfl⟩;have A4:bj h4 h1.nx 0 (cM T.1 0 0 false .bh):=by rw[dm];exact bj.cm qy _
   have vS:cj h4 h1.nx=true:=by rw[dm,bN];exact qy
   have k4:∀c,c≠h1.nx→h4.t.get c=h3.t.get c:=fun c hc=>by rw[dm,bT _ _ _ _ hc]
   have x4:h4.nx=h3.nx:=by rw[dm,bI]
   have RH:∀c,bA v0=some c→c≠h1.nx:=fun c e=>by have:=De c e;omega
   unfold cM at dm;refine oq ?_ (@sc [1,1,1]) (V b0<|V b1<|V b2<|V b3<|V b4<|V b5<|V b6<|V b7<|V b8<|V qy<|dm.symm);refine⟨?_⟩;refine xv h0 h4 bm h1.nx _ T.1 0 0 rev T.2 false [] .bh v0 A4 vS (md3.bU (by omega) (k4 bm (by omega)) (fun c e=>k4 c (RH c e))) (gv3.bG (by omega) (fun c e=>k4 c (RH c e))) (iV.nil _) ⟨⟨by omega,fun c hc hn=>by rw[k4 c (by omega),IU.1.2 c (by omega) hn,f_.1.2 c hc (by simp)]⟩,by rw[dm,dD,IU.2,f_.2]⟩ (by omega) Cd (by omega) (fun c e=>by cases e) (fun x hx=>by cases hx) RH dH _ (by exact sT) (by exact sT) _ ?_;intro v h' hv rk m g o;exact⟨[],.bh,v0,hv,rfl,rk,by rw[ao];exact m,by rw[ao];exact g,o,dH,fun c e=>.inl e,fun c e=>(by cases e),fun x hx=>(by cases hx)⟩
  ·have d1:(r.kind==ak 1)=false:=by simpa using q1
   have ea:fN rev comp L0 r=⟨11,rev,comp,false,[],[]⟩:=by unfold fN;rw[if_neg q0,if_neg q1]
   rw[ea];obtain⟨h4,dm⟩:∃h4,h4=h2.cm h1.nx 0 [.int .i64 (.ofNat 11)]:=⟨_,rfl⟩;have A4:bj h4 h1.nx 0 (cM 11 0 0 false .bh):=by
    have:=A2.put ug (j:=0) (by simp[cM]) (.int .i64 (.ofNat 11));rw[al,←dm]at this;exact this
   have vS:cj h4 h1.nx=true:=by rw[dm,bN];exact ug
   have k4:∀c,c≠h1.nx→h4.t.get c=h2.t.get c:=fun c hc=>by rw[dm,bT _ _ _ _ hc]
   have x4:h4.nx=h2.nx:=by rw[dm,bI]
   have RH:∀c,bA v0=some c→c≠h1.nx:=fun c e=>by have:=De c e;omega
   refine bn (fn:=Tryz.f6) (c:=bD Tryz.f6) Tryz.func6 rfl ?_;show bB P 6 32 none _ _ _ _ _;refine bp ?_;refine oq ?_ (@sc [1,1,1]) (V bx<|V cJ<|V y0<|V y1<|V y2<|V y3<|V y4<|V y5<|V y6<|V y7<|V d0<|V d1<|V a0<|V ug<|dm.symm);refine⟨?_⟩;refine xv h0 h4 bm h1.nx _ 11 0 0 rev comp false [] .bh v0 A4 vS (m2.bU (by omega) (k4 bm (by omega)) (fun c e=>k4 c (RH c e))) (gv2.bG (by omega) (fun c e=>k4 c (RH c e))) (iV.nil _) ⟨⟨by omega,fun c hc hn=>by rw[k4 c (by omega),f_.1.2 c hc (by simp)]⟩,by rw[dm,dD,f_.2]⟩ (by omega) Cd (by omega) (fun c e=>by cases e) (fun x hx=>by cases hx) RH dH _ (by exact sT) (by exact sT) _ ?_;intro v h' hv rk m g o;exact⟨[],.bh,v0,hv,rfl,rk,by rw[ao];exact m,by rw[ao];exact g,o,dH,fun c e=>.inl e,fun c e=>(by cases e),fun x hx=>(by cases hx)⟩
def xw(h:H)(v:AV)(m:Nat)(cs:List AV):Prop:=((v= .bh∨v= .dq)∧m=0∧cs=[])∨∃b o cap,v= .slice b o m cap∧b<h.nx∧h.row b o (m*8)=some cs∧cs.length=m*8
theorem UF{h h':H}{b:Nat}(e:h'.t.get b=h.t.get b)(o k:Nat):h'.row b o k=h.row b o k:=by unfold H.row;rw[e]
theorem xw.move{h h':H}{v:AV}{m:Nat}{cs:List AV}(k:xw h v m cs)(hx:h.nx≤h'.nx)(e:∀c,bA v=some c→h'.t.get c=h.t.get c):xw h' v m cs:=by
 rcases k with q|⟨b,o,cap,rfl,hb,hr,hl⟩
 ·exact .inl q
 ·exact .inr ⟨b,o,cap,rfl,by omega,by rw[UF (e b rfl)];exact hr,hl⟩
theorem xw.one{h:H}{v:AV}{m:Nat}{cs:List AV}(k:xw h v m cs):v.one=true:=by
 rcases k with⟨rfl|rfl,-,-⟩|⟨b,o,cap,rfl,-,-,-⟩<;>rfl
theorem xw.cells{h:H}{v:AV}{m:Nat}{cs:List AV}(k:xw h v m cs):v.cells=[v]:=by
 rcases k with⟨rfl|rfl,-,-⟩|⟨b,o,cap,rfl,-,-,-⟩<;>rfl
theorem xw.lt{h:H}{v:AV}{m:Nat}{cs:List AV}(k:xw h v m cs):∀c,bA v=some c→c<h.nx:=by
 intro c e;rcases k with⟨rfl|rfl,-,-⟩|⟨b,o,cap,rfl,hb,-,-⟩
 ·cases e
 ·cases e
 ·cases e;exact hb
theorem xw.app{h:H}{v l0:AV}{m n0 base:Nat}{cs cs0:List AV}(k:xw h v m cs)(hg:bK 8 base h l0 n0 cs0)(hb:base≤h.nx)(hz:n0+m≤4194304){K:AV→H→Prop}(hk:BZ 8 base h l0 (n0+m) (cs0++cs) K):jf P (bQ P .append [60,60] [l0,v] h) K:=by
 rcases k with⟨hv,rfl,rfl⟩|⟨b,o,cap,rfl,-,hr,hl⟩
 ·exact rC jl i45 hg hv (by simpa using hk)
 ·rcases Nat.eq_zero_or_pos m with rfl|q
  ·have :cs=[]:=List.length_eq_zero_iff.1 (by omega)
   subst this;exact vI jl i45 hg (by simpa using hr) (by simpa using hk)
  ·exact vH (by omega) jl i45 hg hb hr hl q (by omega) hk
structure jM(h:H)(b:Nat)(L:List Rec)(rev comp:Nat)(v:AV)(S:List Rec)(sv:AV)(yL:Nat):Prop where
 lt:b<h.nx
 c:bj h b 0 [v,.int .u64 (.ofNat rev),.int .u64 (.ofNat comp),.int .u64 (.ofNat 0),.int .u64 (.ofNat 0),.bh,sv,.int .u64 (.ofNat yL)]
 wr:cj h b=true
 gv:bK 8 0 h v L.length (L.flatMap Rec.cs)
 ss:br h sv S.length (S.flatMap Rec.cs)
 sk:xw h sv S.length (S.flatMap Rec.cs)
 nv:∀c,bA v=some c→c≠b
 ns:∀c,bA sv=some c→c≠b
theorem jM.bU{h h':H}{b rev comp yL:Nat}{L S:List Rec}{v sv:AV}(s:jM h b L rev comp v S sv yL)(o:Og h h' []):jM h' b L rev comp v S sv yL:=
 ⟨aq s.lt o.1.1,gC s.c o s.lt (by simp),kw s.wr o s.lt (by simp),s.gv.bG o.1.1 (fun c e=>o.1.2 c (s.gv.base e).2 (by simp)),s.ss.move o.1.1 (fun c e=>o.1.2 c (gz s.ss c e) (by simp)),s.sk.move o.1.1 (fun c e=>o.1.2 c (gz s.ss c e) (by simp)),s.nv,s.ns⟩
theorem MI(h0:H)(b:Nat)(L:List Rec)(rev comp:Nat)(v:AV)(S:List Rec)(sv:AV)(yL:Nat)(s:jM h0 b L rev comp v S sv yL)(hr:rev≤1000000)(hz:L.length+S.length≤1000000):
  bW P (.enter 27 [.ptr b 0,.int .u64 (.ofNat 0),.bh] h0) fun u h'=>u= .int .i64 (.ofNat 0)∧Og h0 h' [b]∧∃v',jM h' b (L++S) (if S=[]then rev else rev+1) (if 0<yL then yL else comp) v' [] .bh 0∧∀c,bA v'=some c→h0.nx≤c:=by
 have lt:=s.lt;obtain⟨c0,c1,c2,c3,c4,c5,c6,c7⟩:=s.c.u8;have vo:=s.gv.one;have so:=s.sk.one;have hlen:=s.ss.len (P:=P) jl;refine bn (fn:=Tryz.f27) (c:=bD Tryz.f27) Tryz.func27 rfl ?_;show bB P 27 198 none _ _ _ _ _;refine bp ?_;refine rN ?_ (V c0<|V c1<|V c2<|V c3<|V c4<|V c5<|V c6<|V c7<|V vo<|so);refine cn (fun m ds tm h=>m=0∧ds=[]∧tm.get 0=some (.ptr b 0)∧tm.get 1=some (.int .u64 (.ofNat 0))∧tm.get 2=some .bh∧tm.get 7=some (.int .i64 (.ofNat 0))∧h=h0) 0 rfl ⟨rfl,rfl,by exact sT,by exact sT,by exact sT,by exact sT,rfl⟩ (fun m ds tm h hI=>?_);obtain⟨rfl,rfl,t0,t1,t2,t7,rfl⟩:=hI;have d0:decide (0<0)=false:=rfl;refine rN ?_ (V t0<|V t1<|V t2<|V t7<|d0);clear t7;refine cn (fun m ds tm h'=>m=0∧ds=[]∧tm.get 0=some (.ptr b 0)∧tm.get 1=some (.int .u64 (.ofNat 0))∧tm.get 2=some .bh∧tm.get 9=some (.int .i64 (.ofNat 0))∧h'=h) 0 rfl ⟨rfl,rfl,by exact sT,by exact sT,by exact sT,by exact sT,rfl⟩ (fun m ds tm h hI=>?_);clear t0 t1 t2;obtain⟨rfl,rfl,t0,t1,t2,t9,rfl⟩:=hI;refine rN ?_ (V t0<|V t1<|V t2<|V t9<|V d0<|V c0<|V c1<|V c2<|V c3<|V c4<|V c5<|V c6<|V c7<|V vo<|so);refine FZ (base:=h.nx) (n0:=0) (cs0:=[]) (by omega) jl i45 bK.none s.gv (aA _) (by omega) (fun v1 h1 g1 x1 Oq bl1 gg1=>?_);rw[al,aD]at g1;have o1:Og h h1 []:=⟨⟨x1,fun c hc _=>Oq c hc (by simp[bA])⟩,gg1⟩;have WN:=g1.one;have s1:=s.bU o1;obtain⟨e0,e1,e2,e3,e4,e5,e6,e7⟩:=s1.c.u8;refine rN ?_ (V t0<|V t1<|V t2<|V WN<|V e0<|V e1<|V e2<|V e3<|V e4<|V e5<|V e6<|V e7<|so);refine s1.sk.app g1 x1 (by omega) (fun v2 h2 g2 x2 UG bl2 gg2=>?_);have MB:=g2.one;have ZC:=g2.cells;have wD:∀c,bA v1=some c→h.nx≤c:=fun c e=>(g1.base e).1;have k2:∀c,c<h.nx→h2.t.get c=h1.t.get c:=fun c hc=>UG c (by omega) (fun e=>by have:=wD c e;omega);have C2:=s1.c.bG (k2 b lt);have w2:cj h2 b=true:=by rw[bC (k2 b lt)];exact s1.wr
 obtain⟨f0,f1,f2,f3,f4,f5,f6,f7⟩:=C2.u8;obtain⟨h3,cB⟩:∃h3,h3=h2.cm b 0 [v2]:=⟨_,rfl⟩;have C3:=C2.put w2 (j:=0) (by simp) v2;rw[al,←cB]at C3;have WR:bj h3 b 0 [v2,.int .u64 (.ofNat rev),.int .u64 (.ofNat comp),.int .u64 (.ofNat 0),.int .u64 (.ofNat 0),.bh,sv,.int .u64 (.ofNat yL)]:=C3;have w3:cj h3 b=true:=by rw[cB,bN];exact w2
 obtain⟨i0,i1,i2,i3,i4,i5,i6,i7⟩:=WR.u8;have sP:∀c,bA v2=some c→h.nx≤c:=fun c e=>(g2.base e).1;have IL:bV .u64 (ak rev+ak 1)=ak (rev+1):=sC (by omega)
 -- the end, with what Rev and Compacted come to
 have fin:∀(h4:H)(r4 c4:Nat),h4.nx=h2.nx→(∀c,c≠b→h4.t.get c=h2.t.get c)→h4.g=h2.g→cj h4 b=true→bj h4 b 0 [v2,.int .u64 (.ofNat r4),.int .u64 (.ofNat c4),.int .u64 (.ofNat 0),.int .u64 (.ofNat 0),.bh,.bh,.int .u64 (.ofNat 0)]→Og h h4 [b]∧jM h4 b (L++S) r4 c4 v2 [] .bh 0:=fun h4 r4 c4 x4 k4 gg4 w4 C4=>by
  refine⟨⟨⟨by omega,fun c hc hn=>?_⟩,by rw[gg4,gg2,gg1]⟩,⟨by omega,C4,w4,?_,.none,.inl ⟨.inl rfl,rfl,rfl⟩,fun c e=>by have:=sP c e;omega,fun c e=>by cases e⟩⟩
  ·rw[k4 c (by simpa using hn),k2 c hc,o1.1.2 c hc (by simp)]
  ·rw[an,aB]
   exact(g2.bG (by omega) (fun c e=>k4 c (by have:=sP c e;omega))).wk (aG _)
 have nS:∀q:S=[],decide (0<S.length)=false:=fun q=>by rw[q];rfl
 have pS:∀q:S≠[],decide (0<S.length)=true:=fun q=>decide_eq_true (List.length_pos_iff.2 q);by_cases qs:S=[]
 ·have ds:=nS qs
  rw[if_pos qs];by_cases qa:0<yL
  ·have da:decide (0<yL)=true:=decide_eq_true qa
   rw[if_pos qa];refine rN ?_ (V t0<|V t1<|V t2<|V f0<|V f1<|V f2<|V f3<|V f4<|V f5<|V f6<|V f7<|V MB<|V ZC<|V w2<|V cB.symm<|V i0<|V i1<|V i2<|V i3<|V i4<|V i5<|V i6<|V i7<|V w3<|V so<|V hlen<|V ds<|V da<|IL);refine(fun q=>⟨q.1,v2,q.2,sP⟩) (fin _ rev yL (by simp only[bI,cB]) (fun c hc=>by simp only[bT _ _ _ _ hc,cB]) (by simp only[dD,cB]) (by simp only[bN];exact w3) ?_);exact(((WR.put (w3) (j:=2) (by simp) (.int .u64 (.ofNat yL))).put (by simp only[bN];exact w3) (j:=6) (by simp) (.bh)).put (by simp only[bN];exact w3) (j:=7) (by simp) (.int .u64 (.ofNat 0)))
  ·have da:decide (0<yL)=false:=decide_eq_false qa
   rw[if_neg qa];refine rN ?_ (V t0<|V t1<|V t2<|V f0<|V f1<|V f2<|V f3<|V f4<|V f5<|V f6<|V f7<|V MB<|V ZC<|V w2<|V cB.symm<|V i0<|V i1<|V i2<|V i3<|V i4<|V i5<|V i6<|V i7<|V w3<|V so<|V hlen<|V ds<|V da<|IL);refine(fun q=>⟨q.1,v2,q.2,sP⟩) (fin _ rev comp (by simp only[bI,cB]) (fun c hc=>by simp only[bT _ _ _ _ hc,cB]) (by simp only[dD,cB]) (by simp only[bN];exact w3) ?_);exact((WR.put (w3) (j:=6) (by simp) (.bh)).put (by simp only[bN];exact w3) (j:=7) (by simp) (.int .u64 (.ofNat 0)))
 ·have ds:=pS qs
  rw[if_neg qs];by_cases qa:0<yL
  ·have da:decide (0<yL)=true:=decide_eq_true qa
   rw[if_pos qa];refine rN ?_ (V t0<|V t1<|V t2<|V f0<|V f1<|V f2<|V f3<|V f4<|V f5<|V f6<|V f7<|V MB<|V ZC<|V w2<|V cB.symm<|V i0<|V i1<|V i2<|V i3<|V i4<|V i5<|V i6<|V i7<|V w3<|V so<|V hlen<|V ds<|V da<|IL);refine(fun q=>⟨q.1,v2,q.2,sP⟩) (fin _ (rev+1) yL (by simp only[bI,cB]) (fun c hc=>by simp only[bT _ _ _ _ hc,cB]) (by simp only[dD,cB]) (by simp only[bN];exact w3) ?_);exact((((WR.put (w3) (j:=1) (by simp) (.int .u64 (.ofNat (rev+1)))).put (by simp only[bN];exact w3) (j:=2) (by simp) (.int .u64 (.ofNat yL))).put (by simp only[bN];exact w3) (j:=6) (by simp) (.bh)).put (by simp only[bN];exact w3) (j:=7) (by simp) (.int .u64 (.ofNat 0)))
  ·have da:decide (0<yL)=false:=decide_eq_false qa
   rw[if_neg qa];refine rN ?_ (V t0<|V t1<|V t2<|V f0<|V f1<|V f2<|V f3<|V f4<|V f5<|V f6<|V f7<|V MB<|V ZC<|V w2<|V cB.symm<|V i0<|V i1<|V i2<|V i3<|V i4<|V i5<|V i6<|V i7<|V w3<|V so<|V hlen<|V ds<|V da<|IL);refine(fun q=>⟨q.1,v2,q.2,sP⟩) (fin _ (rev+1) comp (by simp only[bI,cB]) (fun c hc=>by simp only[bT _ _ _ _ hc,cB]) (by simp only[dD,cB]) (by simp only[bN];exact w3) ?_);exact(((WR.put (w3) (j:=1) (by simp) (.int .u64 (.ofNat (rev+1)))).put (by simp only[bN];exact w3) (j:=6) (by simp) (.bh)).put (by simp only[bN];exact w3) (j:=7) (by simp) (.int .u64 (.ofNat 0)))
theorem ZD(h0:H)(b:Nat)(L:List Rec)(rev comp:Nat)(v:AV)(S:List Rec)(sv:AV)(yL:Nat)(s:jM h0 b L rev comp v S sv yL)(n:Nat):
  bW P (.enter 28 [.ptr b 0,.int .u64 (.ofNat n)] h0) fun u h'=>u= .int .i64 (.ofNat (fI rev comp n).1)∧Og h0 h' [b]∧jM h' b L rev comp v [] .bh (if(fI rev comp n).1=0 then n else 0):=by
 have lt:=s.lt;obtain⟨c0,c1,c2,c3,c4,c5,c6,c7⟩:=s.c.u8;have wr:=s.wr;obtain⟨h1,cC⟩:∃h1,h1=(h0.cm b 6 [.bh]).cm b 7 [.int .u64 (.ofNat 0)]:=⟨_,rfl⟩;have C1:=(s.c.put wr (j:=6) (by simp) .bh).put (by rw[bN];exact wr) (j:=7) (by simp) (.int .u64 (.ofNat 0));rw[al,al,←cC]at C1;have ZE:bj h1 b 0 [v,.int .u64 (.ofNat rev),.int .u64 (.ofNat comp),.int .u64 (.ofNat 0),.int .u64 (.ofNat 0),.bh,.bh,.int .u64 (.ofNat 0)]:=C1;have w1:cj h1 b=true:=by rw[cC,bN,bN];exact wr
 obtain⟨i0,i1,i2,i3,i4,i5,i6,i7⟩:=ZE.u8;have fin:∀(h4:H)(n:Nat),h4.nx=h0.nx→(∀c,c≠b→h4.t.get c=h0.t.get c)→h4.g=h0.g→cj h4 b=true→bj h4 b 0 [v,.int .u64 (.ofNat rev),.int .u64 (.ofNat comp),.int .u64 (.ofNat 0),.int .u64 (.ofNat 0),.bh,.bh,.int .u64 (.ofNat n)]→Og h0 h4 [b]∧jM h4 b L rev comp v [] .bh n:=fun h4 n x4 k4 gg4 w4 C4=>
  ⟨⟨⟨by omega,fun c hc hn=>k4 c (by simpa using hn)⟩,gg4⟩,⟨by omega,C4,w4,s.gv.bG (by omega) (fun c e=>k4 c (s.nv c e)),.none,.inl ⟨.inl rfl,rfl,rfl⟩,s.nv,fun c e=>by cases e⟩⟩
 by_cases q1:n≤comp
 ·have d1:decide (n≤comp)=true:=decide_eq_true q1
  have e:fI rev comp n=(9,comp):=by unfold fI;rw[if_pos q1]
  rw[e];refine bn (fn:=Tryz.f28) (c:=bD Tryz.f28) Tryz.func28 rfl ?_;show bB P 28 27 none _ _ _ _ _;refine bp ?_;refine rN ?_ (V c0<|V c1<|V c2<|V c3<|V c4<|V c5<|V c6<|V c7<|V wr<|V cC.symm<|V i0<|V i1<|V i2<|V i3<|V i4<|V i5<|V i6<|V i7<|d1);exact fin h1 0 (by rw[cC,bI,bI]) (fun c hc=>by rw[cC,bT _ _ _ _ hc,bT _ _ _ _ hc]) (by rw[cC,dD,dD]) w1 ZE
 ·have d1:decide (n≤comp)=false:=decide_eq_false q1
  by_cases q2:rev<n
  ·have d2:decide (rev<n)=true:=decide_eq_true q2
   have e:fI rev comp n=(10,comp):=by unfold fI;rw[if_neg q1,if_pos q2]
   rw[e];refine bn (fn:=Tryz.f28) (c:=bD Tryz.f28) Tryz.func28 rfl ?_;show bB P 28 27 none _ _ _ _ _;refine bp ?_;refine rN ?_ (V c0<|V c1<|V c2<|V c3<|V c4<|V c5<|V c6<|V c7<|V wr<|V cC.symm<|V i0<|V i1<|V i2<|V i3<|V i4<|V i5<|V i6<|V i7<|V d1<|d2);exact fin h1 0 (by rw[cC,bI,bI]) (fun c hc=>by rw[cC,bT _ _ _ _ hc,bT _ _ _ _ hc]) (by rw[cC,dD,dD]) w1 ZE
  ·have d2:decide (rev<n)=false:=decide_eq_false q2
   have e:fI rev comp n=(0,n):=by unfold fI;rw[if_neg q1,if_neg q2]
   rw[e];refine bn (fn:=Tryz.f28) (c:=bD Tryz.f28) Tryz.func28 rfl ?_;show bB P 28 27 none _ _ _ _ _;refine bp ?_;refine rN ?_ (V c0<|V c1<|V c2<|V c3<|V c4<|V c5<|V c6<|V c7<|V wr<|V cC.symm<|V i0<|V i1<|V i2<|V i3<|V i4<|V i5<|V i6<|V i7<|V d1<|V d2<|w1);have C2:=ZE.put w1 (j:=7) (by simp) (.int .u64 (.ofNat n));exact fin (h1.cm b 7 [.int .u64 (.ofNat n)]) n (by rw[bI,cC,bI,bI]) (fun c hc=>by rw[bT _ _ _ _ hc,cC,bT _ _ _ _ hc,bT _ _ _ _ hc]) (by rw[dD,cC,dD,dD]) (by rw[bN];exact w1) C2
end
end Go.Proofs.YtnedigoajoflaaaGreat.M
namespace Go.Proofs.YtnedigoajoflaaaGreat.M
open Go Go.AX
noncomputable section
theorem IW(k a:List Nat)(r:Rec):∀W:View,dP k (qx a r W)=if k=a then some r else dP k W
 |[]=>by
  unfold qx dP;rw[au];by_cases q:k=a<;>simp[q]
 | (b,x)::W=>by
  have ih:=IW k a r W;unfold qx;by_cases q:a=b
  ·rw[if_pos q]
   unfold dP;rw[au,au];by_cases q2:k=a
   ·subst q;simp[q2]
   ·have :¬k=b:=fun e=>q2 (by rw[e,q])
    simp[q2,this]
  ·rw[if_neg q]
   unfold dP at ih ⊢;rw[au,au];by_cases q2:k=b
   ·have :¬k=a:=fun e=>q (by rw[←e,q2])
    simp[q2,this];intro e;exact absurd e (fun h=>q h.symm)
   ·simp only[decide_eq_false q2];exact ih
theorem EO{k:List Nat}:∀{W:View},k∉W.map (·.1)→dP k W=none
 |[],_=>rfl
 |(b,x)::W,h=>by
  rw[List.map_cons,aP,not_or]at h;unfold dP;rw[au];simp only[decide_eq_false h.1];exact EO h.2
theorem IX(k a:List Nat):∀W:View,(W.map (·.1)).Nodup→dP k (ub a W)=if k=a then none else dP k W
 |[],_=>by
  unfold ub dP;split<;>rfl
 | (b,x)::W,h=>by
  rw[List.map_cons,List.nodup_cons]at h;have ih:=IX k a W h.2;unfold ub;by_cases q:a=b
  ·rw[if_pos q]
   by_cases q2:k=a
   ·rw[if_pos q2]
    exact EO (by rw[q2,q];exact h.1)
   ·rw[if_neg q2]
    have :¬k=b:=fun e=>q2 (by rw[e,q]);unfold dP;rw[au];simp only[decide_eq_false this]
  ·rw[if_neg q]
   unfold dP at ih ⊢;rw[au,au];by_cases q2:k=b
   ·have :¬k=a:=fun e=>q (by rw[←e,q2])
    rw[if_neg this];simp[q2]
   ·simp only[decide_eq_false q2];exact ih
theorem oX{W:View}(nd:(W.map (·.1)).Nodup)(k:List Nat)(r:Rec):dP k (fw W r)=if k=r.kv.key then(if r.dW then none else some r)else dP k W:=by
 unfold fw;cases r.dW with
 |true=>rw[if_pos rfl,IX k _ W nd];rfl
 |false=>rw[if_neg (by simp),IW];rfl
structure FiV(k:List Nat)(s:KV×Bool)(W:View):Prop where
 nd:(W.map (·.1)).Nodup
 is:s.2=(dP k W).isSome
 kv:∀r,dP k W=some r→s.1=r.kv
theorem FiV.fold{k:List Nat}{m:Nat}:∀(L:List Rec)(s:KV×Bool)(W:View),FiV k s W→FiV k (L.foldl (fun s r=>if r.kv.key=k∧r.main≤m then(r.kv, !r.dW)else s) s) (L.foldl (fun W r=>if r.main≤m then fw W r else W) W)
 |[],_,_,h=>h
 | r ::L,s,W,h=>by
  rw[az,az];refine FiV.fold L _ _ ?_;by_cases q:r.main≤m
  ·rw[if_pos q]
   by_cases q2:r.kv.key=k
   ·rw[if_pos ⟨q2,q⟩]
    refine⟨vQ h.nd,?_,fun x hx=>?_⟩
    ·rw[oX h.nd,if_pos q2.symm];cases r.dW<;>rfl
    ·rw[oX h.nd,if_pos q2.symm]at hx
     cases ht:r.dW with
     |true=>rw[ht]at hx;cases hx
     |false=>rw[ht]at hx;cases hx;rfl
   ·rw[if_neg (fun e=>q2 e.1)]
    refine⟨vQ h.nd,?_,fun x hx=>?_⟩
    ·rw[oX h.nd,if_neg (fun e=>q2 e.symm)];exact h.is
    ·rw[oX h.nd,if_neg (fun e=>q2 e.symm)]at hx;exact h.kv x hx
  ·rw[if_neg q,if_neg (fun e=>q e.2)];exact h
theorem Ce(k:List Nat)(m:Nat)(L:List Rec):pZ k m L=(gu k (dg m L),(dP k (dg m L)).isSome):=by
 have h:=FiV.fold (k:=k) (m:=m) L (wE,false) [] ⟨List.nodup_nil,rfl,fun r h=>by cases h⟩;obtain⟨nd,is,kv⟩:=h;have es:jx k m L=L.foldl (fun s r=>if r.kv.key=k∧r.main≤m then(r.kv, !r.dW)else s) (wE,false):=rfl;have ea:dg m L=L.foldl (fun W r=>if r.main≤m then fw W r else W) []:=rfl;rw[←es,←ea]at is;rw[←es,←ea]at kv;unfold pZ;rw[is];unfold gu;cases q:dP k (dg m L)with
 |none=>rfl
 |some r=>rw[kv r q];rfl
theorem sJ:∀a b:List Nat,cE a b=true↔a<b
 |_,[]=>by simp[cE]
 |[],y::b=>by simp[cE]
 | x::a,y::b=>by
  have ih:=sJ a b;simp only[cE];rw[List.cons_lt_cons_iff];cases h:Nat.blt x y with
  |true=>
   have :x<y:=Nat.le_of_ble_eq_true h;simp[this]
  | false=>
   have hn:¬x<y:=fun e=>by rw[show Nat.blt x y=true from aL e]at h;cases h
   simp only;cases h2:Nat.beq x y with
   |true=>
    have e:=Nat.eq_of_beq_eq_true h2;subst e;simp only[ih];simp
   |false=>
    have dH:=Nat.ne_of_beq_eq_false h2;simp[hn,dH]
theorem xy(a b:List Nat):SX a b↔a≤b:=by
 unfold SX;rw[←List.not_lt,←sJ b a];simp
theorem rW{s:List Nat}:∀{l:List (List Nat)},l.Pairwise SX→(ja s l).Pairwise SX
 |[],_=>by simp[ja]
 | t::l,h=>by
  rw[aF]at h;simp only[ja];cases hc:cE t s with
  |true=>
   simp only[aF];refine⟨fun x hx=>?_,rW h.2⟩;rcases yi.1 hx with rfl|hx
   ·rw[xy];exact List.le_of_lt ((sJ _ _).1 hc)
   ·exact h.1 x hx
  |false=>
   have jV:s≤t:=(xy s t).1 hc;simp only[aF];refine⟨fun x hx=>?_,h.1,h.2⟩;rcases List.mem_cons.1 hx with rfl|hx
   ·exact hc
   ·rw[xy];exact List.le_trans jV ((xy t x).1 (h.1 x hx))
theorem pR:∀l:List (List Nat),(fJ l).Pairwise SX
 |[]=>List.Pairwise.nil
 |s::l=>rW (pR l)
def Cf(l:List KV):Prop:=l.Pairwise fun x y=>x.key<y.key
theorem UH{a b:List KV}(ha:Cf a)(hb:Cf b)(h:∀x,x∈a↔x∈b):a=b:=by
 have nd:∀l:List KV,Cf l→l.Nodup:=fun l hl=>hl.imp (fun{x y} h e=>by rw[e]at h;exact absurd h (List.lt_irrefl _));have hp:a.Perm b:=(List.perm_ext_iff_of_nodup (nd a ha) (nd b hb)).2 h;refine List.Perm.eq_of_pairwise (le:=fun x y=>x=y∨x.key<y.key) (fun x y _ _ h1 h2=>?_) (ha.imp fun h=>.inr h) (hb.imp fun h=>.inr h) hp;rcases h1 with rfl|h1
 ·rfl
 ·rcases h2 with rfl|h2
  ·rfl
  ·exact absurd (aQ h1 h2) (List.lt_irrefl _)
theorem vT{k:List Nat}{W:View}{r:Rec}(h:dP k W=some r):(k,r)∈W:=by
 unfold dP at h;obtain⟨p,hp,e⟩:=Option.map_eq_some_iff.1 h;have h1:=List.find?_some hp;have h2:=List.mem_of_find?_eq_some hp;have :p.1=k:=(of_decide_eq_true h1).symm;rw[←this,←e];exact h2
theorem jQ{k:List Nat}{W:View}:(dP k W).isSome=true↔k∈W.map (·.1):=by
 constructor
 ·intro h
  obtain⟨r,hr⟩:=Option.isSome_iff_exists.1 h;exact List.mem_map.2 ⟨_,vT hr,rfl⟩
 ·intro h
  by_cases q:(dP k W).isSome=true
  ·exact q
  ·exfalso
   have :dP k W=none:=by simpa using q
   unfold dP at this;rw[Option.map_eq_none_iff,List.find?_eq_none]at this;obtain⟨p,hp,e⟩:=List.mem_map.1 h;have:=this p hp;simp[←e]at this
theorem mK{k:List Nat}{W:View}(v:qD W)(h:k∈W.map (·.1)):(gu k W).key=k:=by
 obtain⟨r,hr⟩:=Option.isSome_iff_exists.1 (jQ.2 h);unfold gu;rw[hr];exact(v.ky _ (vT hr)).1
theorem IY{W:View}(v:qD W)(key fin:List Nat):Cf (ny W key fin):=by
 unfold ny Cf;rw[List.pairwise_map];have hs:=pR (W.map (·.1));have hp:=fe (W.map (·.1));have nd:(fJ (W.map (·.1))).Nodup:=hp.nodup_iff.2 v.nd;have h2:(fJ (W.map (·.1))).Pairwise (fun a b=>a<b):=(hs.and nd).imp fun{a b} h=>by
  have h1:=(xy a b).1 h.1;exact Std.lt_of_le_of_ne h1 h.2
 have h3:=(h2.filter (fun k=>fL k key fin));refine h3.imp_of_mem fun{a b} ha hb h=>?_;have ma:a∈W.map (·.1):=hp.mem_iff.1 ((List.mem_filter.1 ha).1);have mb:b∈W.map (·.1):=hp.mem_iff.1 ((List.mem_filter.1 hb).1);rw[mK v ma,mK v mb];exact h
theorem Gc{W:View}(key fin:List Nat)(x:KV):x∈ny W key fin↔∃k,k∈W.map (·.1)∧fL k key fin=true∧x=gu k W:=by
 unfold ny;rw[List.mem_map];constructor
 ·rintro⟨k,hk,rfl⟩
  rw[List.mem_filter]at hk;exact⟨k,(fe _).mem_iff.1 hk.1,hk.2,rfl⟩
 ·rintro⟨k,hk,hl,rfl⟩
  exact⟨k,List.mem_filter.2 ⟨(fe _).mem_iff.2 hk,hl⟩,rfl⟩
theorem IZ{k:List Nat}:∀{l:List KV}{a:KV},a∈l.take (vN k l)→a.key<k
 |[],a,h=>by simp at h
 | y::l,a,h=>by
  unfold vN at h;split at h
  ·rename_i q
   rw[List.take_succ_cons,aP]at h;rcases h with rfl|h
   ·exact(sJ _ _).1 q
   ·exact IZ h
  ·simp at h
theorem Cg{k:List Nat}:∀{l:List KV},Cf l→∀{b:KV},b∈l.drop (vN k l)→k≤b.key∧(mv k l=false→k<b.key)
 |[],_,b,h=>by simp at h
 | y::l,hr,b,h=>by
  have Ny:=List.pairwise_cons.1 hr;unfold vN at h;split at h
  ·rename_i q
   rw[List.drop_succ_cons]at h;have ih:=Cg (k:=k) (l:=l) Ny.2 h;refine⟨ih.1,fun hs=>ih.2 ?_⟩;unfold mv at hs ⊢;have e:vN k (y::l)=vN k l+1:=by conv =>lhs;unfold vN;rw[if_pos q]
   rw[e,List.getElem?_cons_succ]at hs;exact hs
  ·rename_i q
   rw[aN]at h;have hy:k≤y.key:=by rw[←List.not_lt,←sJ];exact q
   have e:vN k (y::l)=0:=by conv =>lhs;unfold vN;rw[if_neg q]
   have hyk:mv k (y::l)=false→k<y.key:=fun hs=>by
    unfold mv at hs;rw[e,List.getElem?_cons_zero]at hs;exact Std.lt_of_le_of_ne hy (fun h=>by simp[h]at hs)
   rcases List.mem_cons.1 h with rfl|h
   ·exact⟨hy,hyk⟩
   ·have:=Ny.1 b h
    exact⟨List.le_of_lt (Std.lt_of_le_of_lt hy this),fun hs=>aQ (hyk hs) this⟩
theorem Ot{x:KV}{l:List KV}(hr:Cf l):Cf (xq x x.key l):=by
 unfold xq;cases hs:mv x.key l with
 |true=>rw[if_pos rfl];exact hr
 |false=>
  rw[if_neg (by simp)];unfold Cf;rw[List.pairwise_append,aF];refine⟨hr.sublist (List.take_sublist _ _),⟨fun b hb=>(Cg hr hb).2 hs,hr.sublist (List.drop_sublist _ _)⟩,fun a ha b hb=>?_⟩;have h1:=IZ ha;rcases List.mem_cons.1 hb with rfl|hb
  ·exact h1
  ·exact aQ h1 ((Cg hr hb).2 hs)
theorem RI{x:KV}{l:List KV}(hs:mv x.key l=false)(y:KV):y∈xq x x.key l↔y=x∨y∈l:=by
 unfold xq;rw[if_neg (by simp[hs]),List.mem_append,aP];have e:y∈l↔y∈l.take (vN x.key l)∨y∈l.drop (vN x.key l):=by rw[←List.mem_append,List.take_append_drop]
 rw[e];constructor
 ·rintro(h|h|h)
  ·exact .inr (.inl h)
  ·exact .inl h
  ·exact .inr (.inr h)
 ·rintro(h|h|h)
  ·exact .inr (.inl h)
  ·exact .inl h
  ·exact .inr (.inr h)
theorem Ou{k:List Nat}{l:List KV}(hs:mv k l=true):∃y,y∈l∧y.key=k:=by
 unfold mv at hs;split at hs
 ·rename_i y hy
  exact⟨y,aJ hy,of_decide_eq_true hs⟩
 ·cases hs
structure UI(W:View)(key fin:List Nat)(M:List Rec)(out:List KV):Prop where
 ZF:Cf out
 mem:∀x,x∈out↔∃r,r∈M∧(dP r.kv.key W).isSome=true∧fL r.kv.key key fin=true∧x=gu r.kv.key W
theorem RJ{L:List Rec}{key fin:List Nat}{main:Nat}{M:List Rec}{out:List KV}(v:qD (dg main L))(h:UI (dg main L) key fin M out)(r:Rec):UI (dg main L) key fin (M++[r]) (dV L key fin main out r):=by
 unfold dV;rw[Ce];simp only;have nomem:((dP r.kv.key (dg main L)).isSome&&fL r.kv.key key fin)=false→∀x,(x∈out↔∃r',r'∈M++[r]∧(dP r'.kv.key (dg main L)).isSome=true∧fL r'.kv.key key fin=true∧x=gu r'.kv.key (dg main L)):=fun hf x=>by
  rw[h.mem];constructor
  ·rintro⟨r',h1,h2⟩
   exact⟨r',by simp[h1],h2⟩
  ·rintro⟨r',h1,h2,h3,h4⟩
   rcases List.mem_append.1 h1 with q|q
   ·exact⟨r',q,h2,h3,h4⟩
   ·rw[aE]at q;subst q
    rw[h2,h3]at hf;cases hf
 cases hc:((dP r.kv.key (dg main L)).isSome&&fL r.kv.key key fin)with
 |false=>rw[if_neg (by simp)];exact⟨h.ZF,nomem hc⟩
 | true=>
  rw[if_pos rfl];rw[Bool.and_eq_true]at hc;have hk:=mK v (jQ.1 hc.1);have hr:=Ot (x:=gu r.kv.key (dg main L)) h.ZF;rw[hk]at hr;refine⟨hr,fun x=>?_⟩;cases hs:mv r.kv.key out with
  | true=>
   have e:xq (gu r.kv.key (dg main L)) r.kv.key out=out:=by unfold xq;rw[hs];rfl
   rw[e,h.mem];constructor
   ·rintro⟨r',h1,h2⟩
    exact⟨r',by simp[h1],h2⟩
   ·rintro⟨r',h1,h2,h3,h4⟩
    rcases List.mem_append.1 h1 with q|q
    ·exact⟨r',q,h2,h3,h4⟩
    ·rw[aE]at q;subst q
     obtain⟨y,hy,hyk⟩:=Ou hs;obtain⟨r2,g1,g2,g3,g4⟩:=(h.mem y).1 hy;have :r2.kv.key=r'.kv.key:=by rw[←hyk,g4,mK v (jQ.1 g2)]
     exact⟨r2,g1,g2,g3,by rw[h4,this]⟩
  | false=>
   have hm:=RI (x:=gu r.kv.key (dg main L)) (l:=out) (by rw[hk];exact hs) x;rw[hk]at hm;rw[hm,h.mem];constructor
   ·rintro(rfl|⟨r',h1,h2⟩)
    ·exact⟨r,by simp,hc.1,hc.2,rfl⟩
    ·exact⟨r',by simp[h1],h2⟩
   ·rintro⟨r',h1,h2,h3,h4⟩
    rcases List.mem_append.1 h1 with q|q
    ·exact .inr ⟨r',q,h2,h3,h4⟩
    ·rw[aE]at q;subst q;exact .inl h4
theorem MJ{L:List Rec}{key fin:List Nat}{main:Nat}(v:qD (dg main L)):∀(M M0:List Rec)(out:List KV),UI (dg main L) key fin M0 out→UI (dg main L) key fin (M0++M) (M.foldl (dV L key fin main) out)
 |[],M0,out,h=>by rw[ao];exact h
 |r::M,M0,out,h=>by
  rw[az,show M0++r::M=(M0++[r])++M by simp];exact MJ v M _ _ (RJ v h r)
theorem EP{main:Nat}:∀(L:List Rec)(W:View)(M:List Rec),(∀k,k∈W.map (·.1)→∃r,r∈M∧r.kv.key=k)→∀k,k∈(L.foldl (fun W r=>if r.main≤main then fw W r else W) W).map (·.1)→∃r,r∈M++L∧r.kv.key=k
 |[],W,M,h,k,hk=>by rw[ao];exact h k hk
 | r ::L,W,M,h,k,hk=>by
  rw[az]at hk;have:=EP L (if r.main≤main then fw W r else W) (M++[r]) (fun k hk=>by
   split at hk
   ·obtain⟨p,hp,rfl⟩:=List.mem_map.1 hk
    rcases B_ hp with rfl|q
    ·exact⟨r,by simp,rfl⟩
    ·obtain⟨r2,g1,g2⟩:=h p.1 (List.mem_map.2 ⟨p,q,rfl⟩)
     exact⟨r2,by simp[g1],g2⟩
   ·obtain⟨r2,g1,g2⟩:=h k hk
    exact⟨r2,by simp[g1],g2⟩) k hk
  simpa using this
theorem zB{L:List Rec}{key fin:List Nat}{main:Nat}(hs:dI L):zj L key fin main L=ny (dg main L) key fin:=by
 have v:=rQ (main:=main) hs;have h:=MJ (key:=key) (fin:=fin) v L [] [] ⟨List.Pairwise.nil,fun x=>by simp⟩;rw[aD]at h;refine UH h.ZF (IY v key fin) fun x=>?_;have hm:=h.mem x;refine hm.trans ?_;rw[Gc];constructor
 ·rintro⟨r,-,h2,h3,h4⟩
  exact⟨_,jQ.1 h2,h3,h4⟩
 ·rintro⟨k,hk,hl,hx⟩
  obtain⟨r,hr,rfl⟩:=EP (main:=main) L [] [] (fun k hk=>by simp at hk) k hk;rw[aD]at hr;exact⟨r,hr,jQ.2 hk,hl,hx⟩
end
end Go.Proofs.YtnedigoajoflaaaGreat.M
namespace Go.Proofs.YtnedigoajoflaaaGreat.M
open Go Go.AX
noncomputable section
set_option maxRecDepth 100000
structure zC(h0 h:H)(b b3 b4 b5:Nat)(L:List Rec)(rev comp:Nat)(v:AV)(rq:List AV)(err:Nat)(tk:Bool)(dE:AV):Prop where
 s:jM h b L rev comp v [] .bh 0
 q:bj h b3 0 rq
 a:bj h b5 0 (cM err rev comp tk dE)
 w5:cj h b5=true
 oo:Og h0 h [b5]
 l3:b3<h.nx
 l5:b5<h.nx
 n3:b3≠b5
 n5:b≠b5
 WS:∀c,bA v=some c→c≠b5
 a4:bj h b4 0 (cM 0 0 0 false .bh)
 w4:cj h b4=true
 l4:b4<h.nx
 n4:b4≠b5
theorem zC.bU{h0 h h':H}{b b3 b4 b5 rev comp err:Nat}{L:List Rec}{v dE:AV}{rq:List AV}{tk:Bool}(d:zC h0 h b b3 b4 b5 L rev comp v rq err tk dE)(o:Og h h' []):zC h0 h' b b3 b4 b5 L rev comp v rq err tk dE:=
 ⟨d.s.bU o,gC d.q o d.l3 (by simp),gC d.a o d.l5 (by simp),kw d.w5 o d.l5 (by simp),⟨⟨Nat.le_trans d.oo.1.1 o.1.1,fun c hc hn=>(o.1.2 c (aq hc d.oo.1.1) (by simp)).trans (d.oo.1.2 c hc hn)⟩,o.2.trans d.oo.2⟩,aq d.l3 o.1.1,aq d.l5 o.1.1,d.n3,d.n5,d.WS,gC d.a4 o d.l4 (by simp),kw d.w4 o d.l4 (by simp),aq d.l4 o.1.1,d.n4⟩
theorem zC.put{h0 h:H}{b b3 b4 b5 rev comp err:Nat}{L:List Rec}{v dE:AV}{rq:List AV}{tk:Bool}(d:zC h0 h b b3 b4 b5 L rev comp v rq err tk dE)(e2:Nat):zC h0 (h.cm b5 0 [.int .i64 (.ofNat e2)]) b b3 b4 b5 L rev comp v rq e2 tk dE:=by
 have k:∀c,c≠b5→(h.cm b5 0 [.int .i64 (.ofNat e2)]).t.get c=h.t.get c:=fun c hc=>bT _ _ _ _ hc;have A:=d.a.put d.w5 (j:=0) (by simp[cM]) (.int .i64 (.ofNat e2));rw[al]at A;exact⟨⟨by rw[bI];exact d.s.lt,d.s.c.bG (k b d.n5),by rw[bC (k b d.n5)];exact d.s.wr,d.s.gv.bG (by rw[bI];exact aA _) (fun c e=>k c (d.WS c e)),.none,.inl ⟨.inl rfl,rfl,rfl⟩,d.s.nv,d.s.ns⟩,d.q.bG (k b3 d.n3),A,by rw[bN];exact d.w5,d.oo.cm (.inl (by simp)),by rw[bI];exact d.l3,by rw[bI];exact d.l5,d.n3,d.n5,d.WS,d.a4.bG (k b4 d.n4),by rw[bC (k b4 d.n4)];exact d.w4,by rw[bI];exact d.l4,d.n4⟩
structure DcI(h0:H)(b b3 b4 b5:Nat)(L:List Rec)(rev comp:Nat)(v:AV)(rq:List AV)(cs:List iD)(m:Nat)(ds:List Nat)(tm:T AV)(h:H)(i:Nat):Prop where
 ds:ds=[]
 nn:m=cs.length-i
 ii:i≤cs.length
 t0:tm.get 0=some (.ptr b 0)
 t3:tm.get 3=some (.ptr b3 0)
 t4:tm.get 4=some (.ptr b4 0)
 t5:tm.get 5=some (.ptr b5 0)
 t6:tm.get 6=some (.bool ((cs.take i).all fun c=> !jm (dg rev L) c))
 t7:tm.get 7=some (.int .i64 (.ofNat i))
 hh:zC h0 h b b3 b4 b5 L rev comp v rq 0 false .bh
theorem RK(h0 h1:H)(b b3 b4 b5:Nat)(L:List Rec)(rev comp:Nat)(v:AV)(r:Rq)(vc vt ve:AV)(hh:zC h0 h1 b b3 b4 b5 L rev comp v (r.cs vc vt ve) 0 false .bh)(sc:br h0 vc r.eO.length (r.eO.flatMap iD.cs))(hz:r.eO.length≤1000000)(JC:L.length≤1000000)(nb:∀c,bA vc=some c→c≠b5)
  (tm:T AV)(t0:tm.get 0=some (.ptr b 0))(t3:tm.get 3=some (.ptr b3 0))(t4:tm.get 4=some (.ptr b4 0))(t5:tm.get 5=some (.ptr b5 0))(t6:tm.get 6=some (.bool true))(K:KQ)
  (hN:∀bZ h2,bZ.get 0=some (.ptr b 0)→bZ.get 3=some (.ptr b3 0)→bZ.get 4=some (.ptr b4 0)→bZ.get 5=some (.ptr b5 0)→bZ.get 6=some (.bool (!r.eO.any (jm (dg rev L))))→zC h0 h2 b b3 b4 b5 L rev comp v (r.cs vc vt ve) 0 false .bh→K .norm [] bZ h2):
  bB P 26 276 none (bL (bD Tryz.f26) [0,1,1,1,1,1,1]) [] tm h1 K:=by
 have hlen:=sc.len (P:=P) Oi;have vo:=cH sc;refine rN ?_ (V t0<|V t3<|V t4<|V t5<|t6);refine cn (fun m ds tm h=>∃i,DcI h0 b b3 b4 b5 L rev comp v (r.cs vc vt ve) r.eO m ds tm h i) r.eO.length rfl ⟨0,rfl,rfl,aG _,by simp only[B,xB,F,ab,ae,af,ag,ah,ai, ↓reduceIte,eq_self,t0],by simp only[B,xB,F,ab,ae,af,ag,ah,ai, ↓reduceIte,eq_self,t3],by simp only[B,xB,F,ab,ae,af,ag,ah,ai, ↓reduceIte,eq_self,t4],by simp only[B,xB,F,ab,ae,af,ag,ah,ai, ↓reduceIte,eq_self,t5],by simp only[B,xB,F,ab,ae,af,ag,ah,ai, ↓reduceIte,eq_self,t6];rfl,by simp only[B,xB,F,ab,ae,af,ag,ah,ai, ↓reduceIte,eq_self],hh⟩ (fun m ds tm h hI=>?_);clear t0 t3 t4 t5 t6 hh;obtain⟨i,rfl,rfl,ii,t0,t3,t4,t5,t6,t7,hh⟩:=hI;obtain⟨y0,y1,y2,y3,y4,y5,y6,y7⟩:=hh.q.u8;by_cases hi:i<r.eO.length
 ·have di:decide (i<r.eO.length)=true:=decide_eq_true hi
  have dX:(i<r.eO.length)=True:=by simp[hi]
  obtain⟨x,hx⟩:∃x,r.eO[i]? =some x:=⟨_,aw hi⟩;have jk:=br.only hh.oo.1 sc (fun c e=>by simp;exact nb c e);obtain⟨bv,ov,cv,rfl,qw,-⟩:=jk.place (by omega);obtain⟨q0,q1,q2,q3,q4⟩:=iD.at jk hx;have w1:bV .i64 (ak i+ak 1)=ak (i+1):=cq (by omega);obtain⟨c0,c1,c2,c3,c4,c5,c6,c7⟩:=hh.s.c.u8;obtain⟨Ls,cC⟩:∃Ls,Ls=h.bq 83 [.str [],.str [],.int .u64 (.ofNat 0),.int .u64 (.ofNat 0),.int .u64 (.ofNat 0)]:=⟨_,rfl⟩;have o1:Og h Ls []:=by rw[cC];exact(Og.refl _ _).new _ _
  have x1:Ls.nx=h.nx+1:=by rw[cC];rfl
  have D1:=hh.bU o1;have Z1:bj Ls h.nx 0 [.str [],.str [],.int .u64 (.ofNat 0),.int .u64 (.ofNat 0),.int .u64 (.ofNat 0)]:=by rw[cC];exact bj.new _ _ _
  have wz1:cj Ls h.nx=true:=by rw[cC];exact lu _ _ _
  obtain⟨c0a,c1a,-⟩:=D1.s.c.u8;obtain⟨y0a,y1a,y2a,y3a,y4a,y5a,y6a,y7a⟩:=D1.q.u8;have sl1:=br.only o1.1 jk (fun _ _=>by simp);obtain⟨q0a,q1a,q2a,q3a,q4a⟩:=iD.at sl1 hx;have n1:(b3=h.nx)=False:=by have:=hh.l3;simp;omega
  have n2:(b=h.nx)=False:=by have:=hh.s.lt;simp;omega
  have n3:(bv=h.nx)=False:=by have:=gz jk bv rfl;simp;omega
  have Xq:h_ 83 [.str [],.str [],.int .u64 (.ofNat 0),.int .u64 (.ofNat 0),.int .u64 (.ofNat 0)] (Ls.t.get h.nx)=true:=by rw[cC];exact bX (by kernel_rfl)
  repeat' (first|((with_reducible refine gh ?_);(conv =>whnf);(with_reducible refine⟨?_⟩))|((with_reducible refine cV jC ?_ rfl rfl ?_);exact rfl;(conv =>arg 4;whnf);(conv =>arg 3;whnf))|((with_reducible refine cV jD ?_ rfl rfl ?_);exact rfl;(conv =>arg 4;whnf);(conv =>arg 3;whnf))|((with_reducible refine cV jE ?_ rfl rfl ?_);exact rfl;(conv =>arg 4;whnf);(conv =>arg 3;whnf))|((with_reducible refine fh ?_ rfl rfl ?_ ?_);exact rfl;kernel_rfl;(conv =>arg 5;whnf);(conv =>arg 3;whnf))|((with_reducible refine bE rfl ?_);(conv =>arg 2;whnf))|((with_reducible first|refine iB ?_ ?_|refine g_ ?_ ?_|refine hP ?_ ?_|refine pL ?_ ?_|refine pM ?_ ?_)<;>intro hb<;>(try simp only[hb]))|((with_reducible show dh _ _ _ _ _ _ _ _ _);first|((with_reducible apply gM);exact rfl;exact rfl)|((with_reducible apply gN);exact rfl;exact rfl;exact rfl)|((with_reducible apply gP);exact rfl;exact rfl;kernel_rfl)|((with_reducible apply gQ);exact rfl;exact rfl;exact rfl)|((with_reducible apply gT);exact rfl;exact rfl;exact rfl)|((with_reducible apply gR);exact rfl;exact rfl;kernel_rfl;exact rfl)|((with_reducible apply gS);exact rfl;exact rfl;kernel_rfl;exact rfl)|((with_reducible refine gL ?_ ?_)))|((with_reducible show cU _ _ _ _ _ _ _ _ _);first|((with_reducible refine fj ?_ ?_);exact rfl)|((with_reducible apply fm);exact rfl;exact rfl)|((with_reducible refine fo ?_ ?_ ?_);exact rfl;kernel_rfl)|((with_reducible apply fp);exact rfl;exact rfl)|((with_reducible refine fq ?_ ?_ ?_ ?_ ?_);exact rfl;kernel_rfl;exact rfl)|((with_reducible apply ft);exact rfl;kernel_rfl;exact rfl)|((with_reducible refine fi ?_ ?_)))|((with_reducible show il _ _ _ _ _ _);first|(exact cK)|(refine eB ?_ ?_ ?_;exact rfl)|(apply eC;exact rfl;exact rfl)|(refine eD ?_ ?_ ?_ ?_;exact rfl;kernel_rfl)|(apply eF;exact rfl)|(apply eE;exact rfl;exact rfl))|((with_reducible refine bX ?_);kernel_rfl)|(simp only[B,xB,F,ab,ae,af,ag,ah,ai, ↓reduceIte,eq_self,t0,t3,t4,t5,t6,t7,y4,hlen,vo,di,dX,q0,c0,c1,←cC,c0a,c1a,y4a,q0a,Xq]))
  refine((Q9 Ls v L x.key rev D1.s.gv.slice JC).call P).mono P ?_;rintro _ h2 ⟨rfl,o2⟩;have D2:=D1.bU o2;have e2:=Ce x.key rev L;obtain⟨kv,sQ⟩:∃kv,kv=gu x.key (dg rev L):=⟨_,rfl⟩;obtain⟨is,his⟩:∃is,is=(dP x.key (dg rev L)).isSome:=⟨_,rfl⟩;rw[e2,←sQ,←his];simp only;have efs:jm (dg rev L) x= !kj x kv is:=by unfold jm;rw[sQ,his]
  have wT:((r.eO.take (i+1)).all fun c=> !jm (dg rev L) c)=(((r.eO.take i).all fun c=> !jm (dg rev L) c)&&kj x kv is):=by
   rw[List.take_add_one,hx,List.all_append];simp[efs]
  have x2:=o2.1.1;have fr2:h_ 83 [.str [],.str [],.int .u64 (.ofNat 0),.int .u64 (.ofNat 0),.int .u64 (.ofNat 0)] (h2.t.get h.nx)=true:=by rw[o2.1.2 h.nx (by omega) (by simp)];exact Xq
  obtain⟨u0,u1,u2,u3,u4⟩:=(gC Z1 o2 (by omega) (by simp)).u5;have wz2:=kw wz1 o2 (by omega) (by simp);obtain⟨h3,cB⟩:∃h3,h3=h2.cm h.nx 0 [.str kv.key,.str kv.val,.int .u64 (.ofNat kv.iC),.int .u64 (.ofNat kv.mod),.int .u64 (.ofNat kv.im)]:=⟨_,rfl⟩;have K3:bj h3 h.nx 0 [.str kv.key,.str kv.val,.int .u64 (.ofNat kv.iC),.int .u64 (.ofNat kv.mod),.int .u64 (.ofNat kv.im)]:=by rw[cB];exact bj.cm wz2 _
  obtain⟨z0,z1,z2,z3,z4⟩:=K3.u5;have o3:Og h h3 []:=by rw[cB];exact(o1.t o2).cm (.inr (aA _))
  have x3:h3.nx=h2.nx:=by rw[cB,bI]
  have D3:=hh.bU o3;obtain⟨WQ,ZG,-⟩:=D2.s.c.u8;obtain⟨y0',y1',y2',y3',y4',WE,On,y7'⟩:=D2.q.u8;have Rj:=br.only o2.1 sl1 (fun _ _=>by simp);obtain⟨RL,UJ,UK,UL,q4'⟩:=iD.at Rj hx;obtain⟨p0,p1,p2,p3,p4,p5,p6,p7⟩:=D3.q.u8;have sl3:=br.only o3.1 jk (fun _ _=>by simp);obtain⟨s0,s1,s2,s3,s4⟩:=iD.at sl3 hx;unfold KV.cs;cases Gv:(r.eO.take i).all fun c=> !jm (dg rev L) c with
  |false=>
   rw[Gv]at t6 wT;repeat' (first|((with_reducible refine gh ?_);(conv =>whnf);(with_reducible refine⟨?_⟩))|((with_reducible refine cV jC ?_ rfl rfl ?_);exact rfl;(conv =>arg 4;whnf);(conv =>arg 3;whnf))|((with_reducible refine cV jD ?_ rfl rfl ?_);exact rfl;(conv =>arg 4;whnf);(conv =>arg 3;whnf))|((with_reducible refine cV jE ?_ rfl rfl ?_);exact rfl;(conv =>arg 4;whnf);(conv =>arg 3;whnf))|((with_reducible refine fh ?_ rfl rfl ?_ ?_);exact rfl;kernel_rfl;(conv =>arg 5;whnf);(conv =>arg 3;whnf))|((with_reducible refine bE rfl ?_);(conv =>arg 2;whnf))|((with_reducible first|refine iB ?_ ?_|refine g_ ?_ ?_|refine hP ?_ ?_|refine pL ?_ ?_|refine pM ?_ ?_)<;>intro hb<;>(try simp only[hb]))|((with_reducible show dh _ _ _ _ _ _ _ _ _);first|((with_reducible apply gM);exact rfl;exact rfl)|((with_reducible apply gN);exact rfl;exact rfl;exact rfl)|((with_reducible apply gP);exact rfl;exact rfl;kernel_rfl)|((with_reducible apply gQ);exact rfl;exact rfl;exact rfl)|((with_reducible apply gT);exact rfl;exact rfl;exact rfl)|((with_reducible apply gR);exact rfl;exact rfl;kernel_rfl;exact rfl)|((with_reducible apply gS);exact rfl;exact rfl;kernel_rfl;exact rfl)|((with_reducible refine gL ?_ ?_)))|((with_reducible show cU _ _ _ _ _ _ _ _ _);first|((with_reducible refine fj ?_ ?_);exact rfl)|((with_reducible apply fm);exact rfl;exact rfl)|((with_reducible refine fo ?_ ?_ ?_);exact rfl;kernel_rfl)|((with_reducible apply fp);exact rfl;exact rfl)|((with_reducible refine fq ?_ ?_ ?_ ?_ ?_);exact rfl;kernel_rfl;exact rfl)|((with_reducible apply ft);exact rfl;kernel_rfl;exact rfl)|((with_reducible refine fi ?_ ?_)))|((with_reducible show il _ _ _ _ _ _);first|(exact cK)|(refine eB ?_ ?_ ?_;exact rfl)|(apply eC;exact rfl;exact rfl)|(refine eD ?_ ?_ ?_ ?_;exact rfl;kernel_rfl)|(apply eF;exact rfl)|(apply eE;exact rfl;exact rfl))|((with_reducible refine bX ?_);kernel_rfl)|(simp only[B,xB,F,ab,ae,af,ag,ah,ai, ↓reduceIte,eq_self,t0,t3,t4,t5,t6,t7,y4,y4',hlen,vo,dX,RL,WQ,ZG,u0,u1,u2,u3,u4,wz2,fr2,←cB,w1]))
   exact⟨r.eO.length-(i+1),by omega,i+1,rfl,rfl,by omega,by exact sT,by exact sT,by exact sT,by exact sT,by rw[wT];simp only[B,xB,F,ab,ae,af,ag,ah,ai, ↓reduceIte,eq_self,Bool.false_and],by exact sT,D3⟩
  |true=>
   rw[Gv]at t6 wT;repeat' (first|((with_reducible refine gh ?_);(conv =>whnf);(with_reducible refine⟨?_⟩))|((with_reducible refine cV jC ?_ rfl rfl ?_);exact rfl;(conv =>arg 4;whnf);(conv =>arg 3;whnf))|((with_reducible refine cV jD ?_ rfl rfl ?_);exact rfl;(conv =>arg 4;whnf);(conv =>arg 3;whnf))|((with_reducible refine cV jE ?_ rfl rfl ?_);exact rfl;(conv =>arg 4;whnf);(conv =>arg 3;whnf))|((with_reducible refine fh ?_ rfl rfl ?_ ?_);exact rfl;kernel_rfl;(conv =>arg 5;whnf);(conv =>arg 3;whnf))|((with_reducible refine bE rfl ?_);(conv =>arg 2;whnf))|((with_reducible first|refine iB ?_ ?_|refine g_ ?_ ?_|refine hP ?_ ?_|refine pL ?_ ?_|refine pM ?_ ?_)<;>intro hb<;>(try simp only[hb]))|((with_reducible show dh _ _ _ _ _ _ _ _ _);first|((with_reducible apply gM);exact rfl;exact rfl)|((with_reducible apply gN);exact rfl;exact rfl;exact rfl)|((with_reducible apply gP);exact rfl;exact rfl;kernel_rfl)|((with_reducible apply gQ);exact rfl;exact rfl;exact rfl)|((with_reducible apply gT);exact rfl;exact rfl;exact rfl)|((with_reducible apply gR);exact rfl;exact rfl;kernel_rfl;exact rfl)|((with_reducible apply gS);exact rfl;exact rfl;kernel_rfl;exact rfl)|((with_reducible refine gL ?_ ?_)))|((with_reducible show cU _ _ _ _ _ _ _ _ _);first|((with_reducible refine fj ?_ ?_);exact rfl)|((with_reducible apply fm);exact rfl;exact rfl)|((with_reducible refine fo ?_ ?_ ?_);exact rfl;kernel_rfl)|((with_reducible apply fp);exact rfl;exact rfl)|((with_reducible refine fq ?_ ?_ ?_ ?_ ?_);exact rfl;kernel_rfl;exact rfl)|((with_reducible apply ft);exact rfl;kernel_rfl;exact rfl)|((with_reducible refine fi ?_ ?_)))|((with_reducible show il _ _ _ _ _ _);first|(exact cK)|(refine eB ?_ ?_ ?_;exact rfl)|(apply eC;exact rfl;exact rfl)|(refine eD ?_ ?_ ?_ ?_;exact rfl;kernel_rfl)|(apply eF;exact rfl)|(apply eE;exact rfl;exact rfl))|((with_reducible refine bX ?_);kernel_rfl)|(simp only[B,xB,F,ab,ae,af,ag,ah,ai, ↓reduceIte,eq_self,t0,t3,t4,t5,t6,t7,y4,y4',hlen,vo,dX,RL,WQ,ZG,u0,u1,u2,u3,u4,wz2,fr2,←cB,p4,s0,s1,s2,s3,s4,z0,z1,z2,z3,z4]))
   refine((Uk h3 x kv is).call P).mono P ?_;rintro _ h4 ⟨rfl,o4⟩;have D4:=D3.bU o4;obtain⟨UM,PE,UN,UO,p4',p5',p6',p7'⟩:=D4.q.u8;have sl4:=br.only o4.1 sl3 (fun _ _=>by simp);obtain⟨s0',s1',s2',s3',s4'⟩:=iD.at sl4 hx;obtain⟨z0',z1',z2',z3',z4'⟩:=(gC (bj.m5 z0 z1 z2 z3 z4) o4 (by omega) (by simp)).u5;repeat' (first|((with_reducible refine gh ?_);(conv =>whnf);(with_reducible refine⟨?_⟩))|((with_reducible refine cV jC ?_ rfl rfl ?_);exact rfl;(conv =>arg 4;whnf);(conv =>arg 3;whnf))|((with_reducible refine cV jD ?_ rfl rfl ?_);exact rfl;(conv =>arg 4;whnf);(conv =>arg 3;whnf))|((with_reducible refine cV jE ?_ rfl rfl ?_);exact rfl;(conv =>arg 4;whnf);(conv =>arg 3;whnf))|((with_reducible refine fh ?_ rfl rfl ?_ ?_);exact rfl;kernel_rfl;(conv =>arg 5;whnf);(conv =>arg 3;whnf))|((with_reducible refine bE rfl ?_);(conv =>arg 2;whnf))|((with_reducible first|refine iB ?_ ?_|refine g_ ?_ ?_|refine hP ?_ ?_|refine pL ?_ ?_|refine pM ?_ ?_)<;>intro hb<;>(try simp only[hb]))|((with_reducible show dh _ _ _ _ _ _ _ _ _);first|((with_reducible apply gM);exact rfl;exact rfl)|((with_reducible apply gN);exact rfl;exact rfl;exact rfl)|((with_reducible apply gP);exact rfl;exact rfl;kernel_rfl)|((with_reducible apply gQ);exact rfl;exact rfl;exact rfl)|((with_reducible apply gT);exact rfl;exact rfl;exact rfl)|((with_reducible apply gR);exact rfl;exact rfl;kernel_rfl;exact rfl)|((with_reducible apply gS);exact rfl;exact rfl;kernel_rfl;exact rfl)|((with_reducible refine gL ?_ ?_)))|((with_reducible show cU _ _ _ _ _ _ _ _ _);first|((with_reducible refine fj ?_ ?_);exact rfl)|((with_reducible apply fm);exact rfl;exact rfl)|((with_reducible refine fo ?_ ?_ ?_);exact rfl;kernel_rfl)|((with_reducible apply fp);exact rfl;exact rfl)|((with_reducible refine fq ?_ ?_ ?_ ?_ ?_);exact rfl;kernel_rfl;exact rfl)|((with_reducible apply ft);exact rfl;kernel_rfl;exact rfl)|((with_reducible refine fi ?_ ?_)))|((with_reducible show il _ _ _ _ _ _);first|(exact cK)|(refine eB ?_ ?_ ?_;exact rfl)|(apply eC;exact rfl;exact rfl)|(refine eD ?_ ?_ ?_ ?_;exact rfl;kernel_rfl)|(apply eF;exact rfl)|(apply eE;exact rfl;exact rfl))|((with_reducible refine bX ?_);kernel_rfl)|(simp only[B,xB,F,ab,ae,af,ag,ah,ai, ↓reduceIte,eq_self,t0,t3,t4,t5,t6,t7,hlen,vo,dX,p4',s0',s1',s2',s3',s4',z0',z1',z2',z3',z4',w1]))
   exact⟨r.eO.length-(i+1),by omega,i+1,rfl,rfl,by omega,by exact sT,by exact sT,by exact sT,by exact sT,by rw[wT];simp only[B,xB,F,ab,ae,af,ag,ah,ai, ↓reduceIte,eq_self,Bool.true_and],by exact sT,D4⟩
 ·have di:decide (i<r.eO.length)=false:=decide_eq_false hi
  obtain rfl:i=r.eO.length:=by omega
  rw[aH]at t6;refine rN ?_ (V t0<|V t3<|V t4<|V t5<|V t6<|V t7<|V y4<|V hlen<|V vo<|di);have e:(r.eO.all fun c=> !jm (dg rev L) c)= !r.eO.any (jm (dg rev L)):=by
   rw[Bool.eq_iff_iff,List.all_eq_true,Bool.not_eq_true',List.any_eq_false];simp
  exact hN _ _ (by simp only[B,xB,F,ab,ae,af,ag,ah,ai, ↓reduceIte,eq_self,t0]) (by simp only[B,xB,F,ab,ae,af,ag,ah,ai, ↓reduceIte,eq_self,t3]) (by simp only[B,xB,F,ab,ae,af,ag,ah,ai, ↓reduceIte,eq_self,t4]) (by simp only[B,xB,F,ab,ae,af,ag,ah,ai, ↓reduceIte,eq_self,t5]) (by simp only[B,xB,F,ab,ae,af,ag,ah,ai, ↓reduceIte,eq_self,t6,e]) hh
structure UP(h0 h:H)(b b4 b5:Nat)(L:List Rec)(rev comp:Nat)(v:AV)(err r2:Nat)(tk:Bool)(dE:AV):Prop where
 s:jM h b L rev comp v [] .bh 0
 a4:bj h b4 0 (cM err r2 comp tk dE)
 oo:∀c,c<h0.nx→c≠b4→c≠b5→h.t.get c=h0.t.get c
 nx:h0.nx≤h.nx
 g:h.g=h0.g
theorem zC.ret{h0 h h':H}{b b3 b4 b5 rev comp err:Nat}{L:List Rec}{v dE:AV}{rq:List AV}{tk:Bool}(d:zC h0 h b b3 b4 b5 L rev comp v rq err tk dE)(e:h'=h.cm b4 0 (cM err rev comp tk dE))(hb:b≠b4)(hv:∀c,bA v=some c→c≠b4):UP h0 h' b b4 b5 L rev comp v err rev tk dE:=by
 subst e;have k:∀c,c≠b4→(h.cm b4 0 (cM err rev comp tk dE)).t.get c=h.t.get c:=fun c hc=>bT _ _ _ _ hc;exact⟨⟨by rw[bI];exact d.s.lt,d.s.c.bG (k b hb),by rw[bC (k b hb)];exact d.s.wr,d.s.gv.bG (by rw[bI];exact aA _) (fun c e=>k c (hv c e)),.none,.inl ⟨.inl rfl,rfl,rfl⟩,d.s.nv,d.s.ns⟩,bj.cm d.w4 _,fun c hc h4 h5=>by rw[k c h4];exact d.oo.1.2 c hc (by simp[h5]),by rw[bI];exact d.oo.1.1,by rw[dD];exact d.oo.2⟩
structure DwI(h0:H)(b b3 b4 b5:Nat)(L:List Rec)(rev comp:Nat)(v:AV)(rq:List AV)(tk:Bool)(l:List Op)(va:AV)(m:Nat)(ds:List Nat)(tm:T AV)(h:H)(i:Nat):Prop where
 ds:ds=[]
 nn:m=l.length-i
 ii:i≤l.length
 t0:tm.get 0=some (.ptr b 0)
 t4:tm.get 4=some (.ptr b4 0)
 t5:tm.get 5=some (.ptr b5 0)
 t6:tm.get 6=some (.bool tk)
 t10:tm.get 10=some va
 t11:tm.get 11=some (.int .i64 (.ofNat i))
 no:∀j x,j<i→l[j]? =some x→iG x rev comp=0
 hh:zC h0 h b b3 b4 b5 L rev comp v rq 0 false .bh
theorem Ov(h0 h1:H)(b b3 b4 b5:Nat)(L:List Rec)(rev comp:Nat)(v:AV)(rq:List AV)(tk:Bool)(l:List Op)(va:AV)(hh:zC h0 h1 b b3 b4 b5 L rev comp v rq 0 false .bh)(sl:br h0 va l.length (l.flatMap Op.cs))(hz:l.length≤1000000)(nb:∀c,bA va=some c→c≠b5)(hb4:b≠b4)(hv4:∀c,bA v=some c→c≠b4)(hk:∀op,op∈l→∃kd:Nat,op.kind=ak kd∧kd<3)
  (tm:T AV)(t0:tm.get 0=some (.ptr b 0))(t4:tm.get 4=some (.ptr b4 0))(t5:tm.get 5=some (.ptr b5 0))(t6:tm.get 6=some (.bool tk))(t10:tm.get 10=some va)(K:KQ)
  (hR:∀bZ h2,bZ.get 4=some (.ptr b4 0)→UP h0 h2 b b4 b5 L rev comp v (gY rev comp l) rev false .bh→gY rev comp l≠0→K .ret [] bZ h2)
  (hN:∀bZ h2,bZ.get 0=some (.ptr b 0)→bZ.get 4=some (.ptr b4 0)→bZ.get 5=some (.ptr b5 0)→bZ.get 6=some (.bool tk)→bZ.get 10=some va→zC h0 h2 b b3 b4 b5 L rev comp v rq 0 false .bh→gY rev comp l=0→K .norm [] bZ h2):
  bB P 26 276 none (bL (bD Tryz.f26) [0,1,1,1,1,1,1,1,1,1,1]) [] tm h1 K:=by
 have hlen:=sl.len (P:=P) vK;have vo:=cH sl;refine rN ?_ (V t0<|V t4<|V t5<|V t6<|t10);refine cn (fun m ds tm h=>∃i,DwI h0 b b3 b4 b5 L rev comp v rq tk l va m ds tm h i) l.length rfl ⟨0,rfl,rfl,aG _,by exact sT,by exact sT,by exact sT,by exact sT,by exact sT,by exact sT,fun j x hj=>absurd hj (by omega),hh⟩ (fun m ds tm h hI=>?_);clear t0 t4 t5 t6 t10 hh;obtain⟨i,rfl,rfl,ii,t0,t4,t5,t6,t10,t11,no,hh⟩:=hI;by_cases hi:i<l.length
 ·have di:decide (i<l.length)=true:=decide_eq_true hi
  have dX:(i<l.length)=True:=by simp[hi]
  obtain⟨x,hx⟩:∃x,l[i]? =some x:=⟨_,aw hi⟩;have jk:=br.only hh.oo.1 sl (fun c e=>by simp;exact nb c e);have slh0:=jk;obtain⟨bv,ov,cv,rfl,qw,-⟩:=jk.place (by omega);obtain⟨q0,q1,q2,q3,q4,q5,q6,q7,q8⟩:=Op.at jk hx;have w1:bV .i64 (ak i+ak 1)=ak (i+1):=cq (by omega);obtain⟨kd,qz,h3⟩:=hk x (aJ hx);rw[qz]at q0;have next:iG x rev comp=0→∀bZ h2,zC h0 h2 b b3 b4 b5 L rev comp v rq 0 false .bh→bZ.get 0=some (.ptr b 0)→bZ.get 4=some (.ptr b4 0)→bZ.get 5=some (.ptr b5 0)→bZ.get 6=some (.bool tk)→bZ.get 10=some (.slice bv ov l.length cv)→bZ.get 11=some (.int .i64 (.ofNat (i+1)))→
    ∃m,m<l.length-i∧∃i,DwI h0 b b3 b4 b5 L rev comp v rq tk l (.slice bv ov l.length cv) m [] bZ h2 i:=fun hw bZ h2 D g0 g4 g5 g6 zu g11=>
   ⟨l.length-(i+1),by omega,i+1,rfl,rfl,by omega,g0,g4,g5,g6,zu,g11,fun j y hj hy=>by
    by_cases ej:j<i
    ·exact no j y ej hy
    ·obtain rfl:j=i:=by omega
     rw[hx]at hy;cases hy;exact hw,D⟩
  by_cases k0:kd=0
  ·subst k0
   have hw:iG x rev comp=jw x.rev rev comp:=by unfold iG;rw[if_pos (by rw[qz];rfl)]
   obtain⟨c0,c1,c2,c3,c4,c5,c6,c7⟩:=hh.s.c.u8;refine rN ?_ (V t0<|V t4<|V t5<|V t6<|V t10<|V t11<|V hlen<|V vo<|V di<|V dX<|V q0<|q4);refine((Q8 h b x.rev rev comp ⟨c1,c2⟩).call P).mono P ?_;rintro _ h2 ⟨rfl,o2⟩;have D2:=hh.bU o2;rw[←hw];obtain⟨e,he⟩:∃e,e=iG x rev comp:=⟨_,rfl⟩;rw[←he];by_cases qe:e=0
   ·have de:decide (e=0)=true:=decide_eq_true qe
    refine rN ?_ (V de<|V @aO<|V t11<|w1);exact next (by rw[←he];exact qe) _ _ D2 (by exact sT) (by exact sT) (by exact sT) (by exact sT) (by exact sT) (by exact sT)
   ·have de:decide (e=0)=false:=decide_eq_false qe
    have Rj:=br.only o2.1 slh0 (fun _ _=>by simp);obtain⟨p0,p1,p2,p3,p4,p5,p6,p7,p8⟩:=Op.at Rj hx;obtain⟨WQ,ZG,c2',-⟩:=D2.s.c.u8;have ef:gY rev comp l=e:=by rw[he];exact xu hx no (by rw[←he];exact qe)
    refine rN ?_ (V de<|V @aM<|V t0<|V t4<|V t5<|V t10<|V t11<|V dX<|p4);refine((Q8 h2 b x.rev rev comp ⟨ZG,c2'⟩).call P).mono P ?_;rintro _ h3 ⟨rfl,o3⟩;have D3:=D2.bU o3;rw[←hw,←he];have D4:=D3.put e;obtain⟨h4,dm⟩:∃h4,h4=h3.cm b5 0 [.int .i64 (.ofNat e)]:=⟨_,rfl⟩;rw[←dm]at D4;obtain⟨a0,-⟩:=D3.a.u9;have w5:=D3.w5;obtain⟨b0,b1,b2,ZH,RE,UA,b6,b7,b8⟩:=D4.a.u9;obtain⟨f0,f1,f2,f3,f4,f5,f6,f7,f8⟩:=D4.a4.u9;have w4:=D4.w4;obtain⟨h5,eL⟩:∃h5,h5=h4.cm b4 0 (cM e rev comp false .bh):=⟨_,rfl⟩;have rt:=D4.ret eL hb4 hv4;unfold cM at eL;refine rN ?_ (V t5<|V t4<|V a0<|V w5<|V dm.symm<|V b0<|V b1<|V b2<|V ZH<|V RE<|V UA<|V b6<|V b7<|V b8<|V f0<|V f1<|V f2<|V f3<|V f4<|V f5<|V f6<|V f7<|V f8<|V w4<|eL.symm);exact hR _ _ (by exact sT) (by rw[ef];exact rt) (by rw[ef];exact qe)
  ·have hw:iG x rev comp=0:=by unfold iG;rw[if_neg (by rw[qz];intro h;exact k0 (Int.ofNat.inj h))]
   have dk:decide (kd=0)=false:=decide_eq_false k0;refine rN ?_ (V t0<|V t4<|V t5<|V t6<|V t10<|V t11<|V hlen<|V vo<|V di<|V dX<|V q0<|V dk<|w1);exact next hw _ _ hh (by exact sT) (by exact sT) (by exact sT) (by exact sT) (by exact sT) (by exact sT)
 ·have di:decide (i<l.length)=false:=decide_eq_false hi
  obtain rfl:i=l.length:=by omega
  refine rN ?_ (V t0<|V t4<|V t5<|V t6<|V t10<|V t11<|V hlen<|V vo<|di);exact hN _ _ (by exact sT) (by exact sT) (by exact sT) (by exact sT) (by exact sT) hh (xt fun j x hj=>no j x (List.getElem?_eq_some_iff.1 hj).1 hj)
structure OpR(hk h2:H)(jT base:Nat)(L R':List Rec)(r:nz)(wa xz k p:AV):Prop where
 z:bj h2 jT 0 (r.cs k p)
 ga:bK 8 base h2 xz (L++R').length ((L++R').flatMap Rec.cs)
 ks:br h2 k r.rM.length (r.rM.flatMap KV.cs)
 ps:br h2 p r.prev.length (r.prev.flatMap KV.cs)
 kb:∀c,bA k=some c→hk.nx≤c∧bA xz≠some c
 pb:∀c,bA p=some c→hk.nx≤c∧bA xz≠some c
 nx:hk.nx≤h2.nx
 old:∀c,c<hk.nx→c≠jT→bA wa≠some c→h2.t.get c=hk.t.get c
 nw:∀c,bA xz=some c→bA wa=some c∨hk.nx≤c
 g:h2.g=hk.g
theorem RM{m rev:Nat}{L R:List Rec}(h:m≤rev)(hR:∀x,x∈R→x.main=rev+1):dg m (L++R)=dg m L:=by
 unfold dg;rw[List.foldl_append];have :∀(R:List Rec)(W:View),(∀x,x∈R→x.main=rev+1)→R.foldl (fun W r=>if r.main≤m then fw W r else W) W=W:=by
  intro R;induction R with
  |nil=>intro W _;rfl
  |cons a R ih=>
   intro W hR;rw[az,if_neg (by have:=hR a (by simp);omega)];exact ih W fun x hx=>hR x (by simp[hx])
 exact this R _ hR
theorem op0C(hk:H)(b kn jT base:Nat)(L R:List Rec)(rev:Nat)(wa:AV)(op:Op)(Y:bj hk kn 0 op.cs)(Z:bj hk jT 0 [.bh,.bool false,.int .i64 (.ofNat 0),.int .i64 (.ofNat 0),.bh])(wz:cj hk jT=true)
  (ga:bK 8 base hk wa (L++R).length ((L++R).flatMap Rec.cs))(MK:kn<hk.nx)(O4:jT<hk.nx)(n16:kn≠jT)(na:∀c,bA wa=some c→c≠jT)(qz:op.kind=ak 0)(hs:dI (L++R))(hz:(L++R).length≤800000)(Qw:op.rev≤rev)(hR:∀x,x∈R→x.main=rev+1)
  (tm:T AV)(t12:tm.get 12=some (.int .u64 (.ofNat (rev+1))))(t13:tm.get 13=some wa)(t15:tm.get 15=some (.ptr kn 0))(t16:tm.get 16=some (.ptr jT 0))(K:KQ)
  (hK:∀bZ h2 xz k p,(∀j,j≤16→j≠13→bZ.get j=tm.get j)→bZ.get 13=some xz→OpR hk h2 jT base L (sI rev L R op).2 (sI rev L R op).1 wa xz k p→K .norm [] bZ h2):
  bB P 26 276 none (bL (bD Tryz.f26) [0,1,1,0,0,1,0,0,1,0,1,1,1,1,1,1,1,1,1,1,1,1,1,1,1]) [] tm hk K:=by
 have eo:sI rev L R op=(fM op (ny (iE rev L R op) op.key op.fin),R):=by unfold sI;rw[if_pos (by rw[qz];rfl)]
 rw[eo]at hK;obtain⟨y0,y1,y2,y3,y4,y5,y6,y7,y8⟩:=bj.u9 (show bj hk kn 0 [.int .i64 op.kind,.str op.key,.str op.fin,.str op.val,.int .u64 (.ofNat op.rev),.int .i64 op.dA,.bool op.count,.bool op.keys,.bool op.prev]from Y);have wo:=ga.one;have rest:∀m:Nat,dg m (L++R)=iE rev L R op→∀bZ:T AV,(∀j,j≤16→bZ.get j=tm.get j)→bZ.get 17=some (.int .u64 (.ofNat m))→∀K':KQ,(∀Gu h2,(∀j,j≤16→Gu.get j=tm.get j)→(∃k,OpR hk h2 jT base L R (fM op (ny (iE rev L R op) op.key op.fin)) wa wa k .bh)→K' .norm [] Gu h2)→
   bB P 26 276 none (bL (bD Tryz.f26) [1,1,0,1,0,1,0,1,1,0,0,1,0,0,1,0,1,1,1,1,1,1,1,1,1,1,1,1,1,1,1]) [] bZ hk K':=by
  intro m em bZ jr u17 K' hK';have ML:bZ.get 13=some wa:=(jr 13 (by omega)).trans t13;have WT:bZ.get 15=some (.ptr kn 0):=(jr 15 (by omega)).trans t15;have u16:bZ.get 16=some (.ptr jT 0):=(jr 16 (by omega)).trans t16;repeat' (first|((with_reducible refine gh ?_);(conv =>whnf);(with_reducible refine⟨?_⟩))|((with_reducible refine cV jC ?_ rfl rfl ?_);exact rfl;(conv =>arg 4;whnf);(conv =>arg 3;whnf))|((with_reducible refine cV jD ?_ rfl rfl ?_);exact rfl;(conv =>arg 4;whnf);(conv =>arg 3;whnf))|((with_reducible refine cV jE ?_ rfl rfl ?_);exact rfl;(conv =>arg 4;whnf);(conv =>arg 3;whnf))|((with_reducible refine fh ?_ rfl rfl ?_ ?_);exact rfl;kernel_rfl;(conv =>arg 5;whnf);(conv =>arg 3;whnf))|((with_reducible refine bE rfl ?_);(conv =>arg 2;whnf))|((with_reducible first|refine iB ?_ ?_|refine g_ ?_ ?_|refine hP ?_ ?_|refine pL ?_ ?_|refine pM ?_ ?_)<;>intro hb<;>(try simp only[hb]))|((with_reducible show dh _ _ _ _ _ _ _ _ _);first|((with_reducible apply gM);exact rfl;exact rfl)|((with_reducible apply gN);exact rfl;exact rfl;exact rfl)|((with_reducible apply gP);exact rfl;exact rfl;kernel_rfl)|((with_reducible apply gQ);exact rfl;exact rfl;exact rfl)|((with_reducible apply gT);exact rfl;exact rfl;exact rfl)|((with_reducible apply gR);exact rfl;exact rfl;kernel_rfl;exact rfl)|((with_reducible apply gS);exact rfl;exact rfl;kernel_rfl;exact rfl)|((with_reducible refine gL ?_ ?_)))|((with_reducible show cU _ _ _ _ _ _ _ _ _);first|((with_reducible refine fj ?_ ?_);exact rfl)|((with_reducible apply fm);exact rfl;exact rfl)|((with_reducible refine fo ?_ ?_ ?_);exact rfl;kernel_rfl)|((with_reducible apply fp);exact rfl;exact rfl)|((with_reducible refine fq ?_ ?_ ?_ ?_ ?_);exact rfl;kernel_rfl;exact rfl)|((with_reducible apply ft);exact rfl;kernel_rfl;exact rfl)|((with_reducible refine fi ?_ ?_)))|((with_reducible show il _ _ _ _ _ _);first|(exact cK)|(refine eB ?_ ?_ ?_;exact rfl)|(apply eC;exact rfl;exact rfl)|(refine eD ?_ ?_ ?_ ?_;exact rfl;kernel_rfl)|(apply eF;exact rfl)|(apply eE;exact rfl;exact rfl))|((with_reducible refine bX ?_);kernel_rfl)|(simp only[B,xB,F,ab,ae,af,ag,ah,ai, ↓reduceIte,eq_self,ML,WT,u16,u17,y0,y1,y2,y3,y4,y5,y6,y7,y8,wo]))
  refine((Uu hk wa (L++R) op.key op.fin m ga.slice (by omega)).call P).mono P ?_;rintro va h1 ⟨o1,g1⟩;rw[zB hs,em]at g1;have x1:=o1.1.1;have vo:=g1.one;have Y1:=gC Y o1 MK (by simp);obtain⟨z0,z1,z2,z3,z4,z5,z6,z7,z8⟩:=bj.u9 (show bj h1 kn 0 [.int .i64 op.kind,.str op.key,.str op.fin,.str op.val,.int .u64 (.ofNat op.rev),.int .i64 op.dA,.bool op.count,.bool op.keys,.bool op.prev]from Y1);repeat' (first|((with_reducible refine gh ?_);(conv =>whnf);(with_reducible refine⟨?_⟩))|((with_reducible refine cV jC ?_ rfl rfl ?_);exact rfl;(conv =>arg 4;whnf);(conv =>arg 3;whnf))|((with_reducible refine cV jD ?_ rfl rfl ?_);exact rfl;(conv =>arg 4;whnf);(conv =>arg 3;whnf))|((with_reducible refine cV jE ?_ rfl rfl ?_);exact rfl;(conv =>arg 4;whnf);(conv =>arg 3;whnf))|((with_reducible refine fh ?_ rfl rfl ?_ ?_);exact rfl;kernel_rfl;(conv =>arg 5;whnf);(conv =>arg 3;whnf))|((with_reducible refine bE rfl ?_);(conv =>arg 2;whnf))|((with_reducible first|refine iB ?_ ?_|refine g_ ?_ ?_|refine hP ?_ ?_|refine pL ?_ ?_|refine pM ?_ ?_)<;>intro hb<;>(try simp only[hb]))|((with_reducible show dh _ _ _ _ _ _ _ _ _);first|((with_reducible apply gM);exact rfl;exact rfl)|((with_reducible apply gN);exact rfl;exact rfl;exact rfl)|((with_reducible apply gP);exact rfl;exact rfl;kernel_rfl)|((with_reducible apply gQ);exact rfl;exact rfl;exact rfl)|((with_reducible apply gT);exact rfl;exact rfl;exact rfl)|((with_reducible apply gR);exact rfl;exact rfl;kernel_rfl;exact rfl)|((with_reducible apply gS);exact rfl;exact rfl;kernel_rfl;exact rfl)|((with_reducible refine gL ?_ ?_)))|((with_reducible show cU _ _ _ _ _ _ _ _ _);first|((with_reducible refine fj ?_ ?_);exact rfl)|((with_reducible apply fm);exact rfl;exact rfl)|((with_reducible refine fo ?_ ?_ ?_);exact rfl;kernel_rfl)|((with_reducible apply fp);exact rfl;exact rfl)|((with_reducible refine fq ?_ ?_ ?_ ?_ ?_);exact rfl;kernel_rfl;exact rfl)|((with_reducible apply ft);exact rfl;kernel_rfl;exact rfl)|((with_reducible refine fi ?_ ?_)))|((with_reducible show il _ _ _ _ _ _);first|(exact cK)|(refine eB ?_ ?_ ?_;exact rfl)|(apply eC;exact rfl;exact rfl)|(refine eD ?_ ?_ ?_ ?_;exact rfl;kernel_rfl)|(apply eF;exact rfl)|(apply eE;exact rfl;exact rfl))|((with_reducible refine bX ?_);kernel_rfl)|(simp only[B,xB,F,ab,ae,af,ag,ah,ai, ↓reduceIte,eq_self,ML,WT,u16,u17,z0,z1,z2,z3,z4,z5,z6,z7,z8,wo,vo]))
  have zo:(ny (iE rev L R op) op.key op.fin).length≤1000000:=by
   rw[←em];have h1:=lF (dg m (L++R)) op.key op.fin;have h2:=lE (main:=m) hs;omega
  refine((WI h1 op va _ hk.nx g1 zo).call P).mono P ?_;rintro _ h2 ⟨o2,k,hv,g2⟩;obtain⟨r,hr⟩:∃r,r=fM op (ny (iE rev L R op) op.key op.fin):=⟨_,rfl⟩;have hpr:r.prev=[]:=by rw[hr];unfold fM;split<;>rfl
  rw[←hr]at hv g2 hK';unfold nz.cs at hv;subst hv;have x2:=o2.1.1;have g2o:=g2.one;have g2c:=g2.cells;have f_:=o1.t o2;have Y2:=gC Y f_ MK (by simp);obtain⟨p0,p1,p2,p3,p4,p5,p6,p7,p8⟩:=bj.u9 (show bj h2 kn 0 [.int .i64 op.kind,.str op.key,.str op.fin,.str op.val,.int .u64 (.ofNat op.rev),.int .i64 op.dA,.bool op.count,.bool op.keys,.bool op.prev]from Y2);obtain⟨q0,q1,q2,q3,q4⟩:=(gC Z f_ O4 (by simp)).u5;have w2:=kw wz f_ O4 (by simp);obtain⟨h3,cB⟩:∃h3,h3=h2.cm jT 0 [k,.bool r.more,.int .i64 (.ofNat r.JA),.int .i64 (.ofNat r.del),.bh]:=⟨_,rfl⟩;have Z3:bj h3 jT 0 (r.cs k .bh):=by rw[cB];exact bj.cm w2 _
  have k3:∀c,c≠jT→h3.t.get c=h2.t.get c:=fun c hc=>by rw[cB,bT _ _ _ _ hc]
  have x3:h3.nx=h2.nx:=by rw[cB,bI]
  repeat' (first|((with_reducible refine gh ?_);(conv =>whnf);(with_reducible refine⟨?_⟩))|((with_reducible refine cV jC ?_ rfl rfl ?_);exact rfl;(conv =>arg 4;whnf);(conv =>arg 3;whnf))|((with_reducible refine cV jD ?_ rfl rfl ?_);exact rfl;(conv =>arg 4;whnf);(conv =>arg 3;whnf))|((with_reducible refine cV jE ?_ rfl rfl ?_);exact rfl;(conv =>arg 4;whnf);(conv =>arg 3;whnf))|((with_reducible refine fh ?_ rfl rfl ?_ ?_);exact rfl;kernel_rfl;(conv =>arg 5;whnf);(conv =>arg 3;whnf))|((with_reducible refine bE rfl ?_);(conv =>arg 2;whnf))|((with_reducible first|refine iB ?_ ?_|refine g_ ?_ ?_|refine hP ?_ ?_|refine pL ?_ ?_|refine pM ?_ ?_)<;>intro hb<;>(try simp only[hb]))|((with_reducible show dh _ _ _ _ _ _ _ _ _);first|((with_reducible apply gM);exact rfl;exact rfl)|((with_reducible apply gN);exact rfl;exact rfl;exact rfl)|((with_reducible apply gP);exact rfl;exact rfl;kernel_rfl)|((with_reducible apply gQ);exact rfl;exact rfl;exact rfl)|((with_reducible apply gT);exact rfl;exact rfl;exact rfl)|((with_reducible apply gR);exact rfl;exact rfl;kernel_rfl;exact rfl)|((with_reducible apply gS);exact rfl;exact rfl;kernel_rfl;exact rfl)|((with_reducible refine gL ?_ ?_)))|((with_reducible show cU _ _ _ _ _ _ _ _ _);first|((with_reducible refine fj ?_ ?_);exact rfl)|((with_reducible apply fm);exact rfl;exact rfl)|((with_reducible refine fo ?_ ?_ ?_);exact rfl;kernel_rfl)|((with_reducible apply fp);exact rfl;exact rfl)|((with_reducible refine fq ?_ ?_ ?_ ?_ ?_);exact rfl;kernel_rfl;exact rfl)|((with_reducible apply ft);exact rfl;kernel_rfl;exact rfl)|((with_reducible refine fi ?_ ?_)))|((with_reducible show il _ _ _ _ _ _);first|(exact cK)|(refine eB ?_ ?_ ?_;exact rfl)|(apply eC;exact rfl;exact rfl)|(refine eD ?_ ?_ ?_ ?_;exact rfl;kernel_rfl)|(apply eF;exact rfl)|(apply eE;exact rfl;exact rfl))|((with_reducible refine bX ?_);kernel_rfl)|(simp only[B,xB,F,ab,ae,af,ag,ah,ai, ↓reduceIte,eq_self,ML,WT,u16,u17,p0,p1,p2,p3,p4,p5,p6,p7,p8,q0,q1,q2,q3,q4,w2,g2o,g2c,←cB]))
  have hkb:∀c,bA k=some c→h1.nx≤c∧c<h2.nx:=fun c e=>g2.base e;have Ta:∀c,bA wa=some c→c<hk.nx:=fun c e=>(ga.base e).2;refine hK' _ _ (fun j hj=>?_) ⟨k,Z3,?_,g2.slice.move (by omega) (fun c e=>k3 c (by have:=hkb c e;omega)),by rw[hpr];exact .none,fun c e=>⟨by have:=hkb c e;omega,fun e2=>by have:=hkb c e;have:=Ta c e2;omega⟩,fun c e=>(by cases e),by omega,fun c hc hn _=>by rw[k3 c hn,f_.1.2 c hc (by simp)],fun c e=>.inl e,by rw[cB,dD,f_.2]⟩
  ·repeat(rw[T.bS,if_neg (by omega)])
   exact jr j hj
  ·exact ga.bG (by omega) (fun c e=>by rw[k3 c (na c e),f_.1.2 c (Ta c e) (by simp)])
 rw[qz]at y0;by_cases q:op.rev=0
 ·have d1:decide (op.rev=0)=true:=decide_eq_true q
  have em:dg (rev+1) (L++R)=iE rev L R op:=by unfold iE;rw[if_neg (by omega)]
  refine oq ?_ (@sc [1,1,0,1,0,1,0,1,1,0,0,1,0,0,1,0,1,1,1,1,1,1,1,1,1,1,1,1,1,1,1]) (V t12<|V t13<|V t15<|V t16<|V y0<|V y1<|V y2<|V y3<|V y4<|V y5<|V y6<|V y7<|V y8<|d1);refine⟨?_⟩;refine rest _ em _ (fun j hj=>by repeat(rw[T.bS,if_neg (by omega)])) (by exact sT) _ ?_;rintro Gu h2 jr ⟨k,ok⟩;refine kM ?_;exact hK _ _ wa k .bh (fun j hj _=>jr j hj) ((jr 13 (by omega)).trans t13) ok
 ·have d1:decide (op.rev=0)=false:=decide_eq_false q
  have em:dg op.rev (L++R)=iE rev L R op:=by unfold iE;rw[if_pos (by omega)];exact RM Qw hR
  refine oq ?_ (@sc [1,1,0,1,0,1,0,1,1,0,0,1,0,0,1,0,1,1,1,1,1,1,1,1,1,1,1,1,1,1,1]) (V t12<|V t13<|V t15<|V t16<|V y0<|V y1<|V y2<|V y3<|V y4<|V y5<|V y6<|V y7<|V y8<|d1);refine⟨?_⟩;refine rest _ em _ (fun j hj=>by repeat(rw[T.bS,if_neg (by omega)])) (by exact sT) _ ?_;rintro Gu h2 jr ⟨k,ok⟩;refine kM ?_;exact hK _ _ wa k .bh (fun j hj _=>jr j hj) ((jr 13 (by omega)).trans t13) ok
theorem put1C(hk:H)(b jT b20 base:Nat)(L R:List Rec)(rev:Nat)(v wa:AV)(kv:KV)(Kc:bj hk b20 0 kv.cs)(cb:cellAt hk b 0=some v)(hlen:∀(h':H)(ts:List TypeId)(xs:List AV),bQ P .len (60::ts) (v::xs) h'= .val (.int .i64 (.ofNat L.length)) h')(vo:v.one=true)
  (ga:bK 8 base hk wa (L++R).length ((L++R).flatMap Rec.cs))(lb:b<hk.nx)(l20:b20<hk.nx)(eg:base≤hk.nx)(hz:(L++R).length≤800000)
  (tm:T AV)(t0:tm.get 0=some (.ptr b 0))(t12:tm.get 12=some (.int .u64 (.ofNat (rev+1))))(t13:tm.get 13=some wa)(t20:tm.get 20=some (.ptr b20 0))(K:KQ)
  (hK:∀bZ h2 xz,(∀j,j≤16→j≠13→bZ.get j=tm.get j)→bZ.get 13=some xz→bK 8 base h2 xz (L++(R++[rO rev R kv false])).length ((L++(R++[rO rev R kv false])).flatMap Rec.cs)→hk.nx≤h2.nx→(∀c,c<hk.nx→bA wa≠some c→h2.t.get c=hk.t.get c)→(∀c,bA xz=some c→hk.nx≤c)→h2.g=hk.g→K .norm [] bZ h2):
  bB P 26 276 none (bL (bD Tryz.f26) [1,1,1,1,0,1,1,1,0,1,0,1,1,0,0,1,0,0,1,0,1,1,1,1,1,1,1,1,1,1,1,1,1,1,1]) [] tm hk K:=by
 obtain⟨y0,y1,y2,y3,y4⟩:=Kc.u5;have wo:=ga.one;have O0:=ga.slice.len (P:=P) jl;have ws:bV .i64 (ak (L++R).length-ak L.length)=ak R.length:=by
  rw[sD (by rw[an];omega) (by omega),an];congr 1;omega
 have wu:bV .u64 (ak R.length)=ak R.length:=KS (by rw[an]at hz;omega);obtain⟨h3,cB⟩:∃h3,h3=hk.bq 91 [.int .u64 (.ofNat (rev+1)),.int .u64 (.ofNat R.length),.str kv.key,.str kv.val,.int .u64 (.ofNat kv.iC),.int .u64 (.ofNat kv.mod),.int .u64 (.ofNat kv.im),.bool false]:=⟨_,rfl⟩;have o3:Og hk h3 []:=by rw[cB];exact(Og.refl _ _).new _ _
 have x3:h3.nx=hk.nx+1:=by rw[cB];rfl
 have eZ:h3.row hk.nx 0 8=some (rO rev R kv false).cs:=gK (o:=0) (cs:=(rO rev R kv false).cs) (fun j hj=>by rw[cB,bJ,al,if_pos rfl];rfl) (by simp[Rec.cs]);have ga3:bK 8 base h3 wa _ _:=ga.bG (by omega) (fun c e=>o3.1.2 c (ga.base e).2 (by simp));have cb3:=kc cb o3 lb (by simp);obtain⟨z0,z1,z2,z3,z4⟩:=(gC Kc o3 l20 (by simp)).u5;repeat' (first|((with_reducible refine gh ?_);(conv =>whnf);(with_reducible refine⟨?_⟩))|((with_reducible refine cV jC ?_ rfl rfl ?_);exact rfl;(conv =>arg 4;whnf);(conv =>arg 3;whnf))|((with_reducible refine cV jD ?_ rfl rfl ?_);exact rfl;(conv =>arg 4;whnf);(conv =>arg 3;whnf))|((with_reducible refine cV jE ?_ rfl rfl ?_);exact rfl;(conv =>arg 4;whnf);(conv =>arg 3;whnf))|((with_reducible refine fh ?_ rfl rfl ?_ ?_);exact rfl;kernel_rfl;(conv =>arg 5;whnf);(conv =>arg 3;whnf))|((with_reducible refine bE rfl ?_);(conv =>arg 2;whnf))|((with_reducible first|refine iB ?_ ?_|refine g_ ?_ ?_|refine hP ?_ ?_|refine pL ?_ ?_|refine pM ?_ ?_)<;>intro hb<;>(try simp only[hb]))|((with_reducible show dh _ _ _ _ _ _ _ _ _);first|((with_reducible apply gM);exact rfl;exact rfl)|((with_reducible apply gN);exact rfl;exact rfl;exact rfl)|((with_reducible apply gP);exact rfl;exact rfl;kernel_rfl)|((with_reducible apply gQ);exact rfl;exact rfl;exact rfl)|((with_reducible apply gT);exact rfl;exact rfl;exact rfl)|((with_reducible apply gR);exact rfl;exact rfl;kernel_rfl;exact rfl)|((with_reducible apply gS);exact rfl;exact rfl;kernel_rfl;exact rfl)|((with_reducible refine gL ?_ ?_)))|((with_reducible show cU _ _ _ _ _ _ _ _ _);first|((with_reducible refine fj ?_ ?_);exact rfl)|((with_reducible apply fm);exact rfl;exact rfl)|((with_reducible refine fo ?_ ?_ ?_);exact rfl;kernel_rfl)|((with_reducible apply fp);exact rfl;exact rfl)|((with_reducible refine fq ?_ ?_ ?_ ?_ ?_);exact rfl;kernel_rfl;exact rfl)|((with_reducible apply ft);exact rfl;kernel_rfl;exact rfl)|((with_reducible refine fi ?_ ?_)))|((with_reducible show il _ _ _ _ _ _);first|(exact cK)|(refine eB ?_ ?_ ?_;exact rfl)|(apply eC;exact rfl;exact rfl)|(refine eD ?_ ?_ ?_ ?_;exact rfl;kernel_rfl)|(apply eF;exact rfl)|(apply eE;exact rfl;exact rfl))|((with_reducible refine bX ?_);kernel_rfl)|(simp only[B,xB,F,ab,ae,af,ag,ah,ai, ↓reduceIte,eq_self,t0,t12,t13,t20,cb,vo,wo,hlen,O0,ws,wu,y0,y1,y2,y3,y4,←cB,eZ,cb3,z0,z1,z2,z3,z4]))
 refine dz (m:=1) (new:=(rO rev R kv false).cs) ga3 (by omega) (by omega) (by omega) rfl (by omega) (fun v7 h7 g7 x7 gV ud vM=>?_);have wG:=g7.one;have cb7:cellAt h7 b 0=some v∨bA wa=some b:=by
  by_cases q:bA wa=some b
  ·exact .inr q
  ·exact .inl (by rw[bo (gV b (by omega) q)];exact cb3)
 repeat' (first|((with_reducible refine gh ?_);(conv =>whnf);(with_reducible refine⟨?_⟩))|((with_reducible refine cV jC ?_ rfl rfl ?_);exact rfl;(conv =>arg 4;whnf);(conv =>arg 3;whnf))|((with_reducible refine cV jD ?_ rfl rfl ?_);exact rfl;(conv =>arg 4;whnf);(conv =>arg 3;whnf))|((with_reducible refine cV jE ?_ rfl rfl ?_);exact rfl;(conv =>arg 4;whnf);(conv =>arg 3;whnf))|((with_reducible refine fh ?_ rfl rfl ?_ ?_);exact rfl;kernel_rfl;(conv =>arg 5;whnf);(conv =>arg 3;whnf))|((with_reducible refine bE rfl ?_);(conv =>arg 2;whnf))|((with_reducible first|refine iB ?_ ?_|refine g_ ?_ ?_|refine hP ?_ ?_|refine pL ?_ ?_|refine pM ?_ ?_)<;>intro hb<;>(try simp only[hb]))|((with_reducible show dh _ _ _ _ _ _ _ _ _);first|((with_reducible apply gM);exact rfl;exact rfl)|((with_reducible apply gN);exact rfl;exact rfl;exact rfl)|((with_reducible apply gP);exact rfl;exact rfl;kernel_rfl)|((with_reducible apply gQ);exact rfl;exact rfl;exact rfl)|((with_reducible apply gT);exact rfl;exact rfl;exact rfl)|((with_reducible apply gR);exact rfl;exact rfl;kernel_rfl;exact rfl)|((with_reducible apply gS);exact rfl;exact rfl;kernel_rfl;exact rfl)|((with_reducible refine gL ?_ ?_)))|((with_reducible show cU _ _ _ _ _ _ _ _ _);first|((with_reducible refine fj ?_ ?_);exact rfl)|((with_reducible apply fm);exact rfl;exact rfl)|((with_reducible refine fo ?_ ?_ ?_);exact rfl;kernel_rfl)|((with_reducible apply fp);exact rfl;exact rfl)|((with_reducible refine fq ?_ ?_ ?_ ?_ ?_);exact rfl;kernel_rfl;exact rfl)|((with_reducible apply ft);exact rfl;kernel_rfl;exact rfl)|((with_reducible refine fi ?_ ?_)))|((with_reducible show il _ _ _ _ _ _);first|(exact cK)|(refine eB ?_ ?_ ?_;exact rfl)|(apply eC;exact rfl;exact rfl)|(refine eD ?_ ?_ ?_ ?_;exact rfl;kernel_rfl)|(apply eF;exact rfl)|(apply eE;exact rfl;exact rfl))|((with_reducible refine bX ?_);kernel_rfl)|(simp only[B,xB,F,ab,ae,af,ag,ah,ai, ↓reduceIte,eq_self,t0,t12,t13,t20,wG]))
 refine hK _ h7 v7 (fun j hj hn=>by repeat(rw[T.bS,if_neg (by omega)])) (by exact sT) ?_ (by omega) (fun c hc hn=>by rw[gV c (by omega) hn,o3.1.2 c hc (by simp)]) (fun c e=>by rw[ud]at e;cases e;omega) (by rw[vM,o3.2]);rw[←List.append_assoc,an,aB,aC];exact g7
theorem op1C(hk:H)(b kn jT base:Nat)(L R:List Rec)(rev:Nat)(v wa:AV)(op:Op)(cb:cellAt hk b 0=some v)(hlen:∀(h':H)(ts:List TypeId)(xs:List AV),bQ P .len (60::ts) (v::xs) h'= .val (.int .i64 (.ofNat L.length)) h')(vo:v.one=true)(lb:b<hk.nx)(RN:b≠jT)(nab:bA wa≠some b)
  (Y:bj hk kn 0 op.cs)(Z:bj hk jT 0 [.bh,.bool false,.int .i64 (.ofNat 0),.int .i64 (.ofNat 0),.bh])(wz:cj hk jT=true)
  (ga:bK 8 base hk wa (L++R).length ((L++R).flatMap Rec.cs))(MK:kn<hk.nx)(O4:jT<hk.nx)(n16:kn≠jT)(na:∀c,bA wa=some c→c≠jT)(eg:base≤hk.nx)(qz:op.kind=ak 1)(hz:(L++R).length≤800000)
  (tm:T AV)(t0:tm.get 0=some (.ptr b 0))(t12:tm.get 12=some (.int .u64 (.ofNat (rev+1))))(t13:tm.get 13=some wa)(t15:tm.get 15=some (.ptr kn 0))(t16:tm.get 16=some (.ptr jT 0))(K:KQ)
  (hK:∀bZ h2 xz k p,(∀j,j≤16→j≠13→bZ.get j=tm.get j)→bZ.get 13=some xz→OpR hk h2 jT base L (sI rev L R op).2 (sI rev L R op).1 wa xz k p→K .norm [] bZ h2):
  bB P 26 276 none (bL (bD Tryz.f26) [0,1,1,0,0,1,0,0,1,0,1,1,1,1,1,1,1,1,1,1,1,1,1,1,1]) [] tm hk K:=by
 obtain⟨x,hx⟩:∃x,x=dP op.key (dg (rev+1) (L++R)):=⟨_,rfl⟩;have eo:sI rev L R op=(oW op x,R++[rO rev R (oV rev op x) false]):=by unfold sI;rw[if_neg (by rw[qz];decide),if_pos (by rw[qz];rfl),hx]
 rw[eo]at hK;obtain⟨y0,y1,y2,y3,y4,y5,y6,y7,y8⟩:=bj.u9 (show bj hk kn 0 [.int .i64 op.kind,.str op.key,.str op.fin,.str op.val,.int .u64 (.ofNat op.rev),.int .i64 op.dA,.bool op.count,.bool op.keys,.bool op.prev]from Y);rw[qz]at y0;have wo:=ga.one;have IL:bV .i64 (ak 0)=ak 0:=rfl;have Ta:∀c,bA wa=some c→c<hk.nx:=fun c e=>(ga.base e).2;refine rN ?_ (V t0<|V t12<|V t13<|V t15<|V t16<|V y0<|V y1<|V y2<|V y3<|V y4<|V y5<|V y6<|V y7<|V y8<|wo);refine((Q9 hk wa (L++R) op.key (rev+1) ga.slice (by omega)).call P).mono P ?_;rintro _ h1 ⟨rfl,o1⟩;rw[Ce];simp only;have ekv:gu op.key (dg (rev+1) (L++R))=(x.map (·.kv)).getD wE:=by unfold gu;rw[hx]
 have eis:(dP op.key (dg (rev+1) (L++R))).isSome=x.isSome:=by rw[hx]
 rw[ekv,eis];obtain⟨kv,sQ⟩:∃kv,kv=(x.map (·.kv)).getD wE:=⟨_,rfl⟩;rw[←sQ];obtain⟨h2,cJ,o2,x2,a0,a1,a2,a3,a4,-⟩:=B7 h1 kv;obtain⟨h3,cB,o3,x3,k0,k1,k2,k3,k4,wk⟩:=B7 h2 ⟨op.key,op.val,rev+1,rev+1,1⟩;simp only at cB k0 k1 k2 k3 k4;have x1:=o1.1.1;have f_:=o1.t o2;have yK:=f_.t o3;have Y2:=gC Y f_ MK (by simp);obtain⟨p0,p1,p2,p3,p4,p5,p6,p7,p8⟩:=bj.u9 (show bj h2 kn 0 [.int .i64 op.kind,.str op.key,.str op.fin,.str op.val,.int .u64 (.ofNat op.rev),.int .i64 op.dA,.bool op.count,.bool op.keys,.bool op.prev]from Y2);have A3:=gC (bj.m5 a0 a1 a2 a3 a4) o3 (by omega) (by simp);obtain⟨b0,b1,b2,b3,b4⟩:=A3.u5;have K3:=bj.m5 k0 k1 k2 k3 k4;have Z3:=gC Z yK O4 (by simp);have wz3:=kw wz yK O4 (by simp);have Y3:=gC Y2 o3 (by omega) (by simp);have ga3:bK 8 base h3 wa _ _:=ga.bG yK.1.1 (fun c e=>yK.1.2 c (Ta c e) (by simp));have cb3:=kc cb yK lb (by simp)
 -- behind the put
 have fin:∀(h4:H)(p:AV),hk.nx≤h4.nx→h2.nx<h4.nx→(∀c,c<hk.nx→c≠jT→h4.t.get c=hk.t.get c)→h4.g=hk.g→bj h4 h2.nx 0 (oV rev op x).cs→bj h4 jT 0 ((oW op x).cs .bh p)→br h4 p (oW op x).prev.length ((oW op x).prev.flatMap KV.cs)→(∀c,bA p=some c→hk.nx≤c∧c<h4.nx)→∀tm4:T AV,(∀j,j≤16→tm4.get j=tm.get j)→tm4.get 20=some (.ptr h2.nx 0)→∀K':KQ,(∀bZ h2,K .norm [] bZ h2→K' .norm [] bZ h2)→
   bB P 26 276 none (bL (bD Tryz.f26) [1,1,1,1,0,1,1,1,0,1,0,1,1,0,0,1,0,0,1,0,1,1,1,1,1,1,1,1,1,1,1,1,1,1,1]) [] tm4 h4 K':=by
  intro h4 p q1 q2 q3 q4 q5 q6 q7 q8 tm4 jr g20 K' hK';refine put1C h4 b jT h2.nx base L R rev v wa (oV rev op x) q5 (by rw[bo (q3 b lb RN)];exact cb) hlen vo (ga.bG q1 (fun c e=>q3 c (Ta c e) (na c e))) (by omega) q2 (by omega) hz tm4 ((jr 0 (by omega)).trans t0) ((jr 12 (by omega)).trans t12) ((jr 13 (by omega)).trans t13) g20 K' ?_;intro bZ h5 xz ht2 g13 ga5 x5 IH nw5 gg5;refine hK' _ _ (hK bZ h5 xz .bh p (fun j hj hn=>(ht2 j hj hn).trans (jr j hj)) g13 ⟨q6.bG (IH jT (by omega) (fun e=>na _ e rfl)),ga5,.none,q7.move x5 (fun c e=>IH c (q8 c e).2 (fun e2=>by have:=Ta c e2;have:=q8 c e;omega)),fun c e=>(by cases e),fun c e=>⟨(q8 c e).1,fun e2=>by have:=nw5 c e2;have:=q8 c e;omega⟩,by omega,fun c hc hn1 hn2=>by rw[IH c (by omega) hn2,q3 c hc hn1],fun c e=>.inr (by have:=nw5 c e;omega),by rw[gg5,q4]⟩)
 unfold KV.cs;cases x with
 |none=>
  repeat' (first|(with_reducible refine rB [1,1,1,1,0,1,1,1,0,1,0,1,1,0,0,1,0,0,1,0,1,1,1,1,1,1,1,1,1,1,1,1,1,1,1] ?_)|((with_reducible refine gh ?_);(conv =>whnf);(with_reducible refine⟨?_⟩))|((with_reducible refine bE rfl ?_);(conv =>arg 2;whnf))|((with_reducible first|refine iB ?_ ?_|refine g_ ?_ ?_|refine hP ?_ ?_)<;>intro hb<;>(try simp only[hb]))|(simp only[B,xB,F,ab,ae,af,ag,ah,ai, ↓reduceIte,eq_self,cJ,p0,p1,p2,p3,p4,p5,p6,p7,p8,t12,t15,t16,cB,Option.isSome_none]))
  refine⟨?_⟩;refine fin h3 .bh (by omega) (by omega) (fun c hc _=>yK.1.2 c hc (by simp)) yK.2 K3 Z3 (by unfold oW;cases op.prev<;>exact .none) (fun c e=>by cases e) _ (fun j hj=>by repeat(rw[T.bS,if_neg (by omega)])) (by exact sT) _ ?_;intro bZ h2 hq;refine kM ?_;exact hq
 | some r=>
  have hkr:kv=r.kv:=sQ;rw[hkr]at cJ b2 b4 b0 b1 b3 ⊢;have vw:=Rz r.kv.im;obtain⟨h5,eL⟩:∃h5,h5=(h3.cm h2.nx 2 [.int .u64 (.ofNat r.kv.iC)]).cm h2.nx 4 [.int .u64 (.ofNat (IN r.kv.im))]:=⟨_,rfl⟩;have K5:=(K3.put wk (j:=2) (by simp) (.int .u64 (.ofNat r.kv.iC))).put (by rw[bN];exact wk) (j:=4) (by simp) (.int .u64 (.ofNat (IN r.kv.im)));rw[al,al,←eL]at K5;have k5:∀c,c≠h2.nx→h5.t.get c=h3.t.get c:=fun c hc=>by rw[eL,bT _ _ _ _ hc,bT _ _ _ _ hc]
  have x5:h5.nx=h3.nx:=by rw[eL,bI,bI]
  have UQ:Og h3 h5 [h2.nx]:=by rw[eL];exact((Og.refl _ _).cm (.inl (by simp))).cm (.inl (by simp))
  have g5:h5.g=h3.g:=UQ.2;have b2':cellAt h5 h1.nx 2=_:=kc b2 UQ (by omega) (by simp;omega);obtain⟨s0,s1,s2,s3,s4⟩:=(gC A3 UQ (by omega) (by simp;omega)).u5;rw[hkr]at s0 s1 s2 s3 s4;have Y5:=gC Y3 UQ (by omega) (by simp;omega);obtain⟨-,-,-,-,-,-,-,-,ZI⟩:=bj.u9 (show bj h5 kn 0 [.int .i64 op.kind,.str op.key,.str op.fin,.str op.val,.int .u64 (.ofNat op.rev),.int .i64 op.dA,.bool op.count,.bool op.keys,.bool op.prev]from Y5);have Z5:=gC Z3 UQ (by omega) (by simp;omega);have wz5:=kw wz3 UQ (by omega) (by simp;omega);cases qp:op.prev with
  |false=>
   rw[qp]at ZI;repeat' (first|(with_reducible refine rB [1,1,1,1,0,1,1,1,0,1,0,1,1,0,0,1,0,0,1,0,1,1,1,1,1,1,1,1,1,1,1,1,1,1,1] ?_)|((with_reducible refine gh ?_);(conv =>whnf);(with_reducible refine⟨?_⟩))|((with_reducible refine bE rfl ?_);(conv =>arg 2;whnf))|((with_reducible first|refine iB ?_ ?_|refine g_ ?_ ?_|refine hP ?_ ?_)<;>intro hb<;>(try simp only[hb]))|(simp only[B,xB,F,ab,ae,af,ag,ah,ai, ↓reduceIte,eq_self,cJ,p0,p1,p2,p3,p4,p5,p6,p7,p8,t12,cB,aR,t15,b0,b1,b2,b3,b4,k2,k4,wk,vw,←eL,ZI]))
   refine⟨?_⟩;refine fin h5 .bh (by omega) (by omega) (fun c hc _=>by rw[k5 c (by omega),yK.1.2 c hc (by simp)]) (g5.trans yK.2) K5 Z5 (by unfold oW;rw[qp];exact .none) (fun c e=>by cases e) _ (fun j hj=>by repeat(rw[T.bS,if_neg (by omega)])) (by exact sT) _ ?_;intro bZ h2 hq;refine kM ?_;exact hq
  | true=>
   rw[qp]at ZI;obtain⟨h6,kO⟩:∃h6,h6=h5.bq 83 [.str r.kv.key,.str r.kv.val,.int .u64 (.ofNat r.kv.iC),.int .u64 (.ofNat r.kv.mod),.int .u64 (.ofNat r.kv.im)]:=⟨_,rfl⟩;have o6:Og h5 h6 []:=by rw[kO];exact(Og.refl _ _).new _ _
   have x6:h6.nx=h5.nx+1:=by rw[kO];rfl
   have S6:br h6 (.slice h5.nx 0 1 (.exact 1)) 1 r.kv.cs:=.cell _ _ _ _ _ (by omega) (by rw[kO];exact bj.new h5 83 r.kv.cs);have Z6:=gC Z5 o6 (by omega) (by simp);have wz6:=kw wz5 o6 (by omega) (by simp);obtain⟨-,-,-,-,e4⟩:=Z6.u5;obtain⟨h7,rR⟩:∃h7,h7=h6.cm jT 4 [.slice h5.nx 0 1 (.exact 1)]:=⟨_,rfl⟩;have Z7:=Z6.put wz6 (j:=4) (by simp) (.slice h5.nx 0 1 (.exact 1));rw[al,←rR]at Z7;have k7:∀c,c≠jT→h7.t.get c=h6.t.get c:=fun c hc=>by rw[rR,bT _ _ _ _ hc]
   have x7:h7.nx=h6.nx:=by rw[rR,bI]
   repeat' (first|(with_reducible refine rB [1,1,1,1,0,1,1,1,0,1,0,1,1,0,0,1,0,0,1,0,1,1,1,1,1,1,1,1,1,1,1,1,1,1,1] ?_)|((with_reducible refine gh ?_);(conv =>whnf);(with_reducible refine⟨?_⟩))|((with_reducible refine bE rfl ?_);(conv =>arg 2;whnf))|((with_reducible first|refine iB ?_ ?_|refine g_ ?_ ?_|refine hP ?_ ?_)<;>intro hb<;>(try simp only[hb]))|(simp only[B,xB,F,ab,ae,af,ag,ah,ai, ↓reduceIte,eq_self,cJ,p0,p1,p2,p3,p4,p5,p6,p7,p8,t12,cB,aR,t15,t16,b0,b1,b2,b3,b4,k2,k4,wk,vw,←eL,ZI,s0,s1,s2,s3,s4,←kO,e4,wz6,←rR]))
   refine⟨?_⟩;refine fin h7 (.slice h5.nx 0 1 (.exact 1)) (by omega) (by omega) (fun c hc hn=>by rw[k7 c hn,o6.1.2 c (by omega) (by simp),k5 c (by omega),yK.1.2 c hc (by simp)]) (by rw[rR,dD,o6.2,g5,yK.2]) ((gC K5 o6 (by omega) (by simp)).bG (k7 h2.nx (by omega))) Z7 ?_ (fun c e=>by cases e;omega) _ (fun j hj=>by repeat(rw[T.bS,if_neg (by omega)])) (by exact sT) _ ?_
   ·have e:(oW op (some r)).prev=[r.kv]:=by unfold oW;rw[qp];rfl
    rw[e,aC];exact S6.move (by omega) (fun c e=>by cases e;exact k7 _ (by omega))
   ·intro bZ h2 hq
    refine kM ?_;exact hq
structure DgI(hA:H)(b base:Nat)(L R:List Rec)(rev:Nat)(wa:AV)(l:List KV)(va:AV)(tm0:T AV)(m:Nat)(ds:List Nat)(tm:T AV)(h:H)(i:Nat)(w':AV):Prop where
 ds:ds=[]
 nn:m=l.length-i
 ii:i≤l.length
 tt:∀j,j≤16→j≠13→tm.get j=tm0.get j
 t13:tm.get 13=some w'
 t21:tm.get 21=some va
 t22:tm.get 22=some (.int .i64 (.ofNat i))
 ga:bK 8 base h w' (L++fx rev R (l.take i)).length ((L++fx rev R (l.take i)).flatMap Rec.cs)
 nx:hA.nx≤h.nx
 old:∀c,c<hA.nx→bA wa≠some c→h.t.get c=hA.t.get c
 nw:∀c,bA w'=some c→bA wa=some c∨hA.nx≤c
 g:h.g=hA.g
theorem op2C(hk:H)(b kn jT base:Nat)(L R:List Rec)(rev:Nat)(v wa:AV)(op:Op)(cb:cellAt hk b 0=some v)(hlen:∀(h':H)(ts:List TypeId)(xs:List AV),bQ P .len (60::ts) (v::xs) h'= .val (.int .i64 (.ofNat L.length)) h')(vo:v.one=true)(lb:b<hk.nx)(RN:b≠jT)(nab:bA wa≠some b)
  (Y:bj hk kn 0 op.cs)(Z:bj hk jT 0 [.bh,.bool false,.int .i64 (.ofNat 0),.int .i64 (.ofNat 0),.bh])(wz:cj hk jT=true)
  (ga:bK 8 base hk wa (L++R).length ((L++R).flatMap Rec.cs))(MK:kn<hk.nx)(O4:jT<hk.nx)(n16:kn≠jT)(na:∀c,bA wa=some c→c≠jT)(na5:∀c,bA wa=some c→c≠kn)(eg:base≤hk.nx)(qz:op.kind=ak 2)(hs:dI (L++R))(hz:(L++R).length≤400000)
  (tm:T AV)(t0:tm.get 0=some (.ptr b 0))(t12:tm.get 12=some (.int .u64 (.ofNat (rev+1))))(t13:tm.get 13=some wa)(t15:tm.get 15=some (.ptr kn 0))(t16:tm.get 16=some (.ptr jT 0))(K:KQ)
  (hK:∀bZ h2 xz k p,(∀j,j≤16→j≠13→bZ.get j=tm.get j)→bZ.get 13=some xz→OpR hk h2 jT base L (sI rev L R op).2 (sI rev L R op).1 wa xz k p→K .norm [] bZ h2):
  bB P 26 276 none (bL (bD Tryz.f26) [0,1,1,0,0,1,0,0,1,0,1,1,1,1,1,1,1,1,1,1,1,1,1,1,1]) [] tm hk K:=by
 obtain⟨l,hl⟩:∃l,l=ny (dg (rev+1) (L++R)) op.key op.fin:=⟨_,rfl⟩;have eo:sI rev L R op=(rS op l,fx rev R l):=by unfold sI;rw[if_neg (by rw[qz];decide),if_neg (by rw[qz];decide),hl]
 rw[eo]at hK;obtain⟨y0,y1,y2,y3,y4,y5,y6,y7,y8⟩:=bj.u9 (show bj hk kn 0 [.int .i64 op.kind,.str op.key,.str op.fin,.str op.val,.int .u64 (.ofNat op.rev),.int .i64 op.dA,.bool op.count,.bool op.keys,.bool op.prev]from Y);rw[qz]at y0;have wo:=ga.one;have Ta:∀c,bA wa=some c→c<hk.nx:=fun c e=>(ga.base e).2;have hll:l.length≤400000:=by rw[hl];have:=lF (dg (rev+1) (L++R)) op.key op.fin;have:=lE (main:=rev+1) hs;omega
 refine rN ?_ (V t0<|V t12<|V t13<|V t15<|V t16<|V y0<|V y1<|V y2<|V y3<|V y4<|V y5<|V y6<|V y7<|V y8<|wo);refine((Uu hk wa (L++R) op.key op.fin (rev+1) ga.slice (by omega)).call P).mono P ?_;rintro va h1 ⟨o1,g1⟩;rw[zB hs,←hl]at g1;have x1:=o1.1.1;have WN:=g1.one;have v1c:=g1.cells;have hlv:=g1.slice.len (P:=P) zi;have vb:∀c,bA va=some c→hk.nx≤c∧c<h1.nx:=fun c e=>g1.base e;have ga1:bK 8 base h1 wa _ _:=ga.bG x1 (fun c e=>o1.1.2 c (Ta c e) (by simp));refine rN ?_ (WN);refine cn (fun m ds tm' h=>∃i w',DgI h1 b base L R rev wa l va tm m ds tm' h i w') l.length rfl ⟨0,wa,rfl,rfl,aG _,(fun j hj hn=>by repeat(rw[T.bS,if_neg (by omega)])),by exact sT,by exact sT,by exact sT,ga1,aA _,(fun c hc _=>rfl),(fun c e=>.inl e),rfl⟩ (fun m ds tm' h hI=>?_);obtain⟨i,w',rfl,rfl,ii,tt,ML,u21,u22,WU,nx,old,nw,g⟩:=hI;have u0:=(tt 0 (by omega) (by omega)).trans t0;have Ru:=(tt 12 (by omega) (by omega)).trans t12;have WT:=(tt 15 (by omega) (by omega)).trans t15;have u16:=(tt 16 (by omega) (by omega)).trans t16;have wo':=WU.one;have kk:∀c,c<hk.nx→bA wa≠some c→h.t.get c=hk.t.get c:=fun c hc hn=>by rw[old c (by omega) hn,o1.1.2 c hc (by simp)]
 have kv:∀c,bA va=some c→h.t.get c=h1.t.get c:=fun c e=>old c (vb c e).2 (fun e2=>by have:=Ta c e2;have:=vb c e;omega);by_cases hi:i<l.length
 ·have di:decide (i<l.length)=true:=decide_eq_true hi
  have dX:(i<l.length)=True:=by simp[hi]
  obtain⟨x,hx⟩:∃x,l[i]? =some x:=⟨_,aw hi⟩;have vsh:=g1.slice.move (h':=h) nx kv;obtain⟨bv,ov,cv,rfl,qw,-⟩:=vsh.place (by omega);obtain⟨q0,q1,q2,q3,q4⟩:=KV.at vsh hx;have w1:bV .i64 (ak i+ak 1)=ak (i+1):=cq (by omega);have O0:=WU.slice.len (P:=P) jl;have Tm:=pQ rev (l.take i) R;rw[List.length_take]at Tm;obtain⟨R1,hR1⟩:∃R1,R1=fx rev R (l.take i):=⟨_,rfl⟩;rw[←hR1]at WU O0 Tm;have JC:L.length≤400000∧R.length≤400000:=by rw[an]at hz;omega
  have ws:bV .i64 (ak (L++R1).length-ak L.length)=ak R1.length:=by
   rw[sD (by rw[an];omega) (by rw[an];omega),an];exact congrArg ak (by omega)
  have wu:bV .u64 (ak R1.length)=ak R1.length:=KS (by omega);have cbh:cellAt h b 0=some v:=by rw[bo (kk b lb nab)];exact cb
  obtain⟨h3,cB⟩:∃h3,h3=h.bq 91 [.int .u64 (.ofNat (rev+1)),.int .u64 (.ofNat R1.length),.str x.key,.str [],.int .u64 (.ofNat 0),.int .u64 (.ofNat 0),.int .u64 (.ofNat 0),.bool true]:=⟨_,rfl⟩;have o3:Og h h3 []:=by rw[cB];exact(Og.refl _ _).new _ _
  have x3:h3.nx=h.nx+1:=by rw[cB];rfl
  have eZ:h3.row h.nx 0 8=some (rO rev R1 ⟨x.key,[],0,0,0⟩ true).cs:=gK (o:=0) (cs:=(rO rev R1 ⟨x.key,[],0,0,0⟩ true).cs) (fun j hj=>by rw[cB,bJ,al,if_pos rfl];rfl) (by simp[Rec.cs]);have ga3:bK 8 base h3 w' _ _:=WU.bG (by omega) (fun c e=>o3.1.2 c (WU.base e).2 (by simp));have cb3:=kc cbh o3 (by omega) (by simp);have vs3:=br.only o3.1 vsh (fun _ _=>by simp);obtain⟨p0,p1,p2,p3,p4⟩:=KV.at vs3 hx;repeat' (first|((with_reducible refine gh ?_);(conv =>whnf);(with_reducible refine⟨?_⟩))|((with_reducible refine cV jC ?_ rfl rfl ?_);exact rfl;(conv =>arg 4;whnf);(conv =>arg 3;whnf))|((with_reducible refine cV jD ?_ rfl rfl ?_);exact rfl;(conv =>arg 4;whnf);(conv =>arg 3;whnf))|((with_reducible refine cV jE ?_ rfl rfl ?_);exact rfl;(conv =>arg 4;whnf);(conv =>arg 3;whnf))|((with_reducible refine fh ?_ rfl rfl ?_ ?_);exact rfl;kernel_rfl;(conv =>arg 5;whnf);(conv =>arg 3;whnf))|((with_reducible refine bE rfl ?_);(conv =>arg 2;whnf))|((with_reducible first|refine iB ?_ ?_|refine g_ ?_ ?_|refine hP ?_ ?_|refine pL ?_ ?_|refine pM ?_ ?_)<;>intro hb<;>(try simp only[hb]))|((with_reducible show dh _ _ _ _ _ _ _ _ _);first|((with_reducible apply gM);exact rfl;exact rfl)|((with_reducible apply gN);exact rfl;exact rfl;exact rfl)|((with_reducible apply gP);exact rfl;exact rfl;kernel_rfl)|((with_reducible apply gQ);exact rfl;exact rfl;exact rfl)|((with_reducible apply gT);exact rfl;exact rfl;exact rfl)|((with_reducible apply gR);exact rfl;exact rfl;kernel_rfl;exact rfl)|((with_reducible apply gS);exact rfl;exact rfl;kernel_rfl;exact rfl)|((with_reducible refine gL ?_ ?_)))|((with_reducible show cU _ _ _ _ _ _ _ _ _);first|((with_reducible refine fj ?_ ?_);exact rfl)|((with_reducible apply fm);exact rfl;exact rfl)|((with_reducible refine fo ?_ ?_ ?_);exact rfl;kernel_rfl)|((with_reducible apply fp);exact rfl;exact rfl)|((with_reducible refine fq ?_ ?_ ?_ ?_ ?_);exact rfl;kernel_rfl;exact rfl)|((with_reducible apply ft);exact rfl;kernel_rfl;exact rfl)|((with_reducible refine fi ?_ ?_)))|((with_reducible show il _ _ _ _ _ _);first|(exact cK)|(refine eB ?_ ?_ ?_;exact rfl)|(apply eC;exact rfl;exact rfl)|(refine eD ?_ ?_ ?_ ?_;exact rfl;kernel_rfl)|(apply eF;exact rfl)|(apply eE;exact rfl;exact rfl))|((with_reducible refine bX ?_);kernel_rfl)|(simp only[B,xB,F,ab,ae,af,ag,ah,ai, ↓reduceIte,eq_self,u0,Ru,ML,WT,u16,u21,u22,hlv,di,dX,q0,q1,q2,q3,q4,cbh,vo,wo',hlen,O0,ws,wu,←cB,eZ,cb3,p0]))
  refine dz (m:=1) (new:=(rO rev R1 ⟨x.key,[],0,0,0⟩ true).cs) ga3 (by omega) (by omega) (by omega) rfl (by rw[an];omega) (fun v7 h7 g7 x7 gV ud vM=>?_);have wG:=g7.one;repeat' (first|((with_reducible refine gh ?_);(conv =>whnf);(with_reducible refine⟨?_⟩))|((with_reducible refine cV jC ?_ rfl rfl ?_);exact rfl;(conv =>arg 4;whnf);(conv =>arg 3;whnf))|((with_reducible refine cV jD ?_ rfl rfl ?_);exact rfl;(conv =>arg 4;whnf);(conv =>arg 3;whnf))|((with_reducible refine cV jE ?_ rfl rfl ?_);exact rfl;(conv =>arg 4;whnf);(conv =>arg 3;whnf))|((with_reducible refine fh ?_ rfl rfl ?_ ?_);exact rfl;kernel_rfl;(conv =>arg 5;whnf);(conv =>arg 3;whnf))|((with_reducible refine bE rfl ?_);(conv =>arg 2;whnf))|((with_reducible first|refine iB ?_ ?_|refine g_ ?_ ?_|refine hP ?_ ?_|refine pL ?_ ?_|refine pM ?_ ?_)<;>intro hb<;>(try simp only[hb]))|((with_reducible show dh _ _ _ _ _ _ _ _ _);first|((with_reducible apply gM);exact rfl;exact rfl)|((with_reducible apply gN);exact rfl;exact rfl;exact rfl)|((with_reducible apply gP);exact rfl;exact rfl;kernel_rfl)|((with_reducible apply gQ);exact rfl;exact rfl;exact rfl)|((with_reducible apply gT);exact rfl;exact rfl;exact rfl)|((with_reducible apply gR);exact rfl;exact rfl;kernel_rfl;exact rfl)|((with_reducible apply gS);exact rfl;exact rfl;kernel_rfl;exact rfl)|((with_reducible refine gL ?_ ?_)))|((with_reducible show cU _ _ _ _ _ _ _ _ _);first|((with_reducible refine fj ?_ ?_);exact rfl)|((with_reducible apply fm);exact rfl;exact rfl)|((with_reducible refine fo ?_ ?_ ?_);exact rfl;kernel_rfl)|((with_reducible apply fp);exact rfl;exact rfl)|((with_reducible refine fq ?_ ?_ ?_ ?_ ?_);exact rfl;kernel_rfl;exact rfl)|((with_reducible apply ft);exact rfl;kernel_rfl;exact rfl)|((with_reducible refine fi ?_ ?_)))|((with_reducible show il _ _ _ _ _ _);first|(exact cK)|(refine eB ?_ ?_ ?_;exact rfl)|(apply eC;exact rfl;exact rfl)|(refine eD ?_ ?_ ?_ ?_;exact rfl;kernel_rfl)|(apply eF;exact rfl)|(apply eE;exact rfl;exact rfl))|((with_reducible refine bX ?_);kernel_rfl)|(simp only[B,xB,F,ab,ae,af,ag,ah,ai, ↓reduceIte,eq_self,u0,Ru,ML,WT,u16,u21,u22,wG,w1]))
  refine⟨l.length-(i+1),by omega,i+1,v7,rfl,rfl,by omega,fun j hj hn=>?_,by exact sT,by exact sT,by exact sT,?_,by omega,fun c hc hn=>?_,fun c e=>.inr (by rw[ud]at e;cases e;omega),by rw[vM,o3.2,g]⟩
  ·repeat(rw[T.bS,if_neg (by omega)])
   exact tt j hj hn
  ·rw[IP hx,←hR1]
   unfold iU;rw[←List.append_assoc,an,aB,aC];exact g7
  ·rw[gV c (by omega) (fun e=>by rcases nw c e with q|q;exact hn q;omega),o3.1.2 c (by omega) (by simp),old c hc hn]
 ·have di:decide (i<l.length)=false:=decide_eq_false hi
  obtain rfl:i=l.length:=by omega
  rw[aH]at WU;have Zh:=Z.bG (kk jT O4 (fun e=>na _ e rfl));have wzh:cj h jT=true:=by rw[bC (kk jT O4 (fun e=>na _ e rfl))];exact wz
  have Yh:=Y.bG (kk kn MK (fun e=>na5 _ e rfl));obtain⟨z0,z1,z2,z3,z4⟩:=Zh.u5;obtain⟨h3,cB⟩:∃h3,h3=h.cm jT 3 [.int .i64 (.ofNat l.length)]:=⟨_,rfl⟩;have Z3:=Zh.put wzh (j:=3) (by simp) (.int .i64 (.ofNat l.length));rw[al,←cB]at Z3;have wz3:cj h3 jT=true:=by rw[cB,bN];exact wzh
  have k3:∀c,c≠jT→h3.t.get c=h.t.get c:=fun c hc=>by rw[cB,bT _ _ _ _ hc]
  have x3:h3.nx=h.nx:=by rw[cB,bI]
  have Y3:=Yh.bG (k3 kn n16);obtain⟨-,-,-,-,-,-,-,-,p8⟩:=bj.u9 (show bj h3 kn 0 [.int .i64 op.kind,.str op.key,.str op.fin,.str op.val,.int .u64 (.ofNat op.rev),.int .i64 op.dA,.bool op.count,.bool op.keys,.bool op.prev]from Y3);obtain⟨e0,e1,e2,e3,e4⟩:=Z3.u5;have nwb:∀c,bA w'=some c→c≠jT:=fun c e=>by
   rcases nw c e with q|q
   ·exact na c q
   ·omega
  have nwv:∀c,bA va=some c→bA w'≠some c:=fun c e e2=>by
   have:=vb c e;rcases nw c e2 with q|q
   ·have:=Ta c q;omega
   ·omega
  have vs:=g1.slice;cases qp:op.prev with
  | false=>
   rw[qp]at p8;refine rN ?_ (V u0<|V Ru<|V ML<|V WT<|V u16<|V u21<|V u22<|V hlv<|V di<|V z3<|V wzh<|V cB.symm<|p8);refine hK _ h3 w' .bh .bh (fun j hj hn=>?_) (by exact sT) ⟨?_,WU.bG (by omega) (fun c e=>k3 c (nwb c e)),.none,?_,fun c e=>(by cases e),fun c e=>(by cases e),by omega,fun c hc hn hn2=>by rw[k3 c hn,kk c hc hn2],fun c e=>?_,by rw[cB,dD,g,o1.2]⟩
   ·repeat(rw[T.bS,if_neg (by omega)])
    exact tt j hj hn
   ·unfold rS;exact Z3
   ·unfold rS;rw[qp];exact .none
   ·rcases nw c e with q|q
    ·exact .inl q
    ·exact .inr (by omega)
  | true=>
   rw[qp]at p8;obtain⟨h4,dm⟩:∃h4,h4=h3.cm jT 4 [va]:=⟨_,rfl⟩;have Z4:=Z3.put wz3 (j:=4) (by simp) va;rw[al,←dm]at Z4;have k4:∀c,c≠jT→h4.t.get c=h.t.get c:=fun c hc=>by rw[dm,bT _ _ _ _ hc,k3 c hc]
   have x4:h4.nx=h.nx:=by rw[dm,bI,x3]
   refine rN ?_ (V u0<|V Ru<|V ML<|V WT<|V u16<|V u21<|V u22<|V hlv<|V di<|V z3<|V wzh<|V cB.symm<|V p8<|V e4<|V wz3<|V WN<|V v1c<|dm.symm);refine hK _ h4 w' .bh va (fun j hj hn=>?_) (by exact sT) ⟨?_,WU.bG (by omega) (fun c e=>k4 c (nwb c e)),.none,?_,fun c e=>(by cases e),fun c e=>⟨(vb c e).1,nwv c e⟩,by omega,fun c hc hn hn2=>by rw[k4 c hn,kk c hc hn2],fun c e=>?_,by rw[dm,dD,cB,dD,g,o1.2]⟩
   ·repeat(rw[T.bS,if_neg (by omega)])
    exact tt j hj hn
   ·unfold rS;exact Z4
   ·have e:(rS op l).prev=l:=by unfold rS;rw[qp];rfl
    rw[e];exact vs.move (by omega) (fun c e=>by rw[k4 c (by have:=vb c e;omega),kv c e])
   ·rcases nw c e with q|q
    ·exact .inl q
    ·exact .inr (by omega)
end
end Go.Proofs.YtnedigoajoflaaaGreat.M
