/-
  AX: a step in a region whose order is drawn.
-/
import Derived.Test.YtnedigoajoflaaaGreatAxE
import Derived.Maps.RangeRun
import Derived.Test.YtnedigoajoflaaaGreatAxA
import Derived.Sort.KeysCollected
import Derived.Lib.MakeNoZero
import Derived.Lib.Repeat
set_option linter.unusedSimpArgs false
set_option linter.unusedVariables false
set_option linter.unusedSectionVars false
set_option linter.defProp false
set_option maxHeartbeats 8000000
open Nat renaming eq_of_beq_eq_true→ak,le_of_ble_eq_true→al,le_refl→ao,le_trans→au,beq→aD,ne_of_beq_eq_false→aE,blt→aH,add_zero→aJ
open List renaming mem_cons→an,map_cons→aq,append_nil→aA,pairwise_cons→aC,length_map→aF
open Option renaming bind_some→aw
open Bool renaming and_eq_true→az,false_eq_true→aG
open Array renaming length_toList→aB
namespace Go.AX
open Go.RowKit
section
variable{P:Program}{K:lI}{N:NN}{φ:cX}{w0 w:World}{bot:List Frame}{s s':S}{fr:Frame}{cs:List Frame}
def AI(P:Program)(N:NN)(w0:World)(bot:List Frame)(φ:cX)(fr:Frame)(cs:List Frame)(w:World)(s':S):Prop:=
 ∃N':NN,∃gA tO mS w',N'.n=N.n∧φ.le gA∧Steps P (lone fr (cs++bot) w) (lone tO (mS++bot) w')∧SR N' w0 gA s' tO mS w'
theorem CU.n(h:CU P N w0 bot φ fr cs w s'):AI P N w0 bot φ fr cs w s':=
 let⟨gA,tO,mS,w',a,b,c⟩:=h;⟨N,gA,tO,mS,w',rfl,a,b,c⟩
theorem Xo{fn:FuncId}{tmps:Array Value}{k:List Item}{ds:List Deferred}{kd:CallKind}{ro:Option Nat}{cs:List Frame}(hm:P.follows .mixedOrders=true){id:Nat}{ops:Array Oper}:
  ∃t,Steps P (lone ⟨fn,tmps,.code (.region id ops true)::k,ds,.run,kd,ro⟩ cs w) (lone ⟨fn,tmps,.inRegion ops (Region.linearise .any ops t)::k,ds,.run,kd,ro⟩ cs {w with drawn:=w.drawn+1}):=
 ⟨w.tape w.drawn (.order fn id),st (by simp[stepG,stepG.exec,choose,Sem.run,Question.forced,Question.cut,Region.schedule,hm])⟩
theorem yh{nt:Nat}{tm:T AV}{h:H}{ops:Array Oper}:∀{l:List (Nat×Oper×Nat)},jB P nt tm h ops l=true→∀p,p∈l→qI P nt tm h ops p.2.1 p.2.2=true
 |[],_,p,hp=>by cases hp
 | (j,o,b)::l,h,p,hp=>by
  simp only[jB]at h;split at h
  ·rename_i hr
   simp only[an]at hp;rcases hp with rfl|hp
   ·exact hr
   ·exact yh h p hp
  ·cases h
theorem TA{N N':NN}{a b:World}(e:N'.n=N.n)(h:Below N'.n a b):Below N.n a b:=by rw[←e];exact h
theorem FH{d:qi}{nt:Nat}{tm:T AV}{h:H}{fn:FuncId}{ck:List Item}{ds:List Deferred}{kd:CallKind}{ro:Option Nat}{acs:List bY}(hw:d.wait=false)(eH:jB P nt tm h d.ops d.early=true):
  ∀ (pre rest:List Nat)(N:NN)(φ:cX)(tmps:Array Value)(w:World),DW d (pre++rest)→(∀i,i∈pre→∀p,p∈d.rem→p.1≠i)→TX φ d.ops (pre++rest) nt tm tmps→HR N φ h w→N.n≤w.heap.size→
   Nr N acs.length d (pre++rest)→CS N φ acs cs→
   ∃N':NN,∃gA mj w',N'.n=N.n∧φ.le gA∧Steps P (lone ⟨fn,tmps,.inRegion d.ops (pre++rest)::ck,ds,.run,kd,ro⟩ (cs++bot) w) (lone ⟨fn,mj,.inRegion d.ops rest::ck,ds,.run,kd,ro⟩ (cs++bot) w')∧
    DW d rest∧TX gA d.ops rest nt tm mj∧HR N' gA h w'∧Below N.n w w'∧N'.n≤w'.heap.size∧Nr N' acs.length d rest∧CS N' gA acs cs
 |[],rest,N,φ,tmps,w,Ke,_,tx,hr,hN,hl,hc=>⟨N,φ,tmps,w,rfl,φ.le_refl,Steps.refl P _,Ke,tx,hr,Below.refl _ _,hN,hl,hc⟩
 | i::pre,rest,N,φ,tmps,w,Ke,hp,tx,hr,hN,hl,hc=>by
  have wT:=Ke.all i (by simp);rcases wT with⟨o,ho⟩|⟨o,b,ho⟩
  ·exact absurd rfl (hp i (by simp) _ ho)
  ·have hi:=Ke.early _ ho
   obtain⟨N1,Ho,ti,w1,k1,l1,s1,OY,G0,b1,n1⟩:=Tv (P:=P) (fn:=fn) (ck:=ck) (ds:=ds) (kd:=kd) (ro:=ro) (cs:=cs++bot) (k:=acs.length) (rest:=pre++rest) Ke hi tx hr hN (yh eH _ ho) (fun ha=>hl _ ho (by simp) ha);obtain⟨k1,k2⟩:=k1;have PM:=Ke.tail.2.2;have Ti:Nr N1 acs.length d (pre++rest):=fun p h1 h2 h3=>k2 _ _ _ (fun e=>PM (by rw[←e.2];exact h2)) (hl p h1 (List.mem_cons_of_mem _ h2) h3);have wC:CS N1 Ho acs cs:=(hc.le l1).res (k:=acs.length) (fun b j q hj hb=>k2 b j q (fun e=>by omega) hb) (ao _);obtain⟨N2,Jw,tmps2,w2,e2,l2,s2,dw2,tx2,hr2,b2,n2,lr2,c2⟩:=FH hw eH pre rest N1 Ho ti w1 (Ke.lag hw (hp i (by simp))) (fun j hj=>hp j (by simp[hj])) OY G0 n1 Ti wC;exact⟨N2,Jw,tmps2,w2,e2.trans k1,cX.le_trans l1 l2,Steps.trans s1 s2,dw2,tx2,hr2,b1.trans (TA k1 (by rw[k1];rw[k1]at b2;exact b2)),n2,lr2,c2⟩
def NN.more(N:NN)(b k i:Nat):NN:={n:=N.n,res:=fun x=>if x=b then some (k,i)else N.res x}
theorem OR.more{L:Loc}{b k i:Nat}:∀{ob:iI},OR φ N L w ob→OR φ (N.more b k i) L w ob
 | .cells ..,x=>x
 | .map ..,x=>x
 | .xO ..,x=>x
 | .jW ..,x=>x
 | .mapIter ..,x=>x
 | .loop _,x=>x
 | .deferred _,x=>x
theorem HR.LH{h:H}(hr:HR N φ h w)(ob:iI)(k i:Nat):HR (N.more h.nx k i) φ (h.alloc ob) w:=by
 refine⟨fun x ox hx hn=>?_,fun x ox y oy L1 L2 hx hy h1 h2 e=>?_,fun x hx=>hr.lt x (by have :h.nx+1≤x:=hx;omega),fun x hx=>?_,hr.CD⟩
 ·have q:x≠h.nx:=by intro e;subst e;simp[NN.more]at hn
  have VE:N.res x=none:=by simpa[NN.more,q]using hn
  simp only[H.alloc,T.bS,if_neg q]at hx;obtain⟨L,g1,g2⟩:=hr.obj x ox hx VE;exact⟨L,g1,g2.more⟩
 ·have q:x≠h.nx:=by intro e;subst e;rw[hr.lt _ (ao _)]at h1;cases h1
  have r:y≠h.nx:=by intro e;subst e;rw[hr.lt _ (ao _)]at h2;cases h2
  simp only[H.alloc,T.bS,if_neg q]at hx;simp only[H.alloc,T.bS,if_neg r]at hy;exact hr.inj x ox y oy L1 L2 hx hy h1 h2 e
 ·by_cases q:x=h.nx
  ·subst q;exact⟨hr.lt _ (ao _),Nat.lt_succ_self _⟩
  ·have Nv:N.res x≠none:=by simpa[NN.more,q]using hx
   obtain⟨a,b⟩:=hr.res x Nv;exact⟨a,Nat.lt_succ_of_lt b⟩
theorem TX.ahead{ops:Array Oper}{idx:List Nat}{i:Nat}{o:Oper}{a:bY}{tmps:Array Value}(tx:TX φ ops idx a.nt a.tm tmps)(hi:ops[i]? =some o)(hm:i∈idx)(hE:CB o=true)(v:AV):
  TX φ ops idx a.nt (a.qn o.dst v) tmps:=by
 obtain⟨h1,h2⟩:=tx;refine⟨h1,fun t ht=>?_⟩;have dH:=ht i hm (by unfold isE;rw[hi];exact hE);rw[lM hi]at dH;unfold bY.qn;split
 ·rename_i dd hd
  split
  ·rw[T.bS,if_neg (fun e=>dH (by rw[e];exact hd))];exact h2 t ht
  ·exact h2 t ht
 ·exact h2 t ht
theorem Hp{tm:T AV}{h:H}{c:Call}:(∃d h',bF P tm h (.defer c)= .defer d h')∨bF P tm h (.defer c)= .fail:=by
 obtain⟨callee,args,Kg⟩:=c;unfold bF;cases callee with
 | value f=>
  simp only;split
  ·split
   ·exact .inl ⟨_,_,rfl⟩
   ·exact .inr rfl
  ·exact .inr rfl
 |builtin b=>exact .inr rfl
 |invoke r m=>exact .inr rfl
theorem PW(hK:eN P K){d:qi}(hs:SR N w0 φ s fr cs w)(hd:s.fr.dr=some d)(hm:s.fr.mode= .run)(h:xQ P K s d=some s'):AI P N w0 bot φ fr cs w s':=by
 obtain⟨hF,gI,hh,hb,hN⟩:=hs;obtain⟨idx,ck,hx⟩:=hF.jd hd;obtain⟨g1,g2,g3,g4,g5,g6,g7,g8,g9,zu⟩:=hx;have g8':=g8;rw[hm]at g8';simp only[MR]at g8';unfold xQ at h;split at h
 ·cases h
 ·rename_i hw
  split at h
  ·-- the region ends
   rename_i AJ;split at h
   ·rename_i eH
    cases h;obtain⟨mJ,dC,e9,nL,fg,dM,nM⟩:=fr;simp only at g1 g2 g3 g7 g8' g9 zu;subst g2;subst g8';have nB:=FH (P:=P) (bot:=bot) (fn:=mJ) (ck:=ck) (ds:=nL) (kd:=dM) (ro:=nM) (acs:=s.cs) hw eH idx [] N φ dC w (by rw[aA];exact g5) (fun i _ p hp=>by rw[AJ]at hp;cases hp) (by rw[aA];exact g3) hh hN (by rw[aA];exact g6) gI;rw[aA]at nB;obtain⟨N',gA,mj,w',e1,l1,s1,dw1,OY,G0,b1,n1,lr1,c1⟩:=nB;refine⟨N',gA,_,cs,w',e1,l1,Steps.trans s1 yc,⟨.mk rfl ⟨g1,⟨OY.1,fun t=>OY.2 t (fun j hj _=>by cases hj)⟩,g4.mono fun _ _=>IR.le l1,g7.mono fun _ _=>DR.le l1,?_,g9,zu.le l1⟩,c1,G0,?_,n1⟩⟩
    ·exact g8.le l1
    ·rw[e1];exact hb.trans b1
   ·cases h
  ·rename_i i o rem AJ
   have hi:=(g5.rem (i,o) (by rw[AJ];simp)).2;have him:=(g5.rem (i,o) (by rw[AJ];simp)).1;split at h
   ·-- a block that is laid by
    rename_i CQ;split at h
    ·rename_i t l hl
     cases h;have fW:∀b q,N.res b=some q→b≠s.h.nx:=fun b q hb e=>by
      have:=(hh.res b (by rw[hb];simp)).2;omega
     refine⟨N.more s.h.nx s.cs.length i,φ,fr,cs,w,rfl,φ.le_refl,Steps.refl P _,⟨.Lq (d:={d with rem,early:=(i,o,s.h.nx)::d.early}) rfl (idx:=idx) (ck:=ck) ⟨g1,g2,g3.ahead hi him (by unfold CB;rw[CQ];simp) _,g4,g5.read hw AJ _,?_,g7,g8,g9,zu⟩,?_,hh.LH _ _ _,hb,hN⟩⟩
     ·intro p hp Xk NP
      simp only[an]at hp;rcases hp with rfl|hp
      ·simp[NN.more]
      ·have:=g6 p hp Xk NP
       simp[NN.more,fW _ _ this,this]
     ·exact gI.res (k:=s.cs.length) (fun b j q _ hb=>by simp[NN.more,fW _ _ hb,hb]) (ao _)
    ·cases h
   ·rename_i CQ
    split at h
    ·-- a read
     rename_i v hv;cases h;refine⟨N,φ,fr,cs,w,rfl,φ.le_refl,Steps.refl P _,⟨.Lq (d:={d with rem,early:=(i,o,0)::d.early}) rfl (idx:=idx) (ck:=ck) ⟨g1,g2,g3.ahead hi him (uX hv).2.2.1 _,g4,g5.read hw AJ _,?_,g7,g8,g9,zu⟩,gI,hh,hb,hN⟩⟩;intro p hp Xk NP;simp only[an]at hp;rcases hp with rfl|hp
     ·unfold GA at NP
      rw[CQ,Bool.false_or]at NP;obtain⟨-,-,q1,q2⟩:=tP NP;unfold eR at hv;rw[q1,q2]at hv;cases hv
     ·exact g6 p hp Xk NP
    split at h
    ·cases h
    split at h
    ·-- a row that is laid by
     rename_i LF;rw[az]at LF;split at h
     ·split at h
      ·rename_i t l n hl
       cases h;have fW:∀b q,N.res b=some q→b≠s.h.nx:=fun b q hb e=>by
        have:=(hh.res b (by rw[hb];simp)).2;omega
       refine⟨N.more s.h.nx s.cs.length i,φ,fr,cs,w,rfl,φ.le_refl,Steps.refl P _,⟨.Lq (d:={d with rem,early:=(i,o,s.h.nx)::d.early}) rfl (idx:=idx) (ck:=ck) ⟨g1,g2,g3.ahead hi him (by unfold CB;rw[LF.1];simp) _,g4,g5.read hw AJ _,?_,g7,g8,g9,zu⟩,?_,hh.LH _ _ _,hb,hN⟩⟩
       ·intro p hp Xk NP
        simp only[an]at hp;rcases hp with rfl|hp
        ·simp[NN.more]
        ·have:=g6 p hp Xk NP
         simp[NN.more,fW _ _ this,this]
       ·exact gI.res (k:=s.cs.length) (fun b j q _ hb=>by simp[NN.more,fW _ _ hb,hb]) (ao _)
      ·cases h
     ·cases h
    split at h
    ·rename_i hch eH
     obtain⟨pre,post,rfl⟩:=List.append_of_mem him;have PM:=g5.nodup;rw[List.nodup_append]at PM;have PU:=Dz g5 rfl hch (fun b hb=>by simp only[List.mem_singleton]at hb;subst hb;simp) (fun p hp=>by rw[AJ];simp[hp]);have hpre:∀j,j∈pre→∀p,p∈d.rem→p.1≠j:=by
      intro j hj p hp e;rw[AJ,an]at hp;rcases hp with rfl|hp
      ·exact PM.2.2 j hj i (by simp) e.symm
      ·exact PM.2.2 j hj p.1 (by simp[(PU p hp).1]) e.symm
     obtain⟨mJ,dC,e9,nL,fg,dM,nM⟩:=fr;simp only at g1 g2 g3 g7 g8' g9 zu;subst g2;subst g8';obtain⟨N1,Ho,ti,w1,e1,l1,s1,dw1,OY,G0,b1,n1,lr1,c1⟩:=FH (P:=P) (bot:=bot) (fn:=mJ) (ck:=ck) (ds:=nL) (kd:=dM) (ro:=nM) (acs:=s.cs) hw eH pre (i::post) N φ dC w g5 hpre g3 hh hN g6 gI;obtain⟨x1,x2⟩:=wV (P:=P) (o:=o) G0 n1 OY (dw1.free hi);have dH:∀p,p∈rem→p.1≠i:=fun p hp=>(PU p hp).2;have wD:Below N1.n w0 w1:=by rw[e1];exact hb.trans b1
     have Ke:=dw1.write hw AJ dH;have Xl:=dw1.waits AJ dH;have PX:∀{N2:NN},N2=N1→Nr N2 s.cs.length {d with rem,early:=dQ (cu o.after.toList) d.early} post:=fun e p h1 h2 h3=>by
      subst e;exact lr1 p (kY h1) (by simp[h2]) h3
     have hlagw:Nr N1 s.cs.length {d with rem:=(i,o)::rem,early:=dQ (cu o.after.toList) d.early,wait:=true} (i::post):=fun p h1 h2 h3=>lr1 p (kY h1) h2 h3;have g8w:MR φ s.fr.mode .run:=g8;have hF1:∀{Jw:cX},Ho.le Jw→F2 N1 s.cs.length Jw {s.fr with dr:=some {d with rem:=(i,o)::rem,early:=dQ (cu o.after.toList) d.early,wait:=true}} ⟨mJ,ti,.inRegion d.ops (i::post)::ck,nL,.run,dM,nM⟩:=fun l2=>
      have l:=cX.le_trans l1 l2
      .Lq rfl (idx:=i::post) (ck:=ck) ⟨g1,rfl,OY.le l2,g4.mono fun _ _=>IR.le l,Xl,hlagw,g7.mono fun _ _=>DR.le l,g8w.le l,g9,zu.le l⟩
     unfold qH at h;split at h
     ·rename_i nN
      rw[x1]at nN;generalize qq:bF P (iY s.fr.tm (slotsOf d.ops o)) s.h o.op=r at h x2;by_cases hdf:∃c,o.op= .defer c
      ·obtain⟨c,hc⟩:=hdf
       rw[hc]at qq;rcases Hp (P:=P) (tm:=iY s.fr.tm (slotsOf d.ops o)) (h:=s.h) (c:=c)with⟨dd,CV,e⟩|e<;>rw[e]at qq<;>subst qq<;>cases h
      have nY:nM=none∨∀c,o.op≠.defer c:=.inr fun c e=>hdf ⟨c,e⟩;cases r with
      | val v h'=>
       obtain⟨Jw,cv,w2,r1,r2,r3,r4,r5⟩:=x2;simp only[iO]at h;split at h
       ·rename_i tQ
        cases h;have l:=cX.le_trans l1 r3;refine⟨N1,Jw,_,cs,w2,e1,l,Steps.trans s1 (nJ hi nN nY r1),⟨.Lq (d:={d with rem,early:=dQ (cu o.after.toList) d.early}) rfl (idx:=post) (ck:=ck) ⟨g1,rfl,?_,g4.mono fun _ _=>IR.le l,Ke,PX rfl,g7.mono fun _ _=>DR.le l,g8w.le l,g9,zu.le l⟩,c1.le r3,r4,wD.trans r5,au n1 r5.size⟩⟩;simp only[Frame.finish,hi,aw];exact(OY.le r3).done (a:=s.fr) hi tQ r2
       ·cases h
      | skip h'=>
       obtain⟨Jw,w2,r1,r3,r4,r5⟩:=x2;simp only[iO]at h;split at h
       ·rename_i tQ
        cases h;have l:=cX.le_trans l1 r3;refine⟨N1,Jw,_,cs,w2,e1,l,Steps.trans s1 (Dx hi nN nY r1),⟨.Lq (d:={d with rem,early:=dQ (cu o.after.toList) d.early}) rfl (idx:=post) (ck:=ck) ⟨g1,rfl,?_,g4.mono fun _ _=>IR.le l,Ke,PX rfl,g7.mono fun _ _=>DR.le l,g8w.le l,g9,zu.le l⟩,c1.le r3,r4,wD.trans r5,au n1 r5.size⟩⟩;simp only[Frame.finish,hi,aw];exact(OY.le r3).done (a:=s.fr) hi tQ mQ
       ·cases h
      | enter f args h'=>
       obtain⟨cargs,r1,r2,r3⟩:=x2;simp only[iO]at h;split at h
       ·rename_i v h2 Jv
        split at h
        ·rename_i tQ
         cases h;obtain⟨cv,w2,⟨Jw,cv',q1,r3,q3,r4,r5⟩,jV⟩:=xR (hK.call _ _ _ _ _ Jv N1 Ho w1 cargs r3 n1 r2) (fun e w' ⟨_,cv,he,_⟩=>⟨cv,he⟩) ⟨mJ,ti,.inRegion d.ops (i::post)::ck,nL,.run,dM,nM⟩ (cs++bot);cases q1;have l:=cX.le_trans l1 r3;refine⟨N1,Jw,_,cs,w2,e1,l,Steps.trans s1 (Steps.trans (zr hi nN nY r1) jV),⟨.Lq (d:={d with rem,early:=dQ (cu o.after.toList) d.early}) rfl (idx:=post) (ck:=ck) ⟨g1,rfl,?_,g4.mono fun _ _=>IR.le l,Ke,PX rfl,g7.mono fun _ _=>DR.le l,g8w.le l,g9,zu.le l⟩,c1.le r3,r4,wD.trans r5,au n1 r5.size⟩⟩;simp only[Frame.finish,hi,aw];exact(OY.le r3).done (a:=s.fr) hi tQ q3
        ·cases h
       split at h
       ·rename_i tO uu
        cases h;exact⟨N1,Ho,_,_::cs,w1,e1,l1,Steps.trans s1 (zr hi nN nY r1),⟨.mk (mZ uu) (kZ r2 uu),⟨_,_,rfl,hF1 Ho.le_refl,c1⟩,r3,wD,n1⟩⟩
       ·cases h
      | ext f args h'=>
       obtain⟨cargs,r1,r2,r3⟩:=x2;simp only[iO]at h;split at h
       ·rename_i v h2 Jv
        split at h
        ·rename_i tQ
         cases h;obtain⟨Jw,cv,w2,q1,r3',q3,r4,r5⟩:=hK.ext _ _ _ _ _ Jv N1 Ho w1 cargs r3 n1 r2;rw[q1]at r1;have l:=cX.le_trans l1 r3';refine⟨N1,Jw,_,cs,w2,e1,l,Steps.trans s1 (nJ hi nN nY r1),⟨.Lq (d:={d with rem,early:=dQ (cu o.after.toList) d.early}) rfl (idx:=post) (ck:=ck) ⟨g1,rfl,?_,g4.mono fun _ _=>IR.le l,Ke,PX rfl,g7.mono fun _ _=>DR.le l,g8w.le l,g9,zu.le l⟩,c1.le r3',r4,wD.trans r5,au n1 r5.size⟩⟩;simp only[Frame.finish,hi,aw];exact(OY.le r3').done (a:=s.fr) hi tQ q3
        ·cases h
       ·cases h
      | round lp args h'=>
       obtain⟨L,cargs,hL,r1,r2,r3⟩:=x2;simp only[iO]at h;split at h
       ·rename_i rl hlp
        split at h
        ·rename_i tm' SW
         cases h;obtain⟨mj,hy,htr⟩:=DE (P:=P) r3 hlp hL r2 SW;rw[hy]at r1;exact⟨N1,Ho,_,_::cs,w1,e1,l1,Steps.trans s1 (LA hi nN nY r1),⟨.mk rfl ⟨rfl,htr,⟨rfl,rfl,rfl,trivial⟩,trivial,rfl,rfl,⟨L,hL,rfl⟩⟩,⟨_,_,rfl,hF1 Ho.le_refl,c1⟩,r3,wD,n1⟩⟩
        ·cases h
       ·cases h
      |_=>simp only[iO]at h;cases h
     ·rename_i nN
      rw[x1]at nN;simp only[iO]at h;split at h
      ·rename_i tQ
       cases h;refine⟨N1,Ho,_,cs,w1,e1,l1,Steps.trans s1 (An (by rw[hi];simp only[Option.map_some,Option.getD_some];exact nN)),⟨.Lq (d:={d with rem,early:=dQ (cu o.after.toList) d.early}) rfl (idx:=post) (ck:=ck) ⟨g1,rfl,?_,g4.mono fun _ _=>IR.le l1,Ke,PX rfl,g7.mono fun _ _=>DR.le l1,g8w.le l1,g9,zu.le l1⟩,c1,G0,wD,n1⟩⟩;simp only[Frame.finish,hi,aw];exact OY.done (a:=s.fr) hi tQ mQ
      ·cases h
    ·cases h
theorem NQ{id:Nat}{ops:Array Oper}{k:List iL}{d:qi}(hs:SR N w0 φ s fr cs w)(jS:s.fr.dr=none)(hm:s.fr.mode= .run)(ht:s.fr.todo= .code (.region id ops true)::k)
  (Xp:P.follows .mixedOrders=true)(hd:sY ops=some d)(h:some {s with fr:={s.fr with todo:=k,dr:=some d}}=some s'):AI P N w0 bot φ fr cs w s':=by
 obtain⟨hF,gI,hh,hb,hN⟩:=hs;obtain⟨f1,f2,f3,f4,f5,f6,f7⟩:=hF.un jS;have nZ:=f5;rw[hm]at nZ;simp only[MR]at nZ;rw[ht]at f3;obtain⟨ci,ck,kE,Cx,hk⟩:=bH.bM.1 f3;simp only[IR]at Cx;subst Cx;cases h;obtain⟨mJ,dC,e9,nL,fg,dM,nM⟩:=fr;simp only at kE nZ;subst kE;subst nZ;obtain⟨t,jV⟩:=Xo (P:=P) (w:=w) (fn:=mJ) (tmps:=dC) (k:=ck) (ds:=nL) (kd:=dM) (ro:=nM) (cs:=cs++bot) Xp (id:=id) (ops:=ops);obtain⟨e1,e2,e3,e4⟩:=Tu hd t;refine⟨N,φ,_,cs,_,rfl,φ.le_refl,jV,⟨.Lq (d:=d) rfl (idx:=Region.linearise .any ops t) (ck:=ck) ⟨f1,by rw[e1],⟨f2.1,fun i _=>f2.2 i⟩,hk,e4,?_,f4,f5,f6,f7⟩,gI,hh.zm rfl,hb.trans ⟨rfl,rfl,rfl,ao _,fun _ _=>rfl⟩,hN⟩⟩;intro p hp;rw[e3]at hp;cases hp
end
end Go.AX
namespace Go.AX
noncomputable section
open Go.RowKit
def AK(x:AV)(h:H):Option (List (AV×H)):=
 match x with
 | .ptr r 0=>match h.t.get r with
  | some (.mapIter (some m) since seen last)=>match mapOf (h.t.get m)with
   | some (es,clock)=>match(es.all fun e=>aH e.2.2 since)&&Nat.ble since last with
    |true=>match es.filter (fun e=>iM seen e.2.2)with
     |[]=>some [(.tuple [.bool false],h)]
     |u::us=>some ((u::us).map fun e=>(.tuple [.bool true,e.1,e.2.1],{h with t:=h.t.set r (some (.mapIter (some m) since (seen++[e.2.2]) clock))}))
    |false=>none
   |_=>none
  |_=>none
 |_=>none
def Hq(tm:T AV)(h:H)(o:Op):Option (List (AV×H)):=
 match o with
 | .next x false=>match bP tm x with
  |some v=>AK v h
  |none=>none
 |_=>none
section
variable{P:Program}{N:NN}{φ:cX}{w:World}{h:H}
theorem Hr:∀{es:List (AV×AV×Nat)}{dc:List MapEntry}(since:Nat),bH (nA φ) es dc→(es.all fun e=>aH e.2.2 since)=true→∀x,x∈dc→x.born<since
 |[],dc,_,he,_=>by rw[bH.ct]at he;subst he;intro x hx;cases hx
 |e::es,dc,since,he,ha=>by
  obtain⟨ce,cr,rfl,⟨h1,h2,h3⟩,hr⟩:=bH.bM.1 he;rw[List.all_cons,az]at ha;intro x hx;rcases List.mem_cons.1 hx with rfl|hx
  ·rw[h3];have:=al ha.1;omega
  ·exact Hr since hr ha.2 x hx
theorem bH.DF{α β:Type}{R:α→β→Prop}:∀{l:List α}{m:List β},bH R l m→∀y,y∈m→∃x,x∈l∧R x y
 |[],m,ha,y,hy=>by rw[bH.ct]at ha;subst ha;cases hy
 | a::l,m,ha,y,hy=>by
  obtain⟨b,r,rfl,NB,hr⟩:=bH.bM.1 ha;rcases List.mem_cons.1 hy with rfl|hy
  ·exact⟨a,by simp,NB⟩
  ·obtain⟨x,hx,hR⟩:=bH.DF hr y hy
   exact⟨x,by simp[hx],hR⟩
theorem NR(hr:HR N φ h w){t:TypeId}{x:AV}{cx:Value}(hx:VR φ x cx){L:List (AV×H)}(hu:AK x h=some L):
  ∃y,y∈L∧qD P N φ w (Instr.next cx false t) y.1 y.2:=by
 unfold AK at hu;split at hu
 ·rename_i r
  simp only[dS]at hx;obtain⟨La,hL,rfl⟩:=hx;split at hu
  ·rename_i m since seen last hb
   split at hu
   ·rename_i es clock hm
    split at hu
    ·rename_i hc
     rw[az]at hc;obtain⟨⟨hN,Du⟩,m',g1,M,hM,rfl⟩:=hr.get hb hL;obtain⟨dc,g3,g4⟩:=hr.mapOf hm hM;have hold:=Hr since g4 hc.1;have hsc:since≤last:=al hc.2;have zb:=tN seen es dc.toList g4;have SV:(leftOf dc seen.toArray).toList=dc.toList.filter fun e=> !seen.toArray.contains e.born:=by unfold leftOf;simp
     rw[←SV]at zb;rcases run_next_at (P:=P) w t La.B M.B since last seen.toArray dc clock g1 g3 hold hsc with⟨q1,q2⟩|⟨e,he,w1,q3,q4⟩
     ·have qo:es.filter (fun e=>iM seen e.2.2)=[]:=by
       have h0:(leftOf dc seen.toArray).toList=[]:=by rw[←List.length_eq_zero_iff,aB];exact q1
       rw[h0]at zb;generalize es.filter (fun e=>iM seen e.2.2)=l at zb;cases l with
       |nil=>rfl
       |cons a l=>
        obtain⟨c,cr,q,_⟩:=bH.bM.1 zb;cases q
      rw[qo]at hu;cases hu;exact⟨_,List.mem_singleton.2 rfl,Pu.pV hr ⟨.tuple #[.bool false],by simp only[Du,aJ];exact q2,by simp[bH]⟩⟩
     ·obtain⟨a,ha,e1,e2,e3⟩:=bH.DF zb e he
      have hL2:L=(es.filter (fun e=>iM seen e.2.2)).map fun e=>((.tuple [.bool true,e.1,e.2.1],{h with t:=h.t.set r (some (.mapIter (some m) since (seen++[e.2.2]) clock))}):AV×H):=by
       split at hu
       ·rename_i hn;rw[hn]at ha;cases ha
       ·rename_i u us hn;rw[hn];exact(Option.some.inj hu).symm
      have G0:HR N φ h w1:=by rcases q3 with rfl|rfl;exact hr;exact hr.zm rfl
      have wD:Below N w w1:=by rcases q3 with rfl|rfl;exact Below.refl _ _;exact⟨rfl,rfl,rfl,ao _,fun _ _=>rfl⟩
      have g1':w1.heap[La.B]? =some (.mapIter (some M.B) since seen.toArray last):=by rcases q3 with rfl|rfl<;>exact g1
      have Gt:OR φ N La (jg w1 La.B (.mapIter (some M.B) since (seen.toArray.push e.born) clock)) (.mapIter (some m) since (seen++[a.2.2]) clock):=by
       refine⟨⟨hN,Du⟩,some M.B,?_,M,hM,rfl⟩;rw[eY (G0.get hb hL).lt,if_pos rfl,e3];simp
      refine⟨(.tuple [.bool true,a.1,a.2.1],{h with t:=h.t.set r (some (.mapIter (some m) since (seen++[a.2.2]) clock))}),by rw[hL2];exact List.mem_map.2 ⟨a,ha,rfl⟩,?_⟩;refine⟨φ,.tuple #[.bool true,e.key,e.val],jg w1 La.B (.mapIter (some M.B) since (seen.toArray.push e.born) clock),?_,by simp[bH,e1,e2],φ.le_refl,
       G0.set hb hL _ (fun k hk=>by rw[eY (G0.get hb hL).lt,if_neg hk]) Gt,wD.trans (fF _ hN)⟩
      simp only[Du,aJ];exact q4
    ·cases hu
   ·cases hu
  ·cases hu
 ·cases hu
end
section
variable{P:Program}{N:NN}{φ:cX}{w0 w:World}{bot:List Frame}{s:S}{fr:Frame}{cs:List Frame}
theorem PY{tm:T AV}{h:H}{o:Op}{L:List (AV×H)}(hp:Hq tm h o=some L):∃x v,o= .next x false∧bP tm x=some v∧AK v h=some L:=by
 unfold Hq at hp;split at hp
 ·rename_i x
  split at hp
  ·rename_i v hv;exact⟨x,v,rfl,hv,hp⟩
  ·cases hp
 ·cases hp
theorem PZ{ops:Array Oper}{o:Oper}{l:List Oper}{k:List iL}(hs:SR N w0 φ s fr cs w)(jS:s.fr.dr=none)(hm:s.fr.mode= .run)(ht:s.fr.todo= .ops ops (o::l)::k)
  (hw:jA s.fr ops o=true){L:List (AV×H)}(hp:Hq s.fr.tm s.h o.op=some L)(iu:∀v,∃c',s.fr.finish v=some c'):∃y c',y∈L∧s.fr.finish y.1=some c'∧CU P N w0 bot φ fr cs w ⟨c',s.cs,y.2⟩:=by
 obtain⟨hF,gI,hh,hb,hN⟩:=hs;have hf:=hF.un jS;obtain⟨f1,f2,f3,f4,f5,f6,f7⟩:=hf;rw[hm]at f5;simp only[MR]at f5;rw[ht]at f3;obtain⟨ci,ck,kE,⟨idx,Hl,FE⟩,hk⟩:=bH.bM.1 f3;subst Hl;obtain⟨i,rest,rfl,ho,LG⟩:=sx FE;rw[tR f2]at hw;obtain⟨x,v,Ao,hv,hL⟩:=PY hp;obtain⟨y,hy,hvok⟩:=NR (P:=P) hh (t:=o.type) (bR f2 hv) hL;obtain⟨gA,cv,w',e,VF,hle,CV,mz⟩:=hvok.rr;obtain⟨c',mV⟩:=iu y.1;obtain⟨mJ,dC,e9,nL,fg,dM,nM⟩:=fr;simp only at kE f5 hw;subst kE;subst f5;refine⟨y,c',hy,mV,gA,_,cs,w',hle,nJ ho hw (.inr fun c q=>by rw[Ao]at q;cases q) ?_,⟨ig (hF.le hle) VF mV,gI.le hle,CV,hb.trans mz,au hN mz.size⟩⟩;obtain⟨od,oop,oty,opos,oaf,og⟩:=o;simp only at Ao;subst Ao;exact e
end
end
end Go.AX
namespace Go.AX
open Go.RowKit
section
variable{P:Program}{K:lI}{N:NN}{φ:cX}{w0 w:World}{bot:List Frame}{s s':S}{fr:Frame}{cs:List Frame}
theorem NS(hK:eN P K)(hs:SR N w0 φ s fr cs w)(jS:s.fr.dr=none)(h:jN P K s=some s'):AI P N w0 bot φ fr cs w s':=by
 unfold jN at h;split at h
 ·rename_i hm
  have qL:=hs;obtain⟨hF,gI,hh,hb,hN⟩:=hs;obtain⟨f1,f2,f3,f4,f5,f6,f7⟩:=hF.un jS;have nZ:=f5;rw[hm]at nZ;simp only[MR]at nZ;split at h
  ·rename_i ht
   rw[ht,bH.ct]at f3;exact(sy qL jS hm h (.inl ⟨f3,rfl⟩)).n
  ·rename_i ops l k ht
   have f3':=f3;rw[ht]at f3';obtain⟨ci,ck,kE,⟨idx,Hl,FE⟩,hk⟩:=bH.bM.1 f3';subst Hl;split at h
   ·-- the region ends
    simp only[List.map_nil,List.map_eq_nil_iff]at FE;subst FE;obtain⟨mJ,dC,e9,nL,fg,dM,nM⟩:=fr;simp only at kE nZ;subst kE;subst nZ;exact(jJ qL jS h yc hk).n
   ·rename_i o l'
    split at h
    ·rename_i hw;exact(NM hK qL jS hm ht hw h).n
    ·rename_i hw
     split at h
     ·rename_i tO iu
      cases h;obtain⟨i,rest,rfl,ho,LG⟩:=sx FE;have Ph:=ig qL.fr mQ iu;rw[tR f2]at hw;obtain⟨mJ,dC,e9,nL,fg,dM,nM⟩:=fr;simp only at kE nZ hw;subst kE;subst nZ;exact⟨N,φ,_,cs,w,rfl,φ.le_refl,An (by rw[ho];exact hw),⟨Ph,gI,hh,hb,hN⟩⟩
     ·cases h
  ·rename_i c k ht
   have f3':=f3;rw[ht]at f3';obtain⟨ci,ck,kE,Cx,hk⟩:=bH.bM.1 f3';simp only[IR]at Cx;subst Cx;cases c with
   |rangeFunc f ps a b=>exact(CW qL jS hm ht h).n
   |ret=>exact(sy qL jS hm h (.inr (.inl ⟨⟨ck,kE⟩,rfl⟩))).n
   | exit id=>
    simp only at h;obtain⟨e1,e2⟩:=AF (id:=id) hk;split at h
    ·rename_i k' CC
     obtain⟨Xm,q1,q2⟩:=e1 _ CC;obtain⟨mJ,dC,e9,nL,fg,dM,nM⟩:=fr;simp only at kE nZ;subst kE;subst nZ;exact(jJ qL jS h (Xh q1) q2).n
    ·rename_i CC
     exact(sy qL jS hm h (.inr (.inr (.inl ⟨id,ck,kE,e2 CC,rfl⟩)))).n
   | goto id=>
    simp only at h;obtain⟨e1,e2⟩:=AG (id:=id) hk;split at h
    ·rename_i k' CC
     obtain⟨Xm,q1,q2⟩:=e1 _ CC;obtain⟨mJ,dC,e9,nL,fg,dM,nM⟩:=fr;simp only at kE nZ;subst kE;subst nZ;exact(jJ qL jS h (Xi q1) q2).n
    ·rename_i CC
     exact(sy qL jS hm h (.inr (.inr (.inr ⟨id,ck,kE,e2 CC,rfl⟩)))).n
   |refuse why=>cases h
   |skip=>
    obtain⟨mJ,dC,e9,nL,fg,dM,nM⟩:=fr;simp only at kE nZ;subst kE;subst nZ;exact(jJ qL jS h Xf hk).n
   |label l=>
    obtain⟨mJ,dC,e9,nL,fg,dM,nM⟩:=fr;simp only at kE nZ;subst kE;subst nZ;exact(jJ qL jS h Tp hk).n
   |seq a b=>
    obtain⟨mJ,dC,e9,nL,fg,dM,nM⟩:=fr;simp only at kE nZ;subst kE;subst nZ;exact(jJ qL jS h m_seq ⟨rfl,rfl,hk⟩).n
   |block id c=>
    obtain⟨mJ,dC,e9,nL,fg,dM,nM⟩:=fr;simp only at kE nZ;subst kE;subst nZ;exact(jJ qL jS h Tq ⟨rfl,rfl,hk⟩).n
   |loop c=>
    obtain⟨mJ,dC,e9,nL,fg,dM,nM⟩:=fr;simp only at kE nZ;subst kE;subst nZ;exact(jJ qL jS h Xg ⟨rfl,rfl,hk⟩).n
   |scope c=>
    obtain⟨mJ,dC,e9,nL,fg,dM,nM⟩:=fr;simp only at kE nZ;subst kE;subst nZ;exact(jJ qL jS h Tr ⟨rfl,rfl,hk⟩).n
   | cond c a b=>
    simp only at h;split at h
    ·rename_i hc
     have hv:=bR f2 hc;simp only[fa]at hv;obtain⟨mJ,dC,e9,nL,fg,dM,nM⟩:=fr;simp only at kE nZ hv;subst kE;subst nZ;exact(jJ qL jS h (PI hv) ⟨rfl,hk⟩).n
    ·rename_i hc
     have hv:=bR f2 hc;simp only[fa]at hv;obtain⟨mJ,dC,e9,nL,fg,dM,nM⟩:=fr;simp only at kE nZ hv;subst kE;subst nZ;exact(jJ qL jS h (PI hv) ⟨rfl,hk⟩).n
    ·cases h
   | region id ops draw=>
    simp only at h;split at h
    ·obtain⟨mJ,dC,e9,nL,fg,dM,nM⟩:=fr
     simp only at kE nZ;subst kE;subst nZ;exact(jJ qL jS h PK ⟨⟨_,rfl,NK ops⟩,hk⟩).n
    ·split at h
     ·rename_i d Xp hd
      exact NQ qL jS hm ht Xp hd h
     ·cases h
  ·rename_i id k ht
   rw[ht]at f3;obtain⟨ci,ck,kE,Cx,hk⟩:=bH.bM.1 f3;simp only[IR]at Cx;subst Cx;obtain⟨mJ,dC,e9,nL,fg,dM,nM⟩:=fr;simp only at kE nZ;subst kE;subst nZ;exact(jJ qL jS h ND hk).n
  ·rename_i c k ht
   rw[ht]at f3;obtain⟨ci,ck,kE,Cx,hk⟩:=bH.bM.1 f3;simp only[IR]at Cx;subst Cx;obtain⟨mJ,dC,e9,nL,fg,dM,nM⟩:=fr;simp only at kE nZ;subst kE;subst nZ;exact(jJ qL jS h NF hk).n
  ·rename_i c k ht
   rw[ht]at f3;obtain⟨ci,ck,kE,Cx,hk⟩:=bH.bM.1 f3;simp only[IR]at Cx;subst Cx;obtain⟨mJ,dC,e9,nL,fg,dM,nM⟩:=fr;simp only at kE nZ;subst kE;subst nZ;exact(jJ qL jS h PJ ⟨rfl,rfl,hk⟩).n
  ·cases h
  ·rename_i k ht
   rw[ht]at f3;obtain⟨ci,ck,kE,Cx,hk⟩:=bH.bM.1 f3;simp only[IR]at Cx;subst Cx;split at h
   ·rename_i l pW
    have h7:=f7;rw[pW]at h7;obtain⟨L,hL,Hj⟩:=h7;split at h
    ·rename_i r hl
     split at h
     ·rename_i jV
      cases h;obtain⟨tmps,D,g0,g1,g2,g3,g4⟩:=qX (P:=P) hh hl hL;have NL:=AH (r':={r with state:=.busy}) hh hl hL (tmps:=tmps) (D:=D) g2 g3 g0;have nB:(Instr.beginRound L.B).run P w= .ok () (jg w L.B (.loop {state:=.busy,pending:=r.pending,fn:=r.fn,tmps,params:=r.params.toArray,assign:=r.assign,body:=r.body,defers:=D})):=by
       simp only[Instr.beginRound,Sem.run_bind,g4,Result.andThen_ok,ey g1 (fun _ _ _=>by simp),jV,Sem.run_pure]
      obtain⟨mJ,dC,e9,nL,fg,dM,nM⟩:=fr;simp only at kE nZ Hj;subst kE;subst nZ;subst Hj;exact⟨N,φ,_,cs,_,rfl,φ.le_refl,Fx nB,⟨.mk jS ⟨f1,f2,hk,f4,f5,f6,f7⟩,gI,NL,hb.trans (fF _ g0),by rw[kU];exact hN⟩⟩
     ·cases h
    ·cases h
   ·cases h
  ·rename_i l k ht
   rw[ht]at f3;obtain⟨ci,ck,kE,⟨L,hL,Cx⟩,hk⟩:=bH.bM.1 f3;subst Cx;split at h
   ·rename_i r hl
    obtain⟨tmps,D,g0,g1,g2,g3,g4⟩:=qX (P:=P) hh hl hL;split at h
    ·cases h
    ·rename_i jV
     have NL:=AH (r':={r with state:=.exhausted}) hh hl hL (tmps:=tmps) (D:=D) g2 g3 g0;have nB:(Instr.endLoop L.B).run P w= .ok r.pending (jg w L.B (.loop {state:=.exhausted,pending:=r.pending,fn:=r.fn,tmps,params:=r.params.toArray,assign:=r.assign,body:=r.body,defers:=D})):=by
      have dH:(r.state==LoopState.busy)=false:=by
       cases hrs:r.state with
       |busy=>exact absurd hrs jV
       |ready=>rfl
       |done=>rfl
       |exhausted=>rfl
      simp only[Instr.endLoop,Sem.run_bind,g4,Result.andThen_ok,dH,aG,if_false,ey g1 (fun _ _ _=>by simp),Sem.run_pure]
     obtain⟨mJ,dC,e9,nL,fg,dM,nM⟩:=fr;simp only at kE nZ;subst kE;subst nZ;have jV:=J9 (P:=P) (fn:=mJ) (tmps:=dC) (k:=ck) (ds:=nL) (kd:=dM) (ro:=nM) (cs:=cs++bot) nB;split at h
     ·rename_i c hc
      cases h;rw[show(r.pending.map Item.code).toList++ck= .code c::ck by rw[hc];rfl]at jV;exact⟨N,φ,_,cs,_,rfl,φ.le_refl,jV,⟨.mk jS ⟨f1,f2,⟨rfl,hk⟩,f4,f5,f6,f7⟩,gI,NL,hb.trans (fF _ g0),by rw[kU];exact hN⟩⟩
     ·rename_i hc
      cases h;rw[show(r.pending.map Item.code).toList++ck=ck by rw[hc];rfl]at jV;exact⟨N,φ,_,cs,_,rfl,φ.le_refl,jV,⟨.mk jS ⟨f1,f2,hk,f4,f5,f6,f7⟩,gI,NL,hb.trans (fF _ g0),by rw[kU];exact hN⟩⟩
   ·cases h
 ·rename_i hm
  exact(Kl hs jS (fun e=>hm e) h).n
theorem Hs(hK:eN P K)(hs:SR N w0 φ s fr cs w)(h:dV P K s=some s'):AI P N w0 bot φ fr cs w s':=by
 unfold dV at h;split at h
 ·rename_i hd;exact NS hK hs hd h
 ·rename_i d hd
  split at h
  ·rename_i hm;exact PW hK hs hd hm h
  ·rename_i chain hm
   unfold VD at h;split at h
   ·rename_i c acs fn Xn hc OX
    obtain⟨hF,gI,hh,hb,hN⟩:=hs;obtain⟨f1,f4⟩:=hF.PT;have f5:=hF.mode;rw[hc]at gI;obtain⟨cc,zn,rfl,wC,nI⟩:=gI;rw[hm]at f5;obtain⟨l',f5,hl⟩:=f5;rw[Xn,bH.ct]at f4;split at h
    ·rename_i c' hra
     cases h;obtain⟨mJ,dC,e9,nL,fg,dM,nM⟩:=fr;simp only at f1 f4 f5;subst f4;subst f5;rw[←f1]at OX;exact(show CU P N w0 bot φ _ _ w (⟨c',acs,s.h⟩:S)from⟨φ,_,zn,w,φ.le_refl,LB OX,⟨wW wC hl hra,nI,hh,hb,hN⟩⟩).n
    ·cases h
   ·cases h
  ·cases h
theorem FI(hK:eN P K){f:FuncId}:∀(n:Nat)(N:NN)(φ:cX)(s:S)(fr:Frame)(cs:List Frame)(w:World)(v:AV)(h':H),SR N w0 φ s fr cs w→No P K f n s=some (v,h')→
  ∃N':NN,∃gA tO w' cv,N'.n=N.n∧φ.le gA∧Steps P (lone fr (cs++bot) w) (lone tO bot w')∧tO.fn=f∧tO.leaving P w' (.returned cv)∧VR gA v cv∧HR N' gA h' w'∧Below N.n w0 w'
 |0,_,_,_,_,_,_,_,_,_,h=>by cases h
 | n +1,N,φ,s,fr,cs,w,v,h',hs,h=>by
  simp only[No]at h;split at h
  ·rename_i hm hd hc
   split at h
   ·rename_i v' hf hk hdn
    cases h;unfold Pb at hdn;split at hdn
    ·rename_i jS _ _ _
     obtain⟨hF,gI,hh,hb,hN⟩:=hs;obtain⟨f1,f2,f3,f4,f5,f6,f7⟩:=hF.un jS;rw[hc]at gI;replace gI:cs=[]:=gI;subst gI;rw[hm]at f5;simp only[MR]at f5;rw[hd,bH.ct]at f4;have OW:=ak hf;split at hdn
     ·rename_i fn OX
      obtain⟨cv,r1,r2⟩:=Hn (P:=P) hh f2 hdn;exact⟨N,φ,fr,w,cv,rfl,φ.le_refl,Steps.refl P _,f1.trans OW,⟨f5,f4,f6.trans hk,fn,by rw[f1];exact OX,r1⟩,r2,hh,hb⟩
     ·cases hdn
    ·cases hdn
   ·cases h
  ·split at h
   ·rename_i s1 jV
    obtain⟨N1,Ho,Xq,NT,w1,e1,l1,gh,sr1⟩:=Hs hK (bot:=bot) hs jV;obtain⟨N2,Jw,fr2,w2,cv,e2,l2,st2,r1,r2,r3,r4,r5⟩:=FI hK n N1 Ho s1 Xq NT w1 v h' sr1 h;exact⟨N2,Jw,fr2,w2,cv,e2.trans e1,cX.le_trans l1 l2,Steps.trans gh st2,r1,r2,r3,r4,by rw[←e1];exact r5⟩
   ·cases h
theorem AL(hK:eN P K){n:Nat}{f:FuncId}{args:List AV}{cargs:Array Value}{h h':H}{v:AV}(hc:Lk P K n f args h=some (v,h'))(hr:HR N φ h w)(hN:N≤w.heap.size)
  (ha:bH (VR φ) args cargs.toList):Calls P f cargs w fun e w'=>∃N':NN,∃gA cv,N'.n=N.n∧e= .returned cv∧φ.le gA∧VR gA v cv∧HR N' gA h' w'∧Below N.n w w':=by
 intro bot;unfold Lk at hc;split at hc
 ·rename_i fr0 uu
  have hsr:SR N w φ {fr:=fr0,cs:=[],h} (Frame.enter P f cargs .normal) [] w:=⟨.mk (mZ uu) (kZ ha uu),rfl,hr,Below.refl _ _,hN⟩;obtain⟨N',gA,tO,w',cv,e,l,st,hf,hl,hv,hh,hb⟩:=FI hK (bot:=bot) n N φ _ _ _ w v h' hsr hc;exact⟨.returned cv,w',tO,⟨N',gA,cv,e,rfl,l,hv,hh,hb⟩,st,hf,hl⟩
 ·cases hc
theorem P0(n:Nat)(w:World):HR ⟨w.heap.size,fun _=>none⟩ (fun _=>none) ⟨.e,n,0⟩ w:=
 ⟨(fun b o h=>by cases h),(fun b o b' o' L L' h=>by cases h),(fun b _=>rfl),(fun b h=>absurd rfl h),fun g h=>absurd h (Nat.not_lt_zero g)⟩
end
end Go.AX
namespace Go.AX
open Go.RowKit
def yes(r:Option (AV×H)):Bool:=
 match r with
 |some (.bool true,_)=>true
 |_=>false
theorem Km{P:Program}{K:lI}(hK:eN P K){n:Nat}{f:FuncId}(h:yes (Lk P K n f [] ⟨.e,0,0⟩)=true)(w:World):
  Calls P f #[] w fun e w'=>e= .returned (.bool true)∧Below w.heap.size w w':=by
 unfold yes at h;split at h
 ·rename_i h' hc
  refine(AL hK hc (P0 0 w) (ao _) (cargs:= #[]) trivial).mono ?_;rintro e w' ⟨N',φ,cv,_,he,_,hv,_,hb⟩;rw[fa]at hv;subst hv;exact⟨he,hb⟩
 ·cases h
end Go.AX
namespace Go.AX
open Go.Maps
def ja(s:List Nat):List (List Nat)→List (List Nat)
 |[]=>[s]
 |t::l=>match cE t s with
  |true=>t::ja s l
  |false=>s::t::l
def fJ:List (List Nat)→List (List Nat)
 |[]=>[]
 |s::l=>ja s (fJ l)
def kF(l:List UInt8):List Nat:=l.map UInt8.toNat
theorem FJ:∀(a b:List UInt8),cE (kF a) (kF b)=true↔a<b
 |_,[]=>by simp[kF,cE]
 |[],y::b=>by simp[kF,cE]
 | x::a,y::b=>by
  have ih:=FJ a b;simp only[kF,aq,cE]at ih ⊢;rw[List.cons_lt_cons_iff];cases h:aH x.toNat y.toNat with
  |true=>
   have :x.toNat<y.toNat:=al h;simp[UInt8.lt_iff_toNat_lt,this]
  | false=>
   have hn:¬x.toNat<y.toNat:=fun e=>by rw[show aH x.toNat y.toNat=true from Nat.ble_eq_true_of_le e]at h;cases h
   simp only;cases h2:aD x.toNat y.toNat with
   |true=>
    have e:=UInt8.toNat_inj.1 (ak h2);subst e;simp only[ih];simp
   |false=>
    have dH:x≠y:=fun e=>by subst e;rw[Nat.beq_refl]at h2;cases h2
    simp[UInt8.lt_iff_toNat_lt,hn,dH]
theorem mB(s:List Nat):∀l,(ja s l).Perm (s::l)
 |[]=>.refl _
 |t::l=>by
  simp only[ja];split
  ·exact((mB s l).cons t).trans (.swap _ _ _)
  ·exact .refl _
theorem fe:∀l,(fJ l).Perm l
 |[]=>.refl _
 |s::l=>(mB s (fJ l)).trans ((fe l).cons s)
def SX(a b:List Nat):Prop:=cE b a=false
theorem qZ(a b:List UInt8):SX (kF a) (kF b)↔a≤b:=by
 unfold SX;have:=FJ b a;constructor
 ·intro h
  by_cases h2:a≤b
  ·exact h2
  ·rw[List.not_le]at h2
   rw[this.2 h2]at h;cases h
 ·intro h
  cases h2:cE (kF b) (kF a)with
  |false=>rfl
  |true=>exact absurd (this.1 h2) (List.not_lt.2 h)
theorem yi{s x:List Nat}{l:List (List Nat)}:x∈ja s l↔x=s∨x∈l:=by
 rw[(mB s l).mem_iff,an]
theorem q_{s:List UInt8}:∀{l:List (List UInt8)},(l.map kF).Pairwise SX→(ja (kF s) (l.map kF)).Pairwise SX
 |[],_=>by simp[ja]
 | t::l,h=>by
  simp only[aq,aC]at h;simp only[aq,ja];cases hc:cE (kF t) (kF s)with
  |true=>
   simp only[aC];refine⟨fun x hx=>?_,q_ h.2⟩;rcases yi.1 hx with rfl|hx
   ·rw[qZ];exact List.le_of_lt ((FJ t s).1 hc)
   ·exact h.1 x hx
  | false=>
   have jV:s≤t:=(qZ s t).1 hc;simp only[aC];refine⟨fun x hx=>?_,h.1,h.2⟩;simp only[an,List.mem_map]at hx;rcases hx with rfl|⟨y,hy,rfl⟩
   ·exact hc
   ·have:=(qZ t y).1 (h.1 _ (List.mem_map.2 ⟨y,hy,rfl⟩))
    rw[qZ];exact List.le_trans jV this
theorem yj:∀(l:List (List UInt8)),∃m:List (List UInt8),fJ (l.map kF)=m.map kF∧m.Perm l∧(m.map kF).Pairwise SX
 |[]=>⟨[],rfl,.refl _,by simp⟩
 | s ::l=>by
  obtain⟨m,h1,h2,h3⟩:=yj l;have hs:=q_ (s:=s) h3;have hp:=mB (kF s) (m.map kF);simp only[aq,fJ,h1];obtain⟨m',e,hm'⟩:∃m':List (List UInt8),ja (kF s) (m.map kF)=m'.map kF∧m'.Perm (s::m):=by
   clear hs hp h1 h2 h3;induction m with
   |nil=>exact⟨[s],rfl,.refl _⟩
   | cons t m ih=>
    simp only[aq,ja];split
    ·obtain⟨m',e,hp⟩:=ih
     exact⟨t::m',by rw[e];rfl,(hp.cons t).trans (.swap _ _ _)⟩
    ·exact⟨s::t::m,rfl,.refl _⟩
  refine⟨m',e,hm'.trans (h2.cons s),?_⟩;rw[←e];exact hs
theorem zg{l ss:List (List UInt8)}(h:ss.Perm l):fJ (l.map kF)=(ss.mergeSort leB).map kF:=by
 obtain⟨m,h1,h2,h3⟩:=yj l;rw[h1];congr 1;have tr:∀a b c:List UInt8,leB a b=true→leB b c=true→leB a c=true:=fun a b c h1 h2=>by simp only[leB,decide_eq_true_eq]at *;exact List.le_trans h1 h2
 have to:∀a b:List UInt8,(leB a b||leB b a)=true:=fun a b=>by simp only[leB,Bool.or_eq_true,decide_eq_true_eq];exact List.le_total a b
 have hm:m.Pairwise (fun a b=>leB a b=true):=by
  rw[List.pairwise_map]at h3;refine h3.imp fun{a b} NB=>?_;simp only[leB,decide_eq_true_eq];exact(qZ a b).1 NB
 refine List.Perm.eq_of_pairwise (le:=fun a b=>leB a b=true) (fun a b _ _ h1 h2=>?_) hm (List.pairwise_mergeSort tr to ss) ((h2.trans h.symm).trans (List.mergeSort_perm ss leB).symm);simp only[leB,decide_eq_true_eq]at h1 h2;exact List.le_antisymm h1 h2
end Go.AX
namespace Go.AX
noncomputable section
open Go.RowKit Go.Maps Go.WideElems Go.MapKept Go.WideShapes
open Go.Proofs (encStr)
def AM(P:Program)(fS fK:FuncId)(Kt:TypeId):Prop:=
 ∀ (Bm b nn:Nat)(D0:DataW Unit)(R:Value→Option (DataW Unit×List MemPlace))(w:World),Bm<w.heap.size→w.cell? ⟨Bm,0,none⟩=some (.map (some b))→w.ownsMap P Kt R b nn D0→
  Maps.size D0≤maxLen→Maps.size D0*16≤140737488355328→
  Calls P fS #[.func (.func fK) #[] #[.pointer (some ⟨Bm,0,none⟩)]] w fun e w'=>∃(v:Value)(ss:List (List UInt8)),e= .returned v∧ss.Perm (strKeys D0)∧
   w'.ownsRow w.heap.size Kt 1 v ss.length ((ss.mergeSort leB).map encStr)∧(v= .slice none 0 0↔ss=[])∧Below w.heap.size w w'
def tS(s:List Nat):List (List Nat)→Bool
 |[]=>true
 |t::l=>match cL s t with
  |true=>false
  |false=>tS s l
def keysOf(clock:Nat):List (AV×AV×Nat)→Option (List (List Nat)×List Nat)
 |[]=>some ([],[])
 | (k,_,b)::l=>match k with
  | .str s=>match keysOf clock l with
   |some (ks,bs)=>match tS s ks&&iM bs b&&aH b clock&&small s.length with
    |true=>some (s::ks,b::bs)
    |false=>none
   |none=>none
  |_=>none
def iv(h:H)(es:List (AV×AV×Nat))(clock:Nat):Option (AV×H):=
 match small es.length,keysOf clock es with
 |true,some (ks,_)=>match ks with
  |[]=>some (.bh,h)
  |_::_=>some (.slice h.nx 0 ks.length (.iK 0),h.grown none ⟨1,0⟩ ((fJ ks).map .str))
 |_,_=>none
def jq(h:H)(b:Nat):Option (AV×H):=
 match h.t.get b with
 | some (.cells _ cs ⟨0,_⟩ _)=>match cs.get 0 with
  |some (.map m)=>match h.t.get m with
   |some (.map es clock)=>iv h es clock
   |_=>none
  |_=>none
 |_=>none
def AO(fS fK:FuncId)(f:FuncId)(args:List AV)(h:H):Option (AV×H):=
 match aD f fS with
 | true=>match args with
  |[.func g [] [.ptr b 0]]=>match aD g fK with
   |true=>jq h b
   |false=>none
  |_=>none
 |false=>none
def pw(fS fK:FuncId):lI:=⟨AO fS fK,fun _ _ _=>none⟩
theorem eK:∀(a b:List Nat),cL a b=true↔a=b
 |[],[]=>by simp[cL]
 |[],_::_=>by simp[cL]
 |_::_,[]=>by simp[cL]
 |x::a,y::b=>by
  simp only[cL,List.cons.injEq];cases h:aD x y with
  |true=>rw[ak h];simp[eK a b]
  |false=>simp[aE h]
theorem pz{s:List Nat}:∀{l:List (List Nat)},tS s l=true↔s∉l
 |[]=>by simp[tS]
 | t::l=>by
  simp only[tS,an,not_or];cases h:cL s t with
  |true=>simp[(eK s t).1 h]
  |false=>
   have :s≠t:=fun e=>by rw[(eK s t).2 e]at h;cases h
   simp[this,pz (l:=l)]
theorem DG{x:Nat}:∀{l:List Nat},iM l x=true↔x∉l
 |[]=>by simp[iM]
 |y::l=>by
  simp only[iM,an,not_or];cases h:aD x y with
  |true=>simp[ak h]
  |false=>simp[aE h,DG (l:=l)]
section
variable{P:Program}{N:NN}{φ:cX}{w w':World}{h:H}
theorem AP{clock:Nat}:∀{es:List (AV×AV×Nat)}{dc:List MapEntry}{ks:List (List Nat)}{bs:List Nat},keysOf clock es=some (ks,bs)→bH (nA φ) es dc→
  ∃l:List (List UInt8),ks=l.map kF∧dc.map (·.key)=l.map encStr∧l.Nodup∧bs=dc.map (·.born)∧bs.Nodup∧(∀b,b∈bs→b<clock)∧(∀x,x∈l→x.length≤4194304)
 |[],dc,ks,bs,hk,ha=>by
  simp only[keysOf,Option.some.injEq,Prod.mk.injEq]at hk;obtain⟨rfl,rfl⟩:=hk;have:=bH.ct.1 ha;subst this;exact⟨[],rfl,rfl,.nil,rfl,.nil,by simp,by simp⟩
 | (k, v,b)::es,dc,ks,bs,hk,ha=>by
  obtain⟨m,ces',rfl,hm,ha'⟩:=bH.bM.1 ha;simp only[keysOf]at hk;split at hk
  ·rename_i s
   split at hk
   ·rename_i ks' bs' CC
    split at hk
    ·rename_i hc
     simp only[Option.some.injEq,Prod.mk.injEq]at hk;obtain⟨rfl,rfl⟩:=hk;simp only[az]at hc;obtain⟨⟨⟨c1,c2⟩,c3⟩,c4⟩:=hc;obtain⟨l,rfl,e2,e3,rfl,e5,e6,e7⟩:=AP CC ha';obtain⟨m1,m2,m3⟩:=hm;simp only[fE]at m1;obtain⟨ba,mk,hb⟩:=m1;have hs:kF ba.data.toList=s:=hb;simp only at m3;refine⟨ba.data.toList::l,by rw[←hs];rfl,?_,?_,by rw[←m3];rfl,?_,?_,?_⟩
     ·simp only[aq,e2,mk,encStr]
     ·refine List.nodup_cons.2 ⟨fun hx=>pz.1 c1 ?_,e3⟩
      rw[←hs];exact List.mem_map.2 ⟨_,hx,rfl⟩
     ·exact List.nodup_cons.2 ⟨DG.1 c2,e5⟩
     ·intro b' mz
      rcases List.mem_cons.1 mz with rfl|mz
      ·exact al c3
      ·exact e6 b' mz
     ·intro x hx
      rcases List.mem_cons.1 hx with rfl|hx
      ·have:=al c4
       rw[←hs]at this;simpa[kF]using this
      ·exact e7 x hx
    ·cases hk
   ·cases hk
  ·cases hk
theorem HR.below(hr:HR N φ h w)(hb:Below w.heap.size w w'):HR N φ h w':=
 ⟨fun b o mz hn=>let⟨L,h1,h2⟩:=hr.obj b o mz hn;⟨L,h1,h2.congr (hb.block _ h2.lt)⟩,hr.inj,hr.lt,hr.res,hr.CD⟩
theorem tn{fS fK:FuncId}{Kt:TypeId}(hu:P.underlying Kt=some .string)(hc:AM P fS fK Kt):eN P (pw fS fK):=by
 refine⟨?_,fun _ _ _ _ _ h=>(by cases h)⟩;intro f args h v h' hk N φ w cargs hr hN ha;unfold pw AO at hk;simp only at hk;split at hk
 ·rename_i hf
  have hf:=ak hf;subst hf;split at hk
  ·rename_i g b
   split at hk
   ·rename_i hg
    have hg:=ak hg;subst hg;unfold jq at hk;split at hk
    ·rename_i n cs ety ro hb
     split at hk
     ·rename_i m hm
      split at hk
      ·rename_i es clock hme
       unfold iv at hk;split at hk
       ·rename_i ks bs s_ hkeys
        -- the arguments
        obtain⟨ca,cl,GY,SV,qo⟩:=bH.bM.1 ha;have:=bH.ct.1 qo;subst this;simp only[uD]at SV;obtain⟨a1,a2,rfl,h1,h2⟩:=SV;have:=bH.ct.1 h1;have ha1:a1= #[]:=by cases a1;simp_all
        obtain⟨cp,cl2,hcl2,hp,hnil2⟩:=bH.bM.1 h2;have:=bH.ct.1 hnil2;subst this;have SS:a2= #[cp]:=by cases a2;simp_all
        simp only[dS]at hp;obtain⟨L,hL,rfl⟩:=hp;have Lz:cargs= #[.func (.func g) #[] #[.pointer (some ⟨L.B,L.base+0,none⟩)]]:=by cases cargs;simp_all
        -- the blocks
        obtain⟨c,t,frz,g1,g2,g3,g4,g5⟩:=hr.get hb hL;have eg:=g5.2.1 rfl;obtain⟨g6,g7,cv,g8,g9⟩:=g3 0 _ hm;simp only[nX]at g9;obtain⟨M,hM,rfl⟩:=g9;obtain⟨q1,dc,q2,q3⟩:=hr.get hme hM;rw[Lz,eg];simp only[aJ];have yl:w.cell? ⟨L.B,0,none⟩=some (.map (some M.B)):=by
         rw[eg]at g8;rw[uG g1];exact g8
        have hBm:L.B<w.heap.size:=(hr.get hb hL).lt;obtain⟨l,k1,k2,k3,k4,k5,k6,k7⟩:=AP hkeys q3;have hlen:dc.toList.length=es.length:=q3.length.symm;have hsmall:es.length≤4194304:=al s_
        let R:Value→Option (DataW Unit×List MemPlace):=fun _=>some (.nil,[])
        have wN:(4194304:Nat)≤maxLen:=by decide
        have Xr:∀x,x∈dc.toList→∃y,y∈l∧x.key=encStr y∧keyOf P Kt x.key=some (.string y):=by
         intro x hx;have :x.key∈dc.toList.map (·.key):=List.mem_map.2 ⟨x,hx,rfl⟩;rw[k2]at this;obtain⟨y,hy,e⟩:=List.mem_map.1 this;refine⟨y,hy,e.symm,?_⟩;rw[←e];have :y.length≤maxLen:=au (k7 y hy) wN;simp only[keyOf,hu,mapKey,encStr];rw[if_pos (show(ByteArray.mk y.toArray).size≤maxLen by show y.toArray.size≤maxLen;simpa using this)]
        have hrd:∀x,x∈dc.toList→∃y,y∈l∧x.key=encStr y∧rd P Kt R x=some (.string y,.nil):=by
         intro x hx;obtain⟨y,hy,e1,e2⟩:=Xr x hx;exact⟨y,hy,e1,by simp[rd,e2,R]⟩
        have uP:Fit P Kt R dc clock:=by
         refine⟨by rw[←aB,hlen];omega,⟨?_,?_,?_⟩,fun x hx=>?_⟩
         ·intro x hx
          exact k6 _ (by rw[k4];exact List.mem_map.2 ⟨x,hx,rfl⟩)
         ·rw[←k4];exact k5
         ·rw[k2]
          exact List.pairwise_map.2 (k3.imp fun{a b} dH e=>dH (encStr_inj e))
         ·obtain⟨y,_,_,e⟩:=hrd x hx;exact⟨_,e⟩
        have P1:w.ownsMap P Kt R M.B es.length (.map ((dc.toList.map (rg P Kt R)).foldr DataW.insert [])):=
         ⟨dc,clock,q2,uP,by rw[←aB,hlen];exact ao _,rfl⟩
        have VN:Maps.size (DataW.map ((dc.toList.map (rg P Kt R)).foldr DataW.insert []))=es.length:=by
         simp[Maps.size,length_sorted,hlen]
        have hperm:(strKeys (DataW.map ((dc.toList.map (rg P Kt R)).foldr DataW.insert []))).Perm l:=by
         have e:(dc.toList.map (rg P Kt R)).map (fun p=>strOf p.1)=l:=by
          have hmap:∀(xs:List MapEntry)(ys:List (List UInt8)),xs.map (·.key)=ys.map encStr→(∀x,x∈xs→∃y,x.key=encStr y∧rd P Kt R x=some (.string y,.nil))→(xs.map (rg P Kt R)).map (fun p=>strOf p.1)=ys:=by
           intro xs;induction xs with
           |nil=>intro ys h1 _;cases ys with
            |nil=>rfl
            |cons y ys=>cases h1
           | cons x xs ih=>
            intro ys h1 h2;cases ys with
            |nil=>cases h1
            |cons y ys=>
             simp only[aq,List.cons.injEq]at h1;obtain⟨y',e1,e2⟩:=h2 x (by simp);have :y'=y:=encStr_inj (e1.symm.trans h1.1);subst this;simp only[aq];rw[ih ys h1.2 (fun z hz=>h2 z (by simp[hz]))];simp[rg,e2,strOf]
          exact hmap _ _ k2 fun x hx=>let⟨y,_,a,b⟩:=hrd x hx;⟨y,a,b⟩
         show(((dc.toList.map (rg P Kt R)).foldr DataW.insert []).map fun p=>strOf p.1).Perm l;rw[←e];exact(sorted_perm _).map _
        refine(hc L.B M.B es.length _ R w hBm yl P1 (by rw[VN];omega) (by rw[VN];omega)).mono ?_;rintro e w' ⟨rv,ss,rfl,hss,eZ,hnil',Xs⟩;have Xt:ss.Perm l:=hss.trans hperm;have mz:Below N.n w w':=Xs.mono hN;have uF:∀k,k<w.heap.size→w'.heap[k]? =w.heap[k]? :=fun k hk=>Xs.block k hk;split at hk
        ·-- no keys
         simp only[Option.some.injEq,Prod.mk.injEq]at hk;obtain⟨rfl,rfl⟩:=hk;have hl0:l=[]:=by cases l with
          |nil=>rfl
          |cons a l=>cases k1
         subst hl0;have sq:ss=[]:=List.Perm.eq_nil Xt;exact⟨φ,rv,rfl,φ.le_refl,by rw[eX];exact hnil'.2 sq,hr.below Xs,mz⟩
        ·rename_i k0 ks0
         simp only[Option.some.injEq,Prod.mk.injEq]at hk;obtain⟨rfl,rfl⟩:=hk;have P2:=zg Xt;rw[←k1]at P2;have Xu:ss.length=(k0::ks0).length:=by rw[Xt.length_eq,k1,aF]
         obtain⟨G0,hr2⟩:=eZ;rcases hr2 with⟨_,hz⟩|⟨gb,cap,cur,rfl,J4,hheap,hncap,hcapm,gI,htake⟩
         ·rw[Xu]at hz;simp at hz
         ·have hNg:N.n≤gb:=au hN J4
          have hadd:=hr.add (w':=w') ⟨gb,0,cap⟩ (.cells (kQ ((fJ (k0::ks0)).map AV.str)) (T.ofRow ((fJ (k0::ks0)).map AV.str)) ⟨1,0⟩ false)
           (fun x ox L0 hx Fh e=>by have:=(hr.get hx Fh).lt;simp only at e;omega)
           (fun x ox L0 hx Fh=>uF _ (hr.get hx Fh).lt) ?_
          ·refine⟨_,_,rfl,hadd.2,?_,hadd.1,mz⟩
           rw[dU];exact⟨_,cX.cS _ _ _,by rw[Xu];simp,by rw[←Xu];simpa using hncap⟩
          ·have hll:((fJ (k0::ks0)).map AV.str).length=ss.length:=by
            rw[aF,P2,aF,List.length_mergeSort]
           rw[dY];refine⟨cur,Kt,(0,0),hheap,by rw[hll];simp only[Nat.zero_add];omega,fun i x hx=>?_,fun _=>⟨hNg,fun i _ hh=>by omega⟩,⟨fun _=>⟨by simp only[gI];simp,hcapm⟩,fun e=>(by cases e),fun e=>absurd rfl e,fun e=>(by cases e)⟩⟩;rw[T.eG]at hx;have hi:=(List.getElem?_eq_some_iff.1 hx).1;rw[P2,List.map_map,List.getElem?_map]at hx;cases hq:(ss.mergeSort leB)[i]? with
           |none=>rw[hq]at hx;cases hx
           | some y=>
            rw[hq]at hx;simp only[Option.map_some,Option.some.injEq,Function.comp]at hx;subst hx;refine⟨hi,rfl,encStr y,?_,?_⟩
            ·have e2:(cur.toList.take (ss.length*1))[i]? =some (encStr y):=by rw[htake,List.getElem?_map,hq];rfl
             rw[List.getElem?_take]at e2;split at e2
             ·simp only[Nat.zero_add];rw[←Array.getElem?_toList];exact e2
             ·cases e2
            ·rw[fE];exact⟨_,rfl,by simp[bytesOf,kF]⟩
       ·cases hk
      ·cases hk
     ·cases hk
    ·cases hk
   ·cases hk
  ·cases hk
 ·cases hk
end
end
end Go.AX
namespace Go.AX
noncomputable section
open Go.RowKit
def zv:AV→Bool
 | .bool _=>true
 | .int _ _=>true
 | .str _=>true
 | .cN=>true
 | .bh=>true
 | .dB=>true
 | .nilFunc=>true
 | .nilIface=>true
 |_=>false
def P3{α:Type}(f:α→Bool):List α→Bool
 |[]=>true
 |x::l=>match f x with
  |true=>P3 f l
  |false=>false
def FK:AV→Bool
 | .agg l=>P3 zv l
 |v=>zv v
def LI:AV→Bool
 | .tuple l=>P3 FK l
 |v=>FK v
theorem AQ{α:Type}{f:α→Bool}:∀{l:List α},P3 f l=true→∀x,x∈l→f x=true
 |[],_,x,hx=>by cases hx
 | y::l,h,x,hx=>by
  simp only[P3]at h;split at h
  ·rename_i hy
   rcases List.mem_cons.1 hx with rfl|hx
   ·exact hy
   ·exact AQ h x hx
  ·cases h
theorem AR{φ ψ:cX}{a:AV}{v:Value}(hg:zv a=true)(h:VR φ a v):VR ψ a v:=by
 cases a<;>simp_all[zv]
theorem re{φ ψ:cX}{f:AV→Bool}(hf:∀a v,f a=true→VR φ a v→VR ψ a v):∀{l:List AV}{l':List Value},(∀x,x∈l→f x=true)→bH (VR φ) l l'→bH (VR ψ) l l'
 |[],l',_,h=>by rw[bH.ct]at h ⊢;exact h
 |x::l,l',hg,h=>by
  obtain⟨c,cs,rfl,h1,h2⟩:=bH.bM.1 h;exact⟨hf _ _ (hg x (by simp)) h1,re hf (fun y hy=>hg y (by simp[hy])) h2⟩
theorem AS{φ ψ:cX}{a:AV}{v:Value}(hg:FK a=true)(h:VR φ a v):VR ψ a v:=by
 cases a with
 |agg l=>
  simp only[mO]at h ⊢;obtain⟨x,e,h⟩:=h;exact⟨x,e,re (fun _ _=>AR) (AQ hg) h⟩
 |_=>exact AR hg h
theorem Kn{φ ψ:cX}{a:AV}{v:Value}(hg:LI a=true)(h:VR φ a v):VR ψ a v:=by
 cases a with
 |tuple l=>
  simp only[mP]at h ⊢;obtain⟨x,e,h⟩:=h;exact⟨x,e,re (fun _ _=>AS) (AQ hg) h⟩
 |_=>exact AS hg h
def FL(a b:lI):lI:=⟨fun f args h=>
 match a.call f args h with
 |some r=>some r
 |none=>b.call f args h,fun f args h=>
 match a.ext f args h with
 |some r=>some r
 |none=>b.ext f args h⟩
theorem NU{P:Program}{a b:lI}(ha:eN P a)(hb:eN P b):eN P (FL a b):=by
 refine⟨?_,?_⟩
 ·intro f args h v h' hk
  unfold FL at hk;simp only at hk;split at hk
  ·cases hk;exact ha.call _ _ _ _ _ ‹_›
  ·exact hb.call _ _ _ _ _ hk
 ·intro f args h v h' hk
  unfold FL at hk;simp only at hk;split at hk
  ·cases hk;exact ha.ext _ _ _ _ _ ‹_›
  ·exact hb.ext _ _ _ _ _ hk
def gi:Code→List Nat→Code
 |c,[]=>c
 | .seq a b,i::l=>match i with
  |0=>gi a l
  |_=>gi b l
 | .cond _ a b,i::l=>match i with
  |0=>gi a l
  |_=>gi b l
 | .block _ c,_::l=>gi c l
 | .loop c,_::l=>gi c l
 | .scope c,_::l=>gi c l
 | .rangeFunc _ _ a b,i::l=>match i with
  |0=>gi a l
  |_=>gi b l
 |c,_::_=>c
def eA:Code→Array Oper
 | .region _ ops _=>ops
 |_=> #[]
section
variable{P:Program}{K:lI}
def Reach(P:Program)(s s':S):Prop:=
 ∀(N:NN)(w0:World)(bot:List Frame)(φ:cX)(fr:Frame)(cs:List Frame)(w:World),SR N w0 φ s fr cs w→AI P N w0 bot φ fr cs w s'
theorem Reach.refl(s:S):Reach P s s:=fun N _ _ φ fr cs w hs=>⟨N,φ,fr,cs,w,rfl,φ.le_refl,Steps.refl P _,hs⟩
theorem HR.sub{N:NN}{φ:cX}{h:H}{w:World}(hr:HR N φ h w){t:T iI}(ht:∀b o,t.get b=some o→h.t.get b=some o):HR N φ {h with t:=t} w:=
 ⟨fun b o hb hn=>hr.obj b o (ht b o hb) hn,fun b o b' o' L L' hb mz=>hr.inj b o b' o' L L' (ht b o hb) (ht b' o' mz),hr.lt,hr.res,hr.CD⟩
def LJ(P:Program)(f:FuncId)(v:AV):Prop:=
 ∀w:World,Calls P f #[] w fun e w'=>∃φ cv,e= .returned cv∧VR φ v cv∧Below w.heap.size w w'
def DH(f0:FuncId)(v:AV):lI:=⟨fun f args h=>
 match aD f f0 with
 |true=>match args with
  |[]=>some (v,h)
  |_=>none
 |false=>none,fun _ _ _=>none⟩
theorem FM{f0:FuncId}{v:AV}(hg:LI v=true)(hk:LJ P f0 v):eN P (DH f0 v):=by
 refine⟨?_,fun _ _ _ _ _ h=>(by cases h)⟩;intro f args h v' h' he N φ w cargs hr hN ha;unfold DH at he;simp only at he;split at he
 ·rename_i hf
  have hf:=ak hf;subst hf;split at he
  ·cases he
   have:=bH.ct.1 ha;have hc:cargs= #[]:=by cases cargs;simp_all
   subst hc;refine(hk w).mono ?_;rintro e w' ⟨ψ,cv,rfl,hv,hb⟩;exact⟨φ,cv,rfl,φ.le_refl,Kn hg hv,hr.below hb,Below.mono hb hN⟩
  ·cases he
 ·cases he
end
end
end Go.AX
namespace Go.AX
noncomputable section
open Go.RowKit
def Ht(P:Program)(f:FuncId)(e:Array Value→Sem Value):Prop:=
 ∃fn,P.funcs[f]? =some fn∧(fn.name== "runtime.NumGoroutine")=false∧fn.body=none∧Extern.findNext fn=none∧Extern.find fn=some e
theorem LK{P:Program}{f:FuncId}{e:Array Value→Sem Value}(h:Ht P f e)(args:Array Value)(w:World):
  (callFunc f args).run P w=((e args).run P w).andThen fun v w'=>.ok (.value v) w':=by
 obtain⟨fn,h1,h2,h3,h4,h5⟩:=h;simp only[callFunc,Sem.run_bind,run_program,Result.andThen_ok,h1,h2,h3,h4,h5,aG,if_false,Option.isNone_none,if_true,run_mark,Sem.run_pure]
def ym(f0:FuncId)(f:FuncId)(args:List AV)(h:H):Option (AV×H):=
 match aD f f0 with
 |true=>match args with
  |[v]=>some (v,h)
  |_=>none
 |false=>none
def pA(f0:FuncId):lI:=⟨fun _ _ _=>none,ym f0⟩
theorem zh{P:Program}{f0:FuncId}(he:Ht P f0 Extern.AbiNoEscape.same):eN P (pA f0):=by
 refine⟨fun _ _ _ _ _ h=>(by cases h),?_⟩;intro f args h v h' hk N φ w cargs hr hN ha;unfold pA ym at hk;simp only at hk;split at hk
 ·rename_i hf
  have hf:=ak hf;subst hf;split at hk
  ·cases hk
   obtain⟨c,cs,hc,h1,h2⟩:=bH.bM.1 ha;have:=bH.ct.1 h2;subst this;have Lz:cargs= #[c]:=by cases cargs;simp_all
   subst Lz;refine⟨φ,c,w,?_,φ.le_refl,h1,hr,Below.refl _ _⟩;rw[LK he];rfl
  ·cases hk
 ·cases hk
def zw(f0:FuncId)(e:TypeId)(f:FuncId)(args:List AV)(h:H):Option (AV×H):=
 match aD f f0 with
 | true=>match args with
  |[.int .i64 (.ofNat n)]=>match small n with
   |true=>some (.slice h.nx 0 n (.iK 0),h.alloc (.cells 0 .e ⟨1,e+1⟩ false))
   |false=>none
  |_=>none
 |false=>none
def AT(f0:FuncId)(e:TypeId):lI:=⟨fun _ _ _=>none,zw f0 e⟩
theorem Hu{P:Program}{f0:FuncId}{t e:TypeId}{ps:Array TypeId}(ht:P.underlying t=some (.slice e))(he:Ht P f0 (Extern.BytealgMakeNoZero.makeNoZero ps #[t])):eN P (AT f0 e):=by
 refine⟨fun _ _ _ _ _ h=>(by cases h),?_⟩;intro f args h v h' hk N φ w cargs hr hN ha;unfold AT zw at hk;simp only at hk;split at hk
 ·rename_i hf
  have hf:=ak hf;subst hf;split at hk
  ·rename_i n
   split at hk
   ·rename_i hn
    cases hk;have hn:=lK hn;obtain⟨c,cs,hc,h1,h2⟩:=bH.bM.1 ha;have:=bH.ct.1 h2;subst this;simp only[db]at h1;subst h1;have Lz:cargs= #[.int .i64 (Int.ofNat n)]:=by cases cargs;simp_all
    subst Lz;obtain⟨cells,q1,q2,q3⟩:=Lib.run_makeNoZero (P:=P) w ps t e ht n (by omega);have yn:=hr.push (w':=w.drew.drew.alloc (.cells cells e)) (.cells cells e) 0 cells.size (.cells 0 .e ⟨1,e+1⟩ false) rfl
     (by
      refine⟨cells,e,(0,0),?_,Nat.zero_le _,?_,?_,?_,?_,fun _=>rfl,fun _ _=>rfl⟩
      ·show(w.heap.push (.cells cells e))[w.heap.size]? =_
       simp
      ·intro i v hi;cases hi
      ·intro _;exact⟨hN,fun i _ hh=>by omega⟩
      ·intro _;exact⟨by simp,q3 (by unfold maxLen;omega)⟩
      ·intro e0;cases e0)
    refine⟨_,.slice (some ⟨w.heap.size,0,none⟩) n cells.size,w.drew.drew.alloc (.cells cells e),?_,yn.2,?_,yn.1,?_⟩
    ·rw[LK he]
     have :(Int.ofNat n)=((n:Nat):Int):=rfl;rw[this,q1];rfl
    ·rw[dU]
     exact⟨_,cX.cS _ _ _,by simp,by simpa using q2⟩
    ·exact⟨rfl,rfl,rfl,by show w.heap.size≤(w.heap.push _).size;simp,fun k hk=>by
      show(w.heap.push _)[k]? =_;rw[Array.getElem?_push,if_neg (by omega)]⟩
   ·cases hk
  ·cases hk
 ·cases hk
end
end Go.AX
namespace Go.AX
noncomputable section
open Go.RowKit
section
variable{P:Program}{K:lI}
theorem oN(hK:eN P K){s s':S}(h:dV P K s=some s'):Reach P s s':=fun _ _ _ _ _ _ _ hs=>Hs hK hs h
def m_(nt:Nat)(tm:T AV)(d:Option Tmp)(v:AV):T AV:=
 match d with
 |some d=>match aH d nt with
  |true=>tm.set d (some v)
  |false=>tm
 |none=>tm
section
variable{fn nt:Nat}{tm:T AV}{h:H}{k k':List iL}{kd:CallKind}{cs:List bY}{c a b:Code}
end
end
end
end Go.AX
