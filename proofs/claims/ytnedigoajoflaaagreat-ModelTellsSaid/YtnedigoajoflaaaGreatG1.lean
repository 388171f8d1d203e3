/-
  model: what there is as of a Main: walked.
-/
import Derived.Test.YtnedigoajoflaaaGreatAxI
import Derived.Test.YtnedigoajoflaaaGreatG0
import Derived.Shelf.SlIter.Nil
import Derived.Shelf.SortM.Plain
import Derived.Shelf.SortM.SortNone
import Derived.Ground.GgzProg
import Derived.Ground.SlgmProg
import Derived.Test.YtnedigoajoflaaaGreatProg
import Derived.Test.YtnedigoajoflaaaGreatAxF
import Derived.Laws.IdiomCopy
import Derived.ProofKit
set_option linter.unusedSimpArgs false
set_option linter.unusedVariables false
set_option linter.unusedSectionVars false
set_option linter.defProp false
set_option maxHeartbeats 8000000
open Nat renaming reduceLT→ab,reduceLeDiff→ae,reduceEqDiff→af,reduceAdd→ag,reduceMul→ah,reduceSub→ai,zero_add→al,le_refl→ao,zero_le→aq,le_trans→aM,lt_of_lt_of_le→aP,ble_eq_true_of_le→aS,add_mul→aU,sub_zero→aY
open Int renaming ofNat→ak,eq_ofNat_of_zero_le→az,le_of_lt→aN
open List renaming getElem?_eq_getElem→an,length_map→au,map_cons→aw,take_length→aA,take_add_one→aB,flatMap_append→aC,length_take→aD,length_append→aE,flatMap_singleton→aF,foldl_append→aG,find?_cons→aH,flatMap_cons→aJ,length_cons→aK,nodup_cons→aL,mem_singleton→aO,append_assoc→aQ,map_append→aR
open Bool renaming not_true→aV,false_or→aW
open Option renaming isSome_some→aX
namespace Go.Proofs.YtnedigoajoflaaaGreat.M
open Go Go.AX
noncomputable section
set_option maxRecDepth 100000
theorem rK(h:H)(x:Rec):∃h1,(h.bq 91 [.int .u64 (.ofNat 0),.int .u64 (.ofNat 0),.str [],.str [],.int .u64 (.ofNat 0),.int .u64 (.ofNat 0),.int .u64 (.ofNat 0),.bool false]).cm h.nx 0 [.int .u64 (.ofNat x.main),.int .u64 (.ofNat x.sub),.str x.kv.key,.str x.kv.val,.int .u64 (.ofNat x.kv.iC),.int .u64 (.ofNat x.kv.mod),.int .u64 (.ofNat x.kv.im),.bool x.dW]=h1∧Og h h1 []∧h1.nx=h.nx+1∧
  cellAt h1 h.nx 0=some (.int .u64 (.ofNat x.main))∧cellAt h1 h.nx 1=some (.int .u64 (.ofNat x.sub))∧cellAt h1 h.nx 2=some (.str x.kv.key)∧cellAt h1 h.nx 3=some (.str x.kv.val)∧cellAt h1 h.nx 4=some (.int .u64 (.ofNat x.kv.iC))∧cellAt h1 h.nx 5=some (.int .u64 (.ofNat x.kv.mod))∧cellAt h1 h.nx 6=some (.int .u64 (.ofNat x.kv.im))∧cellAt h1 h.nx 7=some (.bool x.dW)∧cj h1 h.nx=true:=by
 refine⟨_,rfl,((Og.refl _ _).new _ _).cm (.inr (ao _)),by rw[bI,dt],?_⟩;have c:∀j,j<8→cellAt ((h.bq 91 [.int .u64 (.ofNat 0),.int .u64 (.ofNat 0),.str [],.str [],.int .u64 (.ofNat 0),.int .u64 (.ofNat 0),.int .u64 (.ofNat 0),.bool false]).cm h.nx 0 x.cs) h.nx j=x.cs[j]? :=fun j hj=>by
  rw[b_ (by rw[cY,if_pos rfl]),if_pos ⟨rfl,aq _,by show j<0+8;omega⟩,aY]
 exact⟨c 0 (by omega),c 1 (by omega),c 2 (by omega),c 3 (by omega),c 4 (by omega),c 5 (by omega),c 6 (by omega),c 7 (by omega),by rw[bN,cY,if_pos rfl]⟩
structure UpI(l b2:Nat)(v:AV)(n:Nat)(J:Nat→H→Prop)(m:Nat)(ds:List Nat)(tm:T AV)(h:H)(i:Nat):Prop where
 ds:ds=[]
 nn:m=n-i
 ii:i≤n
 t0:tm.get 0=some (.yield l)
 t2:tm.get 2=some (.ptr b2 0)
 t9:tm.get 9=some v
 t10:tm.get 10=some (.int .i64 (.ofNat n))
 t11:tm.get 11=some (.int .i64 (.ofNat i))
 jj:J i h
theorem F5(h0:H)(l b1 b2 bm main:Nat)(v:AV)(L:List Rec)(hz:L.length≤1000000)(J:Nat→H→Prop)
  (k1:cellAt h0 b1 0=some (.ptr bm 0))(km:cellAt h0 bm 0=some v)(sl0:br h0 v L.length (L.flatMap Rec.cs))
  (hJs:∀i h h',J i h→Og h h' []→J i h')
  (hJX:∀i h,J i h→cellAt h b2 0=some (.int .u64 (.ofNat main))∧br h v L.length (L.flatMap Rec.cs)∧b2<h.nx)
  (hJr:∀i h x,J i h→L[i]? =some x→x.main≤main→bW P (.round l [.agg x.cs] h) fun v h'=>v= .bool true∧J (i+1) h')
  (hJk:∀i h x,J i h→L[i]? =some x→¬x.main≤main→J (i+1) h)(h0J:J 0 h0):
  bW P (.enter 74 [.yield l,.ptr b1 0,.ptr b2 0] h0) fun _ h'=>J L.length h':=by
 have hlen:=sl0.len (P:=P) jl;refine bn (fn:=Tryz.f74) (c:=bD Tryz.f74) Tryz.func74 rfl ?_;show bB P 74 27 none _ _ _ _ _;refine bp ?_;refine rN ?_ (V k1<|V km<|hlen);refine cn (fun m ds tm h=>∃i,UpI l b2 v L.length J m ds tm h i) L.length rfl ⟨0,rfl,rfl,aq _,by exact sT,by exact sT,by exact sT,by exact sT,by exact sT,h0J⟩ (fun m ds tm h hI=>?_);obtain⟨i,rfl,rfl,ii,t0,t2,t9,t10,t11,jj⟩:=hI;obtain⟨k2,sl,sP⟩:=hJX _ _ jj;by_cases hi:i<L.length
 ·have di:decide (i<L.length)=true:=decide_eq_true hi
  have dX:(i<L.length)=True:=by simp[hi]
  obtain⟨x,hx⟩:∃x,L[i]? =some x:=⟨_,an hi⟩;obtain⟨bv,ov,cv,rfl,qw,-⟩:=sl.place (by omega);obtain⟨q0,q1,q2,q3,q4,q5,q6,q7⟩:=Rec.at sl hx;obtain⟨h1,cC,o1,x1,y0,y1,y2,y3,y4,y5,y6,y7,-⟩:=rK h x;have IC:=kc k2 o1 sP (by simp);have jj1:=hJs _ _ _ jj o1;have w1:bV .i64 (ak i+ak 1)=ak (i+1):=cq (by omega);by_cases p:x.main≤main
  ·have d2:decide (x.main≤main)=true:=decide_eq_true p
   refine rN ?_ (V t0<|V t2<|V t9<|V t10<|V t11<|V hlen<|V di<|V dX<|V q0<|V q1<|V q2<|V q3<|V q4<|V q5<|V q6<|V q7<|V cC<|V y0<|V y1<|V y2<|V y3<|V y4<|V y5<|V y6<|V y7<|V IC<|d2);refine((hJr i h1 x jj1 hx p).call P).mono P ?_;rintro _ h2 ⟨rfl,jj2⟩;refine rN ?_ (V @aV<|V w1<|t11);exact⟨L.length-(i+1),by omega,i+1,rfl,rfl,by omega,by exact sT,by exact sT,by exact sT,by exact sT,by exact sT,jj2⟩
  ·have d2:decide (x.main≤main)=false:=decide_eq_false p
   refine rN ?_ (V t0<|V t2<|V t9<|V t10<|V t11<|V hlen<|V di<|V dX<|V q0<|V q1<|V q2<|V q3<|V q4<|V q5<|V q6<|V q7<|V cC<|V y0<|V y1<|V y2<|V y3<|V y4<|V y5<|V y6<|V y7<|V IC<|V d2<|w1);exact⟨L.length-(i+1),by omega,i+1,rfl,rfl,by omega,by exact sT,by exact sT,by exact sT,by exact sT,by exact sT,hJk i h1 x jj1 hx p⟩
 ·have di:decide (i<L.length)=false:=decide_eq_false hi
  obtain rfl:i=L.length:=by omega
  refine rN ?_ (V t0<|V t2<|V t9<|V t10<|V t11<|V hlen<|di);rw[DM];exact⟨_,rfl,_,rfl,jj⟩
def dg(main:Nat)(L:List Rec):View:=L.foldl (fun W r=>if r.main≤main then fw W r else W) []
theorem Wz{main:Nat}{L:List Rec}{i:Nat}{r:Rec}(h:L[i]? =some r):dg main (L.take (i+1))=if r.main≤main then fw (dg main (L.take i)) r else dg main (L.take i):=by
 unfold dg;rw[aB,h,aG];rfl
structure KL(hk:H)(ro:Nat)(R:fC)(W:View)(h:H):Prop where
 nx:hk.nx+2≤h.nx
 old:∀b,b<hk.nx→b≠ro→h.t.get b=hk.t.get b
 lp:h.t.get (hk.nx+1)=some (.loop R)
 df:h.t.get hk.nx=some (.deferred (some []))
 mp:fu encS h ro (mR W)
 g:h.g=hk.g
theorem KL.bU{hk:H}{ro:Nat}{R:fC}{W:View}{h h':H}(j:KL hk ro R W h)(o:Og h h' []):KL hk ro R W h':=
 ⟨aM j.nx o.1.1,fun b hb hn=>(o.1.2 b (by have:=j.nx;omega) (by simp)).trans (j.old b hb hn),(o.1.2 _ (by have:=j.nx;omega) (by simp)).trans j.lp,(o.1.2 _ (by have:=j.nx;omega) (by simp)).trans j.df,j.mp.bU o.1 (by simp),o.2.trans j.g⟩
theorem KL.put{hk:H}{ro:Nat}{R:fC}{W W':View}{h h':H}(j:KL hk ro R W h)(o:Og h h' [ro])(pW:ro<hk.nx)(m:fu encS h' ro (mR W')):KL hk ro R W' h':=
 ⟨aM j.nx o.1.1,fun b hb hn=>(o.1.2 b (by have:=j.nx;omega) (by simp[hn])).trans (j.old b hb hn),(o.1.2 _ (by have:=j.nx;omega) (by simp;omega)).trans j.lp,(o.1.2 _ (by have:=j.nx;omega) (by simp;omega)).trans j.df,m,o.2.trans j.g⟩
theorem KL.state{hk:H}{ro:Nat}{R R':fC}{W:View}{h:H}(j:KL hk ro R W h)(pW:ro<hk.nx):KL hk ro R' W (h.obj (hk.nx+1) (.loop R')):=
 ⟨j.nx,fun b hb hn=>by rw[cF (by omega)];exact j.old b hb hn,kg _ _,by rw[cF (by omega)];exact j.df,j.mp.get (ao _) (cF (by omega) _),j.g⟩
noncomputable abbrev ou(hk:H)(tm:T AV):fC:=yF 32 16 tm [11] (bL (bD Tryz.f32) [0,0,1,0,1,1]) (bL (bD Tryz.f32) [1,0,1,0,1,1]) hk.nx .ready
theorem Un(hk:H)(ro b5:Nat)(tm:T AV)(t5:tm.get 5=some (.ptr b5 0))(cb:cellAt hk b5 0=some (.map ro))(Rg:b5<hk.nx)(pW:ro<hk.nx)(dH:b5≠ro)(h:H)(x:Rec)(W:View)(hj:KL hk ro (ou hk tm) W h):
  bW P (.round (hk.nx+1) [.agg x.cs] h) fun v h'=>v= .bool true∧KL hk ro (ou hk tm) (fw W x) h':=by
 refine pJ (tm:=tm.set 11 (some (.agg x.cs))) hj.lp rfl ?_;show bB P 32 16 (some (hk.nx+1)) (bL (bD Tryz.f32) [0,0,1,0,1,1]) _ _ _ _;obtain⟨h1,cC,o1,x1,y0,y1,y2,y3,y4,y5,y6,y7,-⟩:=rK h x;have j1:=hj.bU o1;have xk:=hj.nx;unfold Rec.cs;refine rN ?_ (cC);refine vB j1.lp rfl ?_;show bB P 32 16 (some (hk.nx+1)) (bL (bD Tryz.f32) [1,0,1,0,1,1]) _ _ _ _;have j2:KL hk ro {ou hk tm with state:=.busy} W (h1.obj (hk.nx+1) (.loop {ou hk tm with state:=.busy})):=j1.state pW;obtain⟨h2,e2⟩:∃h2,h2=h1.obj (hk.nx+1) (.loop {ou hk tm with state:=.busy}):=⟨_,rfl⟩;have y:∀j,cellAt h2 h.nx j=cellAt h1 h.nx j:=fun j=>by rw[e2];exact bo (cF (by omega) _) _
 rw[←e2]at j2;have cb2:cellAt h2 b5 0=some (.map ro):=by rw[bo (j2.old b5 Rg dH)];exact cb
 rw[←y]at y0 y1 y2 y3 y4 y5 y6 y7;rw[←e2];refine rN ?_ (V t5<|V cb2<|V y0<|V y1<|V y2<|V y3<|V y4<|V y5<|V y6<|y7);refine((Zd h2 ro W x j2.mp).call P).mono P ?_;rintro _ h3 ⟨rfl,m3,o3⟩;have j3:=j2.put o3 pW m3;refine kM ?_;exact ju (r:=ou hk tm) j3.lp rfl rfl ⟨rfl,j3.state pW⟩
theorem Uo(hk:H)(ro b5 b1 b2 bm main:Nat)(v:AV)(L:List Rec)(hz:L.length≤1000000)(ds:List Nat)(tm:T AV)(K:KQ)(t10:tm.get 10=some (.func 74 [] [.ptr b1 0,.ptr b2 0]))(t5:tm.get 5=some (.ptr b5 0))(cb:cellAt hk b5 0=some (.map ro))(Rg:b5<hk.nx)(dH:b5≠ro)
  (mp:fu encS hk ro [])(k1:cellAt hk b1 0=some (.ptr bm 0))(k2:cellAt hk b2 0=some (.int .u64 (.ofNat main)))(km:cellAt hk bm 0=some v)(sl:br hk v L.length (L.flatMap Rec.cs))(wD:b1<hk.nx)(sP:b2<hk.nx)(WA:bm<hk.nx)(n2:b2≠ro)(nv:bA v≠some ro)
  (hK:∀h2,hk.nx+2≤h2.nx→(∀b,b<hk.nx→b≠ro→h2.t.get b=hk.t.get b)→h2.t.get hk.nx=some (.deferred (some []))→h2.g=hk.g→fu encS h2 ro (mR (dg main L))→K .norm (hk.nx::ds) tm h2):
  bB P 32 16 none (bL (bD Tryz.f32) [0,1,0,1,1]) ds tm hk K:=by
 have pW:=mp.lt;refine Md rfl (f:=.tmp 10) (ps:= #[11]) rfl rfl ?_;refine zy (g:=74) (cap:=[.ptr b1 0,.ptr b2 0]) (by rw[k_,t10];rfl) (fun args h=>bz 74 (by kernel_rfl) [] _ args) ?_;have eg:∀b,b<hk.nx→(pX hk 32 16 tm [11] (bL (bD Tryz.f32) [0,0,1,0,1,1]) (bL (bD Tryz.f32) [1,0,1,0,1,1])).t.get b=hk.t.get b:=fun b hb=>by rw[fR,if_neg (by omega),if_neg (by omega)]
 have Ze:KL hk ro (ou hk tm) [] (pX hk 32 16 tm [11] (bL (bD Tryz.f32) [0,0,1,0,1,1]) (bL (bD Tryz.f32) [1,0,1,0,1,1])):=
  ⟨by rw[jt];omega,fun b hb _=>eg b hb,by rw[fR,if_pos rfl],by rw[fR,if_neg (by omega),if_pos rfl],mp.get (by rw[jt];omega) (eg _ pW),rfl⟩
 have ID:∀h',(∀b,b<hk.nx→b≠ro→h'.t.get b=hk.t.get b)→hk.nx≤h'.nx→br h' v L.length (L.flatMap Rec.cs):=fun h' old hx=>br.only (S:=[ro]) ⟨hx,fun b hb hn=>old b hb (by simpa using hn)⟩ sl (fun b hb=>by simp;intro e;subst e;exact nv hb);refine(F5 _ (hk.nx+1) b1 b2 bm main v L hz (fun i h=>KL hk ro (ou hk tm) (dg main (L.take i)) h) (by rw[bo (eg _ wD)];exact k1) (by rw[bo (eg _ WA)];exact km) (ID _ (fun b hb _=>eg b hb) (by rw[jt];omega)) (fun i h h' j o=>j.bU o)
  (fun i h j=>⟨by rw[bo (j.old _ sP n2)];exact k2,ID _ j.old (by have:=j.nx;omega),by have:=j.nx;omega⟩) (fun i h x j hx p=>by rw[Wz hx,if_pos p];exact Un hk ro b5 tm t5 cb Rg pW dH h x _ j)
  (fun i h x j hx p=>by rw[Wz hx,if_neg p];exact j) Ze).mono P ?_
 rintro _ h2 j;rw[aA]at j;refine⟨j.lp,?_⟩;have j2:KL hk ro {ou hk tm with state:=.exhausted} _ _:=j.state (R':={ou hk tm with state:=.exhausted}) pW;exact hK _ j2.nx j2.old j2.df j2.g j2.mp
theorem mk85(tm:T AV)(h:H):bF P tm h (.makeMap 78 none)= .val (.map h.nx) (h.alloc (.map [] 0)):=by simp only[bF,Q_,kI]
theorem atC(h0:H)(b main:Nat)(L:List Rec)(v:AV)(hb:b<h0.nx)(c0:cellAt h0 b 0=some v)(sl:br h0 v L.length (L.flatMap Rec.cs))(hz:L.length≤1000000)(nv:∀c,bA v=some c→c<h0.nx):
  bW P (.enter 32 [.ptr b 0,.int .u64 (.ofNat main)] h0) fun w h'=>∃ro,w= .map ro∧h0.nx≤ro∧Og h0 h' []∧fu encS h' ro (mR (dg main L)):=by
 obtain⟨h1,cC⟩:∃h1,h1=((h0.alloc (.map [] 0)).bq 78 [.dB]).cm (h0.nx+1) 0 [.map h0.nx]:=⟨_,rfl⟩;have o1:Og h0 h1 []:=by rw[cC];exact(((Og.refl _ _).alloc _).new _ _).cm (.inr (by omega))
 have x1:h1.nx=h0.nx+2:=by rw[cC,bI,dt];rfl
 have e1:(h0.alloc (.map [] 0)).nx=h0.nx+1:=rfl;have c5:cellAt h1 (h0.nx+1) 0=some (.map h0.nx):=by rw[cC,b_ (by rw[cY,if_pos e1.symm]),if_pos ⟨rfl,aq _,by simp⟩];rfl
 have m1:fu encS h1 h0.nx []:=by
  rw[cC];exact(FX h0 encS).get (by rw[bI,dt];omega) (by rw[bT _ _ _ _ (by omega),LS _ _ _ (by omega)])
 refine bn (fn:=Tryz.f32) (c:=bD Tryz.f32) Tryz.func32 rfl ?_;show bB P 32 16 none _ _ _ _ _;refine bp ?_;refine rN ?_ (V mk85<|V e1<|cC.symm);refine((Rf h1 b main).call P).mono P ?_;rintro _ h2 ⟨rfl,cJ⟩;have o2:Og h1 h2 []:=by rw[cJ];exact((Og.refl _ _).new _ _).new _ _
 have x2:h2.nx=h0.nx+4:=by rw[cJ,dt,dt,x1]
 have q1:cellAt h2 h1.nx 0=some (.ptr b 0):=by rw[cJ,bJ,if_neg (by rw[dt];omega),bJ,if_pos rfl];rfl
 have q2:cellAt h2 (h1.nx+1) 0=some (.int .u64 (.ofNat main)):=by rw[cJ,bJ,if_pos (by rw[dt])];rfl
 have f_:=o1.t o2;refine kM ?_;refine Uo h2 h0.nx (h0.nx+1) h1.nx (h1.nx+1) b main v L hz [] _ _ (by exact sT) (by exact sT) (kc c5 o2 (by omega) (by simp)) (by omega) (by omega) (m1.bU o2.1 (by simp)) q1 q2 (kc c0 f_ hb (by simp)) (br.only f_.1 sl (fun _ _=>by simp)) (by omega) (by omega) (by omega) (by omega) (fun e=>by have:=nv _ e;omega) ?_;intro h3 x3 KM df3 g3 m3;have c53:cellAt h3 (h0.nx+1) 0=some (.map h0.nx):=by rw[bo (KM _ (by omega) (by omega))];exact kc c5 o2 (by omega) (by simp)
 refine rN ?_ (c53);refine tY df3 rfl ?_
 (conv =>arg 2;whnf)
 simp only[B,F,ab,ae,af,ag,ah,ai, ↓reduceIte,eq_self];refine⟨h0.nx,rfl,ao _,⟨⟨by rw[BQ];omega,fun c hc hn=>?_⟩,?_⟩,m3.get (ao _) (cF (by omega) _)⟩
 ·rw[cF (by omega),KM c (by omega) (by omega)];exact f_.1.2 c hc (by simp)
 ·show h3.g=h0.g
  rw[g3];exact f_.2
end
end Go.Proofs.YtnedigoajoflaaaGreat.M
namespace Go.Proofs
open Go.Shelf
def Tryz.B4:Go.Shelf.Ren:=⟨fun|7=>70|10=>102|n=>n,fun|23=>78|26=>9|3=>91|28=>100|0=>0|27=>99|33=>141|4=>4|n=>n,fun|n=>n⟩
theorem Tryz.Zf:Go.Proofs.SlLaysZ.n7 Tryz.prog Tryz.B4:={
 mixed:=by kernel_rfl
 f7:=⟨Tryz.f70.name,by decide,Tryz.func70.trans (congrArg some (by kernel_rfl))⟩
 f10:=⟨Tryz.f102.name,by decide,Tryz.func102.trans (congrArg some (by kernel_rfl))⟩
 t0:=Tryz.underlying0
 a0:=Tryz.isAgg0
 z0:=Tryz.sizeOf0
 v0:=Tryz.zeroValue0
 t4:=Tryz.underlying4
 a4:=Tryz.isAgg4
 z4:=Tryz.sizeOf4
 v4:=Tryz.zeroValue4
 t23:=Tryz.underlying78
 a23:=Tryz.isAgg78
 z23:=Tryz.sizeOf78
 v23:=Tryz.zeroValue78
 t26:=Tryz.underlying9
 a26:=Tryz.isAgg9
 z26:=Tryz.sizeOf9
 v26:=Tryz.zeroValue9
 t27:=Tryz.underlying99
 a27:=Tryz.isAgg99
 z27:=Tryz.sizeOf99
 v27:=Tryz.zeroValue99
 t28:=Tryz.underlying100
 a28:=Tryz.isAgg100
 z28:=Tryz.sizeOf100
 v28:=Tryz.zeroValue100
 t33:=Tryz.underlying141
 a33:=Tryz.isAgg141
 z33:=Tryz.sizeOf141
 v33:=Tryz.zeroValue141}
def Tryz.vL:Go.Shelf.Ren:=⟨fun|6=>39|8=>77|9=>78|11=>104|13=>106|12=>105|23=>121|24=>122|14=>112|15=>113|16=>114|17=>115|18=>116|19=>117|20=>118|21=>119|22=>120|25=>127|26=>128|27=>129|28=>130|29=>131|30=>126|31=>132|n=>n,fun|26=>9|28=>100|24=>92|0=>0|3=>3|37=>145|48=>31|50=>29|4=>4|40=>176|39=>175|45=>181|5=>5|9=>9|51=>188|55=>192|57=>194|58=>195|33=>141|n=>n,fun|n=>n⟩
theorem Tryz.IE:Go.Proofs.SlLaysZ.n6 Tryz.prog Tryz.vL:={
 mixed:=by kernel_rfl
 f6:=⟨Tryz.f39.name,by decide,Tryz.func39.trans (congrArg some (by kernel_rfl))⟩
 f8:=⟨Tryz.f77.name,by decide,Tryz.func77.trans (congrArg some (by kernel_rfl))⟩
 f11:=⟨Tryz.f104.name,by decide,Tryz.func104.trans (congrArg some (by kernel_rfl))⟩
 t0:=Tryz.underlying0
 a0:=Tryz.isAgg0
 z0:=Tryz.sizeOf0
 v0:=Tryz.zeroValue0
 t24:=Tryz.underlying92
 a24:=Tryz.isAgg92
 z24:=Tryz.sizeOf92
 v24:=Tryz.zeroValue92
 t26:=Tryz.underlying9
 a26:=Tryz.isAgg9
 z26:=Tryz.sizeOf9
 v26:=Tryz.zeroValue9
 t28:=Tryz.underlying100
 a28:=Tryz.isAgg100
 z28:=Tryz.sizeOf100
 v28:=Tryz.zeroValue100
 i26:=by kernel_rfl}
def Tryz.KN:Go.Shelf.Ren:=⟨fun|6=>78|8=>106|9=>105|19=>121|20=>122|21=>112|22=>113|23=>114|24=>115|25=>116|26=>117|27=>118|28=>119|29=>120|36=>127|31=>128|32=>129|37=>130|38=>131|39=>126|41=>132|n=>n,fun|27=>92|29=>9|3=>3|32=>145|26=>92|0=>0|44=>31|46=>29|4=>4|36=>176|35=>175|41=>181|5=>5|9=>9|53=>188|57=>192|63=>194|64=>195|n=>n,fun|n=>n⟩
theorem Tryz.Rh:Go.Proofs.SlLaysM.n6 Tryz.prog Tryz.KN:={
 mixed:=by kernel_rfl
 f6:=⟨Tryz.f78.name,by decide,Tryz.func78.trans (congrArg some (by kernel_rfl))⟩
 f8:=Tryz.func106.trans (congrArg some (by kernel_rfl))
 f9:=⟨Tryz.f105.name,by decide,Tryz.func105.trans (congrArg some (by kernel_rfl))⟩
 f19:=Tryz.func121.trans (congrArg some (by kernel_rfl))
 f20:=Tryz.func122.trans (congrArg some (by kernel_rfl))
 f21:=⟨Tryz.f112.name,by decide,Tryz.func112.trans (congrArg some (by kernel_rfl))⟩
 f22:=⟨Tryz.f113.name,by decide,Tryz.func113.trans (congrArg some (by kernel_rfl))⟩
 f23:=⟨Tryz.f114.name,by decide,Tryz.func114.trans (congrArg some (by kernel_rfl))⟩
 f24:=⟨Tryz.f115.name,by decide,Tryz.func115.trans (congrArg some (by kernel_rfl))⟩
 f25:=⟨Tryz.f116.name,by decide,Tryz.func116.trans (congrArg some (by kernel_rfl))⟩
 f26:=⟨Tryz.f117.name,by decide,Tryz.func117.trans (congrArg some (by kernel_rfl))⟩
 f27:=⟨Tryz.f118.name,by decide,Tryz.func118.trans (congrArg some (by kernel_rfl))⟩
 f28:=⟨Tryz.f119.name,by decide,Tryz.func119.trans (congrArg some (by kernel_rfl))⟩
 f29:=⟨Tryz.f120.name,by decide,Tryz.func120.trans (congrArg some (by kernel_rfl))⟩
 f31:=Tryz.func128.trans (congrArg some (by kernel_rfl))
 f32:=Tryz.func129.trans (congrArg some (by kernel_rfl))
 f36:=⟨Tryz.f127.name,by decide,Tryz.func127.trans (congrArg some (by kernel_rfl))⟩
 f37:=⟨Tryz.f130.name,by decide,Tryz.func130.trans (congrArg some (by kernel_rfl))⟩
 f38:=⟨Tryz.f131.name,by decide,Tryz.func131.trans (congrArg some (by kernel_rfl))⟩
 f39:=⟨Tryz.f126.name,by decide,Tryz.func126.trans (congrArg some (by kernel_rfl))⟩
 f41:=⟨Tryz.f132.name,by decide,Tryz.func132.trans (congrArg some (by kernel_rfl))⟩
 t0:=Tryz.underlying0
 a0:=Tryz.isAgg0
 z0:=Tryz.sizeOf0
 v0:=Tryz.zeroValue0
 t3:=Tryz.underlying3
 a3:=Tryz.isAgg3
 z3:=Tryz.sizeOf3
 v3:=Tryz.zeroValue3
 t4:=Tryz.underlying4
 a4:=Tryz.isAgg4
 z4:=Tryz.sizeOf4
 v4:=Tryz.zeroValue4
 t5:=Tryz.underlying5
 a5:=Tryz.isAgg5
 z5:=Tryz.sizeOf5
 v5:=Tryz.zeroValue5
 t9:=Tryz.underlying9
 a9:=Tryz.isAgg9
 z9:=Tryz.sizeOf9
 v9:=Tryz.zeroValue9
 t26:=Tryz.underlying92
 a26:=Tryz.isAgg92
 z26:=Tryz.sizeOf92
 v26:=Tryz.zeroValue92
 t27:=Tryz.underlying92
 a27:=Tryz.isAgg92
 z27:=Tryz.sizeOf92
 v27:=Tryz.zeroValue92
 t29:=Tryz.underlying9
 a29:=Tryz.isAgg9
 z29:=Tryz.sizeOf9
 v29:=Tryz.zeroValue9
 t32:=Tryz.underlying145
 a32:=Tryz.isAgg145
 z32:=Tryz.sizeOf145
 v32:=Tryz.zeroValue145
 t35:=Tryz.underlying175
 a35:=Tryz.isAgg175
 z35:=Tryz.sizeOf175
 v35:=Tryz.zeroValue175
 t36:=Tryz.underlying176
 a36:=Tryz.isAgg176
 z36:=Tryz.sizeOf176
 v36:=Tryz.zeroValue176
 t41:=Tryz.underlying181
 a41:=Tryz.isAgg181
 z41:=Tryz.sizeOf181
 v41:=Tryz.zeroValue181
 t44:=Tryz.underlying31
 a44:=Tryz.isAgg31
 z44:=Tryz.sizeOf31
 v44:=Tryz.zeroValue31
 t46:=Tryz.underlying29
 a46:=Tryz.isAgg29
 z46:=Tryz.sizeOf29
 v46:=Tryz.zeroValue29
 t53:=Tryz.underlying188
 a53:=Tryz.isAgg188
 z53:=Tryz.sizeOf188
 v53:=Tryz.zeroValue188
 t57:=Tryz.underlying192
 a57:=Tryz.isAgg192
 z57:=Tryz.sizeOf192
 v57:=Tryz.zeroValue192
 t63:=Tryz.underlying194
 a63:=Tryz.isAgg194
 z63:=Tryz.sizeOf194
 v63:=Tryz.zeroValue194
 t64:=Tryz.underlying195
 a64:=Tryz.isAgg195
 z64:=Tryz.sizeOf195
 v64:=Tryz.zeroValue195}
end Go.Proofs
namespace Go.AX
noncomputable section
open Go.RowKit
end
end Go.AX
namespace Go.Proofs.YtnedigoajoflaaaGreat.M
open Go.RowKit Go.Maps Go.Sort Go.Shelf Go.Proofs Go.AX
theorem Mu(m:Nat):AnyZ.SortsIn Tryz.prog Tryz.vL Fence.wide m:=
  ⟨fun blk off cap ss W hH hblk mH=>callsIn_wide.2 (AnyM.slices_Sort_string Tryz.Rh blk off cap ss W hH hblk mH),
   fun p cap W=>callsIn_wide.2 (AnyM.slices_Sort_string_none Tryz.Rh p cap W)⟩
theorem KO:AX.AM Tryz.prog 39 102 9:=by
 intro Bm b nn D0 R w hBm yl P1 wN qQ;exact(callsIn_wide (n:=5)).1 (AnyZ.sorted_in Tryz.IE Fence.wide 5 trivial trivial trivial trivial rfl (by omega) (Mu _) (enters_of Tryz.func78 (by kernel_rfl) rfl) 102 #[.pointer (some ⟨Bm,0,none⟩)] trivial (enters_of Tryz.func102 (by kernel_rfl) rfl) _ _ wN qQ _ (AnyZ.keys_gives (ρ:=Tryz.B4) {Tryz.Zf with} Fence.wide _ trivial rfl (by omega) Bm b nn D0 _ hBm yl P1))
noncomputable def Mv:lI:=(FL (pw 39 102) jX)
theorem uc:eN Tryz.prog Mv:=(NU (tn (by kernel_rfl) KO) (fB _))
end Go.Proofs.YtnedigoajoflaaaGreat.M
namespace Go.Proofs.YtnedigoajoflaaaGreat.M
open Go Go.AX
noncomputable section
set_option maxRecDepth 100000
def strs(l:List (List Nat)):List AV:=l.map .str
theorem B5{x:Nat}:∀{l:List Nat},iM l x=true↔x∉l:=by
 intro l;rw[qU];simp
theorem EG{clock:Nat}:∀{es:List (AV×AV×Nat)}{X:View},es.map xg=(mR X).map (xh encS)→(X.map (·.1)).Nodup→(es.map (·.2.2)).Nodup→(∀e,e∈es→e.2.2<clock)→(∀p,p∈X→p.1.length≤1000000)→keysOf clock es=some (X.map (·.1),es.map (·.2.2))
 |[],[],_,_,_,_,_=>rfl
 |[],p::X,h,_,_,_,_=>by simp[mR]at h
 |e::es,[],h,_,_,_,_=>by simp[mR]at h
 |e::es,p::X,h,nd,ns,lt,hz=>by
  unfold mR at h;rw[aw,aw,aw,List.cons.injEq]at h;have e1:e.1= .str p.1:=congrArg Prod.fst h.1;rw[aw,aL]at nd ns;have ih:=EG (clock:=clock) (es:=es) (X:=X) h.2 nd.2 ns.2 (fun x hx=>lt x (by simp[hx])) (fun q hq=>hz q (by simp[hq]));obtain⟨a,b,c⟩:=e;simp only at e1;subst e1;unfold keysOf;have h1:tS p.1 (X.map (·.1))=true:=pz.2 nd.1;have h2:iM (es.map (·.2.2)) c=true:=B5.2 ns.1;have h3:Nat.blt c clock=true:=by rw[Nat.blt_eq];exact lt _ (List.mem_cons_self ..)
  have h4:small p.1.length=true:=aS (by have:=hz p (by simp);omega);simp only[ih,h1,h2,h3,h4,Bool.and_self,aw]
theorem Up{h0:H}{r:Nat}{X:View}(m:fu encS h0 r (mR X))(nd:(X.map (·.1)).Nodup)(hz:X.length≤1000000)(hk:∀p,p∈X→p.1.length≤1000000){Q:AV→H→Prop}
  (hq:∀v h',bK 1 (h0.nx+1) h' v X.length (strs (fJ (X.map (·.1))))→Og h0 h' []→Q v h'):kL P (.enter 39 [.func 102 [] [.ptr h0.nx 0]] (h0.bq 78 [.map r])) Q:=by
 obtain⟨es,clock,g1,g2,g3,g4⟩:=m.has;have Wg:=m.lt;have hl:es.length=X.length:=by have:=congrArg List.length g2;simpa[mR]using this
 have hko:=EG g2 nd g3 g4 hk;have hgb:(h0.bq 78 [.map r]).t.get h0.nx=some (.cells (kQ [AV.map r]) (T.ofRow [AV.map r]) ⟨0,79⟩ false):=by
  unfold H.bq H.alloc;rw[T.bS,if_pos rfl]
 have hgr:(h0.bq 78 [.map r]).t.get r=some (.map es clock):=by
  unfold H.bq H.alloc;rw[T.bS,if_neg (by omega)];exact g1
 have s_:small es.length=true:=aS (by omega);have hT:(T.ofRow [AV.map r]).get 0=some (.map r):=by rw[T.eG];rfl
 have tI:jq (h0.bq 78 [.map r]) h0.nx=iv (h0.bq 78 [.map r]) es clock:=by
  unfold jq;simp only[hgb,hT,hgr]
 have o1:Og h0 (h0.bq 78 [.map r]) []:=(Og.refl _ _).new _ _;cases X with
 | nil=>
  have Jz:iv (h0.bq 78 [.map r]) es clock=some (.bh,h0.bq 78 [.map r]):=by
   unfold iv;simp only[s_,hko,List.map_nil]
  refine kL.uY P uc (v:=.bh) (h':=h0.bq 78 [.map r]) ?_ (hq _ _ .none o1);show(match jq (h0.bq 78 [.map r]) h0.nx with|some x=>some x|none=>_)=_;rw[tI,Jz]
 | cons p X=>
  obtain⟨h1,cC⟩:∃h1,h1=h0.bq 78 [.map r]:=⟨_,rfl⟩;have x1:h1.nx=h0.nx+1:=by rw[cC];rfl
  have Jz:iv h1 es clock=some (.slice h1.nx 0 (X.length+1) (.iK 0),h1.grown none ⟨1,0⟩ ((fJ ((p::X).map (·.1))).map .str)):=by
   unfold iv;simp only[s_,hko,aw,aK,au]
  rw[←cC]at tI o1 ⊢;refine kL.uY P uc (v:=.slice h1.nx 0 (X.length+1) (.iK 0)) (h':=h1.grown none ⟨1,0⟩ ((fJ ((p::X).map (·.1))).map .str)) ?_ (hq _ _ ?_ (o1.t ⟨t_,rfl⟩))
  ·show(match jq h1 h0.nx with|some x=>some x|none=>_)=_
   rw[tI,Jz]
  ·have zo:((fJ ((p::X).map (·.1))).map AV.str).length=(X.length+1)*1:=by
    rw[au,(fe _).length_eq,au,aK,Nat.mul_one]
   refine .cell h1.nx (X.length+1) _ (T.ofRow ((fJ ((p::X).map (·.1))).map .str)) 0 (by omega) (by rw[sE];omega) zo ?_ (T.eG _);rw[←zo];exact iS _ _ _ _
theorem keysC(h0:H)(r:Nat):bW P (.enter 70 [.map r] h0) (fun v h'=>v= .func 102 [] [.ptr h0.nx 0]∧h'=h0.bq 78 [.map r]):=by
 refine bn (fn:=Tryz.f70) (c:=bD Tryz.f70) Tryz.func70 rfl ?_;show bB P 70 4 none _ _ _ _ _;refine bp ?_;repeat' (first|((with_reducible refine gh ?_);(conv =>whnf);(with_reducible refine⟨?_⟩))|((with_reducible refine bE rfl ?_);(conv =>arg 2;whnf))|((with_reducible first|refine iB ?_ ?_|refine g_ ?_ ?_|refine hP ?_ ?_)<;>intro hb<;>(try simp only[hb]))|(simp only[B,F,ab,ae,af,ag,ah,ai, ↓reduceIte,eq_self]))
def dP(k:List Nat)(W:View):Option Rec:=(W.find? fun p=>decide (k=p.1)).map (·.2)
def gu(k:List Nat)(W:View):KV:=((dP k W).map (·.kv)).getD wE
def ny(W:View)(key fin:List Nat):List KV:=((fJ (W.map (·.1))).filter (fun k=>fL k key fin)).map fun k=>gu k W
def WB(W:View)(key fin:List Nat)(ks:List (List Nat)):List KV:=(ks.filter (fun k=>fL k key fin)).map fun k=>gu k W
theorem Zg(k:List Nat)(W:View):gU k (mR W)=(dP k W).map fun r=>.agg r.cs:=by
 unfold gU dP mR;induction W with
 |nil=>rfl
 |cons p W ih=>
  rw[aw,aH,aH];by_cases q:k=p.1
  ·simp[q]
  ·simp only[decide_eq_false q];exact ih
theorem inK_s{W:View}{key fin:List Nat}{ks:List (List Nat)}{i:Nat}{k:List Nat}(h:ks[i]? =some k):WB W key fin (ks.take (i+1))=WB W key fin (ks.take i)++(if fL k key fin then[gu k W]else[]):=by
 unfold WB;rw[aB,h,List.filter_append,aR];cases q:fL k key fin<;>simp[q]
theorem Mw(W:View)(key fin:List Nat)(ks:List (List Nat)):(WB W key fin ks).length≤ks.length:=by
 unfold WB;rw[au];exact List.length_filter_le _ _
theorem nQ{h:H}{b o n:Nat}{cap:ur}{ks:List (List Nat)}(sl:br h (.slice b o n cap) n (strs ks)){i:Nat}{k:List Nat}(hk:ks[i]? =some k):cellAt h b (o+i*1)=some (.str k):=by
 cases sl with
 |cell b o n cap mS hb hc=>
  have hl:i<(strs ks).length:=by unfold strs;rw[au];exact(List.getElem?_eq_some_iff.1 hk).1
  have:=hc i hl;rw[Nat.mul_one,this];unfold strs;rw[List.getElem?_map,hk];rfl
theorem Ri:P.underlying 92=some (.slice 9):=by kernel_rfl
theorem z94a:dv P 91=some (.agg [.int .u64 (.ofNat 0),.int .u64 (.ofNat 0),.str [],.str [],.int .u64 (.ofNat 0),.int .u64 (.ofNat 0),.int .u64 (.ofNat 0),.bool false]):=by kernel_rfl
def Db:Rec:=⟨0,0,wE,false⟩
theorem pO{h:H}{r:Nat}{W:View}(m:fu encS h r (mR W))(k:List Nat):lA P 78 (.map r) (.str k) false h=some (.agg ((dP k W).getD Db).cs)∧lA P 78 (.map r) (.str k) true h=some (.tuple [.agg ((dP k W).getD Db).cs,.bool (dP k W).isSome]):=by
 have h1:=vD (P:=P) Q_ Wy z94a m k false;have h2:=vD (P:=P) Q_ Wy z94a m k true;rw[Zg]at h1 h2;cases q:dP k W with
 |none=>rw[q]at h1 h2;exact⟨h1,h2⟩
 |some x=>rw[q]at h1 h2;exact⟨h1,h2⟩
theorem B6(k:List Nat)(W:View):gu k W=((dP k W).getD Db).kv:=by
 unfold gu;cases dP k W<;>rfl
structure InI(h0:H)(base r:Nat)(W:View)(key fin:List Nat)(vs:AV)(ks:List (List Nat))(m:Nat)(ds:List Nat)(tm:T AV)(h:H)(i:Nat)(w:AV):Prop where
 ds:ds=[]
 nn:m=ks.length-i
 ii:i≤ks.length
 t0:tm.get 0=some (.map r)
 t1:tm.get 1=some (.str key)
 t2:tm.get 2=some (.str fin)
 t7:tm.get 7=some w
 t12:tm.get 12=some vs
 t13:tm.get 13=some (.int .i64 (.ofNat ks.length))
 t14:tm.get 14=some (.int .i64 (.ofNat i))
 gr:bK 5 base h w (WB W key fin (ks.take i)).length ((WB W key fin (ks.take i)).flatMap KV.cs)
 sl:br h vs ks.length (strs ks)
 nb:∀c,bA vs=some c→c<base
 oo:Og h0 h []
 bb:base≤h.nx
theorem zA(h0:H)(r:Nat)(W:View)(key fin:List Nat)(m:fu encS h0 r (mR W))(nd:(W.map (·.1)).Nodup)(hz:W.length≤1000000)(hk:∀p,p∈W→p.1.length≤1000000):
  bW P (.enter 33 [.map r,.str key,.str fin] h0) fun v h'=>Og h0 h' []∧bK 5 h0.nx h' v (ny W key fin).length ((ny W key fin).flatMap KV.cs):=by
 have Wg:=m.lt;refine bn (fn:=Tryz.f33) (c:=bD Tryz.f33) Tryz.func33 rfl ?_;show bB P 33 31 none _ _ _ _ _;refine bp ?_;refine kM ?_;refine((keysC h0 r).call P).mono P ?_;rintro _ _ ⟨rfl,rfl⟩;refine kM ?_;refine Up m nd hz hk (fun v h1 g1 o1=>?_);obtain⟨ks,OV⟩:∃ks,ks=fJ (W.map (·.1)):=⟨_,rfl⟩;have hkl:ks.length=W.length:=by rw[OV,(fe _).length_eq,au]
 rw[←OV,←hkl]at g1;have gs:=g1.slice;have hlen:=gs.len (P:=P) Ri;have tI:ny W key fin=WB W key fin ks:=by rw[OV];rfl
 have j7:=g1.one;rw[tI];refine rN ?_ (V hlen<|j7);have x1:=o1.1.1;refine cn (fun m ds tm h=>∃i w,InI h0 h1.nx r W key fin v ks m ds tm h i w) ks.length rfl ⟨0,.bh,rfl,rfl,aq _,by exact sT,by exact sT,by exact sT,by exact sT,by exact sT,by exact sT,by exact sT,bK.none,gs,(fun c hc=>(g1.base hc).2),o1,ao _⟩ (fun m' ds tm h hI=>?_);obtain⟨i,w,rfl,rfl,ii,t0,t1,t2,t7,t12,t13,t14,gr,sl,nb,oo,bb⟩:=hI;have nR:=gr.one;by_cases hi:i<ks.length
 ·have di:decide (i<ks.length)=true:=decide_eq_true hi
  have dX:(i<ks.length)=True:=by simp[hi]
  obtain⟨k,hx⟩:∃k,ks[i]? =some k:=⟨_,an hi⟩;have jk:=sl;obtain⟨bv,ov,cv,rfl,qw,-⟩:=sl.place (by omega);have q0:=nQ sl hx;have w1:bV .i64 (ak i+ak 1)=ak (i+1):=cq (by omega);have hs:=inK_s (W:=W) (key:=key) (fin:=fin) hx;refine rN ?_ (V t0<|V t1<|V t2<|V t7<|V t12<|V t13<|V t14<|V di<|V dX<|q0);refine((Q1 h k key fin).call P).mono P ?_;rintro _ h2 ⟨rfl,o2⟩;have x2:=o2.1.1;have yJ:bK 5 h1.nx h2 w _ _:=gr.bG o2.1.1 (fun d e=>o2.1.2 d (gr.base e).2 (by simp));have Rj:=br.only o2.1 jk (fun _ _=>by simp);cases q:fL k key fin with
  |false=>
   rw[q]at hs;simp only[Bool.false_eq_true, ↓reduceIte,List.append_nil]at hs;refine rN ?_ (V q<|V t14<|w1);exact⟨ks.length-(i+1),by omega,i+1,w,rfl,rfl,by omega,by exact sT,by exact sT,by exact sT,by exact sT,by exact sT,by exact sT,by exact sT,by rw[hs];exact yJ,Rj,nb,oo.t o2,by omega⟩
  | true=>
   rw[q]at hs;simp only[↓reduceIte]at hs;have m2:=m.bU (oo.t o2).1 (by simp);have lk:=(pO m2 k).1;obtain⟨x,WC⟩:∃x,x=(dP k W).getD Db:=⟨_,rfl⟩;have sQ:gu k W=x.kv:=by rw[B6,WC]
   rw[←WC]at lk;rw[sQ]at hs;unfold Rec.cs at lk;refine rN ?_ (V q<|V t0<|V t7<|V t14<|V w1<|V @fb<|V lk<|nR);obtain⟨h3,cB⟩:∃h3,h3=h2.bq 83 [.str x.kv.key,.str x.kv.val,.int .u64 (.ofNat x.kv.iC),.int .u64 (.ofNat x.kv.mod),.int .u64 (.ofNat x.kv.im)]:=⟨_,rfl⟩;have o3:Og h2 h3 []:=by rw[cB];exact(Og.refl _ _).new _ _
   have x3:h3.nx=h2.nx+1:=by rw[cB];rfl
   have Mx:bK 5 h1.nx h3 w _ _:=yJ.bG o3.1.1 (fun d e=>o3.1.2 d (yJ.base e).2 (by simp));have zo:=Mw W key fin (ks.take i);have Zi:(ks.take i).length=i:=by rw[aD];omega
   rw[←cB];refine dz (m:=1) (new:=x.kv.cs) Mx (by omega) (by omega) (by omega) rfl (by omega) (fun v7 h7 g7 x7 gV ud vM=>?_);have wG:=g7.one;refine rN ?_ (V t14<|V wG<|w1);have o7:Og h3 h7 []→Og h0 h7 []:=fun o=>((oo.t o2).t o3).t o;refine⟨ks.length-(i+1),by omega,i+1,v7,rfl,rfl,by omega,by exact sT,by exact sT,by exact sT,by exact sT,by exact sT,by exact sT,by exact sT,by rw[hs,aE,aC];exact g7,?_,nb,⟨⟨by have:=oo.1.1;omega,fun d hd _=>?_⟩,by rw[vM,o3.2,o2.2,oo.2]⟩,by omega⟩
   ·refine br.only (S:=match bA w with|some c=>[c]|none=>[]) ⟨by omega,fun d hd hn=>?_⟩ jk (fun b hb=>?_)
    ·rw[gV d (by omega) (fun e=>hn (by rw[e];simp)),o3.1.2 d (by omega) (by simp),o2.1.2 d (by omega) (by simp)]
    ·have:=nb b hb
     cases Jx:bA w with
     |none=>simp
     |some c=>have:=(gr.base Jx).1;simp;omega
   ·have:=oo.1.1
    rw[gV d (by omega) (fun e=>by have:=(gr.base e).1;omega),o3.1.2 d (by omega) (by simp),o2.1.2 d (by omega) (by simp),oo.1.2 d hd (by simp)]
 ·have di:decide (i<ks.length)=false:=decide_eq_false hi
  obtain rfl:i=ks.length:=by omega
  rw[aA]at gr;refine rN ?_ (V t0<|V t1<|V t2<|V t7<|V t12<|V t13<|V t14<|V di<|nR);exact⟨oo,gr.wk x1⟩
theorem EH(h:H)(x:Op):∃h1,(h.bq 41 [.int .i64 (.ofNat 0),.str [],.str [],.str [],.int .u64 (.ofNat 0),.int .i64 (.ofNat 0),.bool false,.bool false,.bool false]).cm h.nx 0 [.int .i64 x.kind,.str x.key,.str x.fin,.str x.val,.int .u64 (.ofNat x.rev),.int .i64 x.dA,.bool x.count,.bool x.keys,.bool x.prev]=h1∧Og h h1 []∧h1.nx=h.nx+1∧
  cellAt h1 h.nx 0=some (.int .i64 x.kind)∧cellAt h1 h.nx 1=some (.str x.key)∧cellAt h1 h.nx 2=some (.str x.fin)∧cellAt h1 h.nx 3=some (.str x.val)∧cellAt h1 h.nx 4=some (.int .u64 (.ofNat x.rev))∧cellAt h1 h.nx 5=some (.int .i64 x.dA)∧cellAt h1 h.nx 6=some (.bool x.count)∧cellAt h1 h.nx 7=some (.bool x.keys)∧cellAt h1 h.nx 8=some (.bool x.prev):=by
 refine⟨_,rfl,((Og.refl _ _).new _ _).cm (.inr (ao _)),by rw[bI,dt],?_⟩;have c:∀j,j<9→cellAt ((h.bq 41 [.int .i64 (.ofNat 0),.str [],.str [],.str [],.int .u64 (.ofNat 0),.int .i64 (.ofNat 0),.bool false,.bool false,.bool false]).cm h.nx 0 x.cs) h.nx j=x.cs[j]? :=fun j hj=>by
  rw[b_ (by rw[cY,if_pos rfl]),if_pos ⟨rfl,aq _,by show j<0+9;omega⟩,aY]
 exact⟨c 0 (by omega),c 1 (by omega),c 2 (by omega),c 3 (by omega),c 4 (by omega),c 5 (by omega),c 6 (by omega),c 7 (by omega),c 8 (by omega)⟩
abbrev IV:=List (List Nat×Nat)
def mI(X:IV):List (List Nat×AV):=X.map fun p=>(p.1,.int .i64 (.ofNat p.2))
def pP(k:List Nat)(X:IV):Nat:=((X.find? fun p=>decide (k=p.1)).map (·.2)).getD 0
def rL(k:List Nat)(n:Nat):IV→IV
 |[]=>[(k,n)]
 |(a,x)::X=>if k=a then(a,n)::X else(a,x)::rL k n X
theorem Rk(k:List Nat)(n:Nat):∀X:IV,fH k (.int .i64 (.ofNat n)) (mI X)=mI (rL k n X)
 |[]=>rfl
 |(a,x)::X=>by
  have ih:=Rk k n X;show fH k _ ((a,AV.int .i64 (.ofNat x))::mI X)=_;unfold fH rL;by_cases q:k=a
  ·rw[if_pos q,if_pos q];rfl
  ·rw[if_neg q,if_neg q,ih];rfl
theorem Zj(k:List Nat)(X:IV):gU k (mI X)=((X.find? fun p=>decide (k=p.1)).map (·.2)).map fun n=>AV.int .i64 (.ofNat n):=by
 unfold gU mI;induction X with
 |nil=>rfl
 |cons p W ih=>
  rw[aw,aH,aH];by_cases q:k=p.1
  ·simp[q]
  ·simp only[decide_eq_false q];exact ih
theorem My:P.underlying 157=some (.map 9 3):=by kernel_rfl
theorem z3a:dv P 3=some (.int .i64 (.ofNat 0)):=by kernel_rfl
theorem mk132(tm:T AV)(h:H):bF P tm h (.makeMap 157 none)= .val (.map h.nx) (h.alloc (.map [] 0)):=by simp only[bF,My,kI]
theorem Uq{h:H}{r:Nat}{X:IV}(m:fu encS h r (mI X))(k:List Nat):lA P 157 (.map r) (.str k) false h=some (.int .i64 (.ofNat (pP k X))):=by
 have h1:=vD (P:=P) My Wy z3a m k false;rw[Zj]at h1;unfold pP;cases q:((X.find? fun p=>decide (k=p.1)).map (·.2))with
 |none=>rw[q]at h1;exact h1
 |some x=>rw[q]at h1;exact h1
theorem Mz{k:List Nat}{n:Nat}:∀{X:IV},(∀p,p∈X→p.2≤n)→pP k X≤n
 |[],_=>aq _
 |p::X,h=>by
  have ih:=Mz (k:=k) (X:=X) fun q hq=>h q (by simp[hq]);unfold pP at ih ⊢;rw[aH];by_cases q:k=p.1
  ·simp only[q,decide_true];exact h p (by simp)
  ·simp only[decide_eq_false q];exact ih
theorem MA{k:List Nat}{m n:Nat}(hm:m≤n):∀{X:IV},(∀p,p∈X→p.2≤n)→∀p,p∈rL k m X→p.2≤n
 |[],_,p,hp=>by
  unfold rL at hp;rw[aO]at hp;subst hp;exact hm
 | (a,x)::X,h,p,hp=>by
  unfold rL at hp;split at hp
  ·rcases List.mem_cons.1 hp with rfl|hp
   ·exact hm
   ·exact h p (by simp[hp])
  ·rcases List.mem_cons.1 hp with rfl|hp
   ·exact h _ (by simp)
   ·exact MA hm (fun q hq=>h q (by simp[hq])) p hp
def IF(X:IV)(o:Op):IV:=if o.kind== .ofNat 1 then rL o.key (pP o.key X+1) X else X
def iH(l:List Op):IV:=l.foldl IF []
theorem Ur{l:List Op}{i:Nat}{o:Op}(h:l[i]? =some o):iH (l.take (i+1))=IF (iH (l.take i)) o:=by
 unfold iH;rw[aB,h,aG];rfl
def xm(o:Op)(p:List Nat×Nat):Bool:=decide (1<p.2)||((o.kind== .ofNat 2)&&fL p.1 o.key o.fin)
def TwP(l:List Op):Prop:=∃o,o∈l∧∃p,p∈iH l∧xm o p=true
theorem Rl{R:IV}{p:List Nat×AV}{R1 R2:List (List Nat×AV)}(h:mI R=R1++p::R2):∃S1 x S2,R=S1++x::S2∧mI S1=R1∧p=(x.1,.int .i64 (.ofNat x.2))∧mI S2=R2:=by
 unfold mI at h;obtain⟨S1,S',e,q1,q2⟩:=List.map_eq_append_iff.1 h;obtain⟨x,S2,e2,q3,q4⟩:=List.map_eq_cons_iff.1 q2;subst e2;exact⟨S1,x,S2,e,q1,q3.symm,q4⟩
theorem Rm(A B:IV):mI (A++B)=mI A++mI B:=by unfold mI;rw[aR]
theorem Oj{α:Type}{V S1 S2 L:List α}{x:α}(h:(V++(S1++x::S2)).Perm L):(V++[x]++(S1++S2)).Perm L:=by
 refine List.Perm.trans ?_ h;rw[aQ];refine List.Perm.append_left V ?_;rw[List.singleton_append];exact List.perm_middle.symm
structure TaI(h0:H)(r:Nat)(va:AV)(l:List Op)(m:Nat)(ds:List Nat)(tm:T AV)(h:H)(i:Nat):Prop where
 ds:ds=[]
 nn:m=l.length-i
 ii:i≤l.length
 t0:tm.get 0=some va
 t3:tm.get 3=some (.map r)
 t11:tm.get 11=some va
 t12:tm.get 12=some (.int .i64 (.ofNat l.length))
 t13:tm.get 13=some (.int .i64 (.ofNat i))
 mp:fu encS h r (mI (iH (l.take i)))
 le:∀p,p∈iH (l.take i)→p.2≤i
 oo:Og h0 h []
structure TbI(h0:H)(r:Nat)(va:AV)(l:List Op)(m:Nat)(ds:List Nat)(tm:T AV)(h:H)(i:Nat):Prop where
 ds:ds=[]
 nn:m=l.length-i
 ii:i≤l.length
 t3:tm.get 3=some (.map r)
 t26:tm.get 26=some va
 t27:tm.get 27=some (.int .i64 (.ofNat l.length))
 t28:tm.get 28=some (.int .i64 (.ofNat i))
 mp:fu encS h r (mI (iH l))
 no:∀j o,j<i→l[j]? =some o→∀p,p∈iH l→xm o p=false
 oo:Og h0 h []
structure TcI(h0:H)(r b7 it:Nat)(va:AV)(l:List Op)(i:Nat)(x:Op)(m:Nat)(ds:List Nat)(tm:T AV)(h:H)(V R:IV):Prop where
 ds:ds=[]
 nn:m=R.length
 pm:(V++R).Perm (iH l)
 no:∀p,p∈V→xm x p=false
 t3:tm.get 3=some (.map r)
 t7:tm.get 7=some (.ptr b7 0)
 t26:tm.get 26=some va
 t27:tm.get 27=some (.int .i64 (.ofNat l.length))
 t28:tm.get 28=some (.int .i64 (.ofNat i))
 t33:tm.get 33=some (.ptr it 0)
 mp:fu encS h r (mI (iH l))
 rg:xi encS h it r (mI (iH l)) (mI V) (mI R)
 c0:cellAt h b7 0=some (.int .i64 x.kind)
 c1:cellAt h b7 1=some (.str x.key)
 c2:cellAt h b7 2=some (.str x.fin)
 lt:b7<h.nx
 ne:b7≠it
 ge:h0.nx≤it
 nr:it≠r
 oo:Og h0 h []
theorem Zk(h0:H)(va:AV)(l:List Op)(sl:br h0 va l.length (l.flatMap Op.cs))(hz:l.length≤1000000):bW P (.enter 57 [va] h0) (fun v h'=>∃b,cQ h0 (.bool b) v h'∧(b=true↔TwP l)):=by
 have hlen:=sl.len (P:=P) vK;refine bn (fn:=Tryz.f57) (c:=bD Tryz.f57) Tryz.func57 rfl ?_;show bB P 57 55 none _ _ _ _ _;refine bp ?_;refine rN ?_ (V mk132<|hlen);refine cn (fun m ds tm h=>∃i,TaI h0 h0.nx va l m ds tm h i) l.length rfl ⟨0,rfl,rfl,aq _,by exact sT,by exact sT,by exact sT,by exact sT,by exact sT,FX h0 encS,(fun p hp=>by cases hp),(Og.refl _ _).alloc _⟩ (fun m ds tm h hI=>?_);obtain⟨i,rfl,rfl,ii,t0,t3,t11,t12,t13,mp,le,oo⟩:=hI;by_cases hi:i<l.length
 ·have di:decide (i<l.length)=true:=decide_eq_true hi
  have dX:(i<l.length)=True:=by simp[hi]
  obtain⟨x,hx⟩:∃x,l[i]? =some x:=⟨_,an hi⟩;have jk:=br.only oo.1 sl (fun _ _=>by simp);obtain⟨bv,ov,cv,rfl,qw,-⟩:=sl.place (by omega);obtain⟨q0,q1,q2,q3,q4,q5,q6,q7,q8⟩:=Op.at jk hx;obtain⟨h1,cC,o1,x1,y0,y1,y2,y3,y4,y5,y6,y7,y8⟩:=EH h x;have m1:=mp.bU o1.1 (by simp);have w1:bV .i64 (ak i+ak 1)=ak (i+1):=cq (by omega);have hs:=Ur hx;cases q:x.kind== .ofNat 1 with
  |false=>
   have e:IF (iH (l.take i)) x=iH (l.take i):=by unfold IF;rw[q];rfl
   rw[e]at hs;refine rN ?_ (V t0<|V t3<|V t11<|V t12<|V t13<|V di<|V dX<|V q0<|V q1<|V q2<|V q3<|V q4<|V q5<|V q6<|V q7<|V q8<|V cC<|V y0<|V y1<|V q<|w1);exact⟨l.length-(i+1),by omega,i+1,rfl,rfl,by omega,by exact sT,by exact sT,by exact sT,by exact sT,by exact sT,by rw[hs];exact m1,by rw[hs];exact fun p hp=>by have:=le p hp;omega,oo.t o1⟩
  |true=>
   have e:IF (iH (l.take i)) x=rL x.key (pP x.key (iH (l.take i))+1) (iH (l.take i)):=by unfold IF;rw[q];rfl
   rw[e]at hs;have lk:=Uq m1 x.key;have hg:=Mz (k:=x.key) le;have wg:bV .i64 (ak (pP x.key (iH (l.take i)))+ak 1)=ak (pP x.key (iH (l.take i))+1):=cq (by omega);obtain⟨h2,hu,m2,x2,o2,g2⟩:=BW (P:=P) My Wy m1 x.key (.int .i64 (.ofNat (pP x.key (iH (l.take i))+1)));rw[Rk]at m2;have Wg:=mp.lt;have oo2:Og h0 h2 []:=⟨⟨by have:=oo.1.1;have:=o1.1.1;omega,fun c hc _=>by rw[o2.2 c (by have:=oo.1.1;have:=o1.1.1;omega) (by simp;omega)];exact(oo.t o1).1.2 c hc (by simp)⟩,g2.trans (oo.t o1).2⟩;refine rN ?_ (V t0<|V t3<|V t11<|V t12<|V t13<|V di<|V dX<|V q0<|V q1<|V q2<|V q3<|V q4<|V q5<|V q6<|V q7<|V q8<|V cC<|V y0<|V y1<|V q<|V w1<|V @fb<|V lk<|V wg<|V @pN<|V hu<|@FV);exact⟨l.length-(i+1),by omega,i+1,rfl,rfl,by omega,by exact sT,by exact sT,by exact sT,by exact sT,by exact sT,by rw[hs];exact m2,by rw[hs];exact MA (by omega) (fun p hp=>by have:=le p hp;omega),oo2⟩
 ·have di:decide (i<l.length)=false:=decide_eq_false hi
  obtain rfl:i=l.length:=by omega
  rw[aA]at mp;refine rN ?_ (V t0<|V t3<|V t11<|V t12<|V t13<|V di<|hlen);clear t11 t12 t13;refine cn (fun m ds tm h=>∃i,TbI h0 h0.nx va l m ds tm h i) l.length rfl ⟨0,rfl,rfl,aq _,by exact sT,by exact sT,by exact sT,by exact sT,mp,(fun j o hj=>absurd hj (by omega)),oo⟩ (fun m ds tm h hI=>?_);clear t0 t3 mp oo le;obtain⟨i,rfl,rfl,ii,t3,t26,t27,t28,mp,no,oo⟩:=hI;by_cases hi:i<l.length
  ·have di:decide (i<l.length)=true:=decide_eq_true hi
   have dX:(i<l.length)=True:=by simp[hi]
   obtain⟨x,hx⟩:∃x,l[i]? =some x:=⟨_,an hi⟩;have jk:=br.only oo.1 sl (fun _ _=>by simp);obtain⟨bv,ov,cv,rfl,qw,-⟩:=sl.place (by omega);obtain⟨q0,q1,q2,q3,q4,q5,q6,q7,q8⟩:=Op.at jk hx;obtain⟨h1,cC,o1,x1,y0,y1,y2,y3,y4,y5,y6,y7,y8⟩:=EH h x;have m1:=mp.bU o1.1 (by simp);have w1:bV .i64 (ak i+ak 1)=ak (i+1):=cq (by omega);obtain⟨h3,hrg,rg3,x3,o3,gg3⟩:=TW (P:=P) m1 My;have wF:Og h1 h3 []:=⟨o3,gg3⟩;have lr:=mp.lt;refine rN ?_ (V t3<|V t26<|V t27<|V t28<|V di<|V dX<|V q0<|V q1<|V q2<|V q3<|V q4<|V q5<|V q6<|V q7<|V q8<|V cC<|V @QI<|hrg);have lo:=oo.1.1;refine cn (fun m ds tm h'=>∃V R,TcI h0 h0.nx h.nx h1.nx (.slice bv ov l.length cv) l i x m ds tm h' V R) (iH l).length rfl ⟨[],iH l,rfl,rfl,List.Perm.refl _,(fun p hp=>by cases hp),by exact sT,by exact sT,by exact sT,by exact sT,by exact sT,by exact sT,m1.bU o3 (by simp),rg3,kc y0 wF (by omega) (by simp),kc y1 wF (by omega) (by simp),kc y2 wF (by omega) (by simp),by omega,by omega,by omega,by omega,(oo.t o1).t wF⟩ (fun m ds tm h4 hI=>?_);clear t3 t26 t27 t28 mp;obtain⟨V,R,rfl,rfl,pm,no2,t3,t7,t26,t27,t28,t33,mp,rg,c0,c1,c2,lt,ne,ge,nr,oo4⟩:=hI;refine Iy ?_ (@sc [0,0,0,1,1,0,0,1,1,0,0,1,0,1,1,1]);refine⟨pk1 ?_⟩
   (conv =>whnf)
   with_reducible refine⟨?_⟩
   refine XP rfl rfl t33 rg (fun hR=>?_) (fun p R1 R2 h5 hR rg5 x5 o5 gg5 uu=>?_)
   ·obtain rfl:R=[]:=by unfold mI at hR;exact List.map_eq_nil_iff.1 hR
    rw[List.append_nil]at pm;repeat' (first|((with_reducible refine gh ?_);(conv =>whnf);(with_reducible refine⟨?_⟩))|((with_reducible refine bE rfl ?_);(conv =>arg 2;whnf))|((with_reducible first|refine iB ?_ ?_|refine g_ ?_ ?_|refine hP ?_ ?_)<;>intro hb<;>(try simp only[hb]))|(simp only[B,F,ab,ae,af,ag,ah,ai, ↓reduceIte,eq_self,t3,t7,t26,t27,t28,w1]))
    refine⟨l.length-(i+1),by omega,i+1,rfl,rfl,by omega,by exact sT,by exact sT,by exact sT,by exact sT,mp,fun j o hj ho p hp=>?_,oo4⟩;by_cases e:j<i
    ·exact no j o e ho p hp
    ·obtain rfl:j=i:=by omega
     rw[hx]at ho;cases ho;exact no2 p (pm.mem_iff.2 hp)
   ·obtain⟨S1,⟨k,n⟩,S2,rfl,e1,rfl,e2⟩:=Rl hR
    have Zl:=uu h5 rfl rfl;have F6:Og h4 h5 [h1.nx]:=⟨o5,gg5⟩;have lo4:=oo4.1.1;have lo2:=oo.1.1;have Us:Og h0 h5 []:=⟨⟨by omega,fun c hc _=>by rw[o5.2 c (by omega) (by simp;omega)];exact oo4.1.2 c hc (by simp)⟩,gg5.trans oo4.2⟩;have Fy:(k,n)∈iH l:=pm.mem_iff.1 (by simp);have d0:=kc c0 F6 lt (by simp;exact ne);have d1:=kc c1 F6 lt (by simp;exact ne);have d2:=kc c2 F6 lt (by simp;exact ne);have mp5:=mp.bU o5 (by simp;omega);have yes:∀h',Og h0 h' []→xm x (k,n)=true→∃b,cQ h0 (.bool b) (.bool true) h'∧(b=true↔TwP l):=fun h' o hb=>⟨true,⟨rfl,o⟩,fun _=>⟨x,List.mem_of_getElem? hx,_,Fy,hb⟩,fun _=>rfl⟩;have next:∀(bZ:T AV) h',Og h5 h' []→xm x (k,n)=false→bZ.get 3=some (.map h0.nx)→bZ.get 7=some (.ptr h.nx 0)→bZ.get 26=some (AV.slice bv ov l.length cv)→bZ.get 27=some (.int .i64 (.ofNat l.length))→bZ.get 28=some (.int .i64 (.ofNat i))→bZ.get 33=some (.ptr h1.nx 0)→
      ∃m,m<(S1++(k,n)::S2).length∧∃V R,TcI h0 h0.nx h.nx h1.nx (AV.slice bv ov l.length cv) l i x m [] bZ h' V R:=fun bZ h' o hb g3 g7 g26 g27 g28 g33=>
     ⟨(S1++S2).length,by simp,V++[(k,n)],S1++S2,rfl,rfl,Oj pm,fun p hp=>by
      rcases List.mem_append.1 hp with hp|hp
      ·exact no2 p hp
      ·rw[aO]at hp;subst hp;exact hb,g3,g7,g26,g27,g28,g33,mp5.bU o.1 (by simp),by rw[Rm,Rm,e1,e2];exact rg5.bU o.1 (by simp) (by simp),kc d0 o (by omega) (by simp),kc d1 o (by omega) (by simp),kc d2 o (by omega) (by simp),by have:=o.1.1;omega,ne,ge,nr,Us.t o⟩
    by_cases q:1<n
    ·have dn:decide (1<n)=true:=decide_eq_true q
     repeat' (first|((with_reducible refine gh ?_);(conv =>whnf);(with_reducible refine⟨?_⟩))|((with_reducible refine bE rfl ?_);(conv =>arg 2;whnf))|((with_reducible first|refine iB ?_ ?_|refine g_ ?_ ?_|refine hP ?_ ?_)<;>intro hb<;>(try simp only[hb]))|(simp only[B,F,ab,ae,af,ag,ah,ai, ↓reduceIte,eq_self,t3,t7,t26,t27,t28,t33,@BY,Zl,dn,d0,d1,d2]))
     exact yes _ Us (by unfold xm;simp only[dn,Bool.true_or])
    ·have dn:decide (1<n)=false:=decide_eq_false q
     cases qk:x.kind== .ofNat 2 with
     |false=>
      repeat' (first|((with_reducible refine gh ?_);(conv =>whnf);(with_reducible refine⟨?_⟩))|((with_reducible refine bE rfl ?_);(conv =>arg 2;whnf))|((with_reducible first|refine iB ?_ ?_|refine g_ ?_ ?_|refine hP ?_ ?_)<;>intro hb<;>(try simp only[hb]))|(simp only[B,F,ab,ae,af,ag,ah,ai, ↓reduceIte,eq_self,t3,t7,t26,t27,t28,t33,@BY,Zl,dn,d0,d1,d2,qk]))
      exact next _ _ (Og.refl _ _) (by unfold xm;simp only[dn,qk,aW,Bool.false_and]) (by exact sT) (by exact sT) (by exact sT) (by exact sT) (by exact sT) (by exact sT)
     | true=>
      repeat' (first|((with_reducible refine gh ?_);(conv =>whnf);(with_reducible refine⟨?_⟩))|((with_reducible refine bE rfl ?_);(conv =>arg 2;whnf))|((with_reducible first|refine iB ?_ ?_|refine g_ ?_ ?_|refine hP ?_ ?_)<;>intro hb<;>(try simp only[hb]))|(simp only[B,F,ab,ae,af,ag,ah,ai, ↓reduceIte,eq_self,t3,t7,t26,t27,t28,t33,@BY,Zl,dn,d0,d1,d2,qk]))
      refine((Q1 h5 k x.key x.fin).call P).mono P ?_;rintro _ h6 ⟨rfl,o6⟩;cases ql:fL k x.key x.fin with
      |false=>
       refine rN ?_ (ql);exact next _ _ o6 (by unfold xm;simp only[dn,qk,ql,aW,Bool.true_and]) (by exact sT) (by exact sT) (by exact sT) (by exact sT) (by exact sT) (by exact sT)
      |true=>
       refine rN ?_ (ql);exact yes _ (Us.t o6) (by unfold xm;simp only[dn,qk,ql,aW,Bool.true_and])
  ·have di:decide (i<l.length)=false:=decide_eq_false hi
   obtain rfl:i=l.length:=by omega
   refine rN ?_ (V t3<|V t26<|V t27<|V t28<|di);refine⟨false,⟨rfl,oo⟩,fun e=>(by cases e),fun⟨o,ho,p,hp,hb⟩=>?_⟩;obtain⟨j,hj⟩:=List.mem_iff_getElem?.1 ho;rw[no j o (List.getElem?_eq_some_iff.1 hj).1 hj p hp]at hb;exact hb
theorem xp{α:Type}{cs:α→List AV}{sz:Nat}(hs:∀x,(cs x).length=sz):∀(L:List α)(i:Nat),(L.take i).flatMap cs=(L.flatMap cs).take (i*sz)
 |[],i=>by simp
 |a::L,0=>by simp
 |a::L,i+1=>by
  rw[List.take_succ_cons,aJ,aJ,xp hs L i,List.take_append,List.take_of_length_le (l:=cs a) (by rw[hs,aU];omega),hs];congr 2;rw[aU];omega
theorem EJ{α:Type}{cs:α→List AV}{sz:Nat}(hs:∀x,(cs x).length=sz):∀(L:List α)(i:Nat),(L.drop i).flatMap cs=(L.flatMap cs).drop (i*sz)
 |[],i=>by simp
 |a::L,0=>by simp
 |a::L,i+1=>by
  rw[List.drop_succ_cons,aJ,EJ hs L i,List.drop_append,List.drop_of_length_le (l:=cs a) (by rw[hs,aU];omega),hs,List.nil_append];congr 1;rw[aU];omega
theorem B7(h:H)(x:KV):∃h1,(h.bq 83 [.str [],.str [],.int .u64 (.ofNat 0),.int .u64 (.ofNat 0),.int .u64 (.ofNat 0)]).cm h.nx 0 [.str x.key,.str x.val,.int .u64 (.ofNat x.iC),.int .u64 (.ofNat x.mod),.int .u64 (.ofNat x.im)]=h1∧Og h h1 []∧h1.nx=h.nx+1∧
  cellAt h1 h.nx 0=some (.str x.key)∧cellAt h1 h.nx 1=some (.str x.val)∧cellAt h1 h.nx 2=some (.int .u64 (.ofNat x.iC))∧cellAt h1 h.nx 3=some (.int .u64 (.ofNat x.mod))∧cellAt h1 h.nx 4=some (.int .u64 (.ofNat x.im))∧cj h1 h.nx=true:=by
 refine⟨_,rfl,((Og.refl _ _).new _ _).cm (.inr (ao _)),by rw[bI,dt],?_⟩;have c:∀j,j<5→cellAt ((h.bq 83 [.str [],.str [],.int .u64 (.ofNat 0),.int .u64 (.ofNat 0),.int .u64 (.ofNat 0)]).cm h.nx 0 x.cs) h.nx j=x.cs[j]? :=fun j hj=>by
  rw[b_ (by rw[cY,if_pos rfl]),if_pos ⟨rfl,aq _,by show j<0+5;omega⟩,aY]
 exact⟨c 0 (by omega),c 1 (by omega),c 2 (by omega),c 3 (by omega),c 4 (by omega),by rw[bN,cY,if_pos rfl]⟩
def vN(k:List Nat):List KV→Nat
 |[]=>0
 |y::ys=>if cE y.key k then vN k ys+1 else 0
theorem KP(k:List Nat):∀l:List KV,vN k l≤l.length
 |[]=>ao _
 |y::ys=>by have:=KP k ys;unfold vN;split<;>simp <;>omega
theorem Rn{k:List Nat}:∀{l:List KV}{j:Nat}{y:KV},j<vN k l→l[j]? =some y→cE y.key k=true
 |[],j,y,h,_=>by simp[vN]at h
 | a::l,j,y,h,hy=>by
  unfold vN at h;split at h
  ·rename_i q
   cases j with
   |zero=>simp at hy;subst hy;exact q
   |succ j=>exact Rn (l:=l) (j:=j) (by omega) (by simpa using hy)
  ·omega
theorem Ro{k:List Nat}:∀{l:List KV}{y:KV},l[vN k l]? =some y→cE y.key k=false
 |[],y,h=>by simp at h
 | a::l,y,h=>by
  unfold vN at h;split at h
  ·exact Ro (l:=l) (by simpa using h)
  ·rename_i q
   simp at h;subst h;simpa using q
def mv(k:List Nat)(l:List KV):Bool:=match l[vN k l]? with|some y=>decide (y.key=k)|none=>false
def xq(x:KV)(k:List Nat)(l:List KV):List KV:=if mv k l then l else l.take (vN k l)++x::l.drop (vN k l)
def dV(L:List Rec)(key fin:List Nat)(main:Nat)(out:List KV)(r:Rec):List KV:=
 if(pZ r.kv.key main L).2&&fL r.kv.key key fin then xq (pZ r.kv.key main L).1 r.kv.key out else out
def zj(L:List Rec)(key fin:List Nat)(main:Nat)(M:List Rec):List KV:=M.foldl (dV L key fin main) []
theorem Rp{L:List Rec}{key fin:List Nat}{main:Nat}{M:List Rec}{i:Nat}{r:Rec}(h:M[i]? =some r):zj L key fin main (M.take (i+1))=dV L key fin main (zj L key fin main (M.take i)) r:=by
 unfold zj;rw[aB,h,aG];rfl
theorem Rr(x:KV)(k:List Nat)(l:List KV):(xq x k l).length≤l.length+1:=by
 unfold xq;split
 ·omega
 ·have:=KP k l
  rw[aE,aD,aK,List.length_drop];omega
theorem Ol(L:List Rec)(key fin:List Nat)(main:Nat)(out:List KV)(r:Rec):(dV L key fin main out r).length≤out.length+1:=by
 unfold dV;split
 ·exact Rr _ _ _
 ·omega
theorem IG(L:List Rec)(key fin:List Nat)(main:Nat)(M:List Rec):∀i,i≤M.length→(zj L key fin main (M.take i)).length≤i
 |0,_=>by simp[zj]
 |i+1,h=>by
  obtain⟨x,hx⟩:∃x,M[i]? =some x:=⟨_,an (by omega)⟩;have:=IG L key fin main M i (by omega);have:=Ol L key fin main (zj L key fin main (M.take i)) x;rw[Rp hx];omega
structure AlI(h0:H)(va:AV)(L:List Rec)(key fin:List Nat)(main:Nat)(m:Nat)(ds:List Nat)(tm:T AV)(h:H)(i:Nat)(w:AV):Prop where
 ds:ds=[]
 nn:m=L.length-i
 ii:i≤L.length
 t0:tm.get 0=some va
 t1:tm.get 1=some (.str key)
 t2:tm.get 2=some (.str fin)
 t3:tm.get 3=some (.int .u64 (.ofNat main))
 t9:tm.get 9=some w
 t10:tm.get 10=some (.int .i64 (.ofNat i))
 gr:bK 5 h0.nx h w (zj L key fin main (L.take i)).length ((zj L key fin main (L.take i)).flatMap KV.cs)
 oo:Og h0 h []
structure AmI(va:AV)(key fin:List Nat)(main:Nat)(w:AV)(i:Nat)(k:List Nat)(iJ:Nat)(out:List KV)(hh:H)(m:Nat)(ds:List Nat)(tm:T AV)(h:H)(j:Nat):Prop where
 ds:ds=[]
 nn:m=vN k out-j
 jj:j≤vN k out
 t0:tm.get 0=some va
 t1:tm.get 1=some (.str key)
 t2:tm.get 2=some (.str fin)
 t3:tm.get 3=some (.int .u64 (.ofNat main))
 t9:tm.get 9=some w
 t10:tm.get 10=some (.int .i64 (.ofNat i))
 t11:tm.get 11=some (.str k)
 t12:tm.get 12=some (.ptr iJ 0)
 t14:tm.get 14=some (.int .i64 (.ofNat j))
 he:h=hh
theorem i44:lf P 83 5=true:=by kernel_rfl
theorem Rs(hk:H)(b0:Nat)(w:AV)(out:List KV)(kv:KV)(iJ at_:Nat)(gr:bK 5 b0 hk w out.length (out.flatMap KV.cs))(Jz:at_≤out.length)(hz:out.length≤900000)(tm:T AV)(t9:tm.get 9=some w)(t12:tm.get 12=some (.ptr iJ 0))(t14:tm.get 14=some (.int .i64 (.ofNat at_)))
  (y0:cellAt hk iJ 0=some (.str kv.key))(y1:cellAt hk iJ 1=some (.str kv.val))(y2:cellAt hk iJ 2=some (.int .u64 (.ofNat kv.iC)))(y3:cellAt hk iJ 3=some (.int .u64 (.ofNat kv.mod)))(y4:cellAt hk iJ 4=some (.int .u64 (.ofNat kv.im)))(hb:iJ<hk.nx)(K:KQ)
  (hK:∀bZ h2 w2,(∀j,j<12→j≠9→bZ.get j=tm.get j)→bZ.get 9=some w2→Og hk h2 []→bK 5 hk.nx h2 w2 (out.take at_++kv::out.drop at_).length ((out.take at_++kv::out.drop at_).flatMap KV.cs)→K .norm [] bZ h2):
  bB P 36 87 none (bL (bD Tryz.f36) [1,1,1,1,1,1,0,0,1,0,0,1,0,1,1]) [] tm hk K:=by
 have wo:=gr.one;obtain⟨v2,ID,MB,happ⟩:=appHi (t:=45) (e:=83) (by omega) zi (by kernel_rfl) (by kernel_rfl) i44 gr (i:=at_) Jz (by omega);refine rN ?_ (V t9<|V t12<|V t14<|V wo<|V @vG<|V ID<|MB);with_reducible refine happ hk.nx .bh 0 [] bK.none (ao _) (by omega) _ (fun v3 h3 g3 x3 KM bl3 gg3=>?_)
 have S3:=g3.one;have o3:Og hk h3 []:=⟨⟨x3,fun c hc _=>KM c hc (by simp[bA])⟩,gg3⟩;rw[al,List.nil_append,←xp KV.len]at g3;have z0:=kc y0 o3 hb (by simp);have z1:=kc y1 o3 hb (by simp);have z2:=kc y2 o3 hb (by simp);have z3:=kc y3 o3 hb (by simp);have z4:=kc y4 o3 hb (by simp);obtain⟨h4,dm⟩:∃h4,h4=h3.bq 83 [.str kv.key,.str kv.val,.int .u64 (.ofNat kv.iC),.int .u64 (.ofNat kv.mod),.int .u64 (.ofNat kv.im)]:=⟨_,rfl⟩;have o4:Og h3 h4 []:=by rw[dm];exact(Og.refl _ _).new _ _
 have x4:h4.nx=h3.nx+1:=by rw[dm];rfl
 have eZ:h4.row h3.nx 0 5=some kv.cs:=gK (o:=0) (cs:=kv.cs) (fun j hj=>by rw[dm,bJ,al,if_pos rfl];rfl) (by simp[KV.cs]);refine rN ?_ (V t9<|V t12<|V t14<|V S3<|V dm.symm<|V eZ<|V z0<|V z1<|V z2<|V z3<|z4);have g4:bK 5 hk.nx h4 v3 _ _:=g3.bG o4.1.1 (fun c e=>o4.1.2 c (g3.base e).2 (by simp));refine dz (m:=1) (new:=kv.cs) g4 (by omega) (by omega) (by omega) rfl (by omega) (fun v5 h5 g5 x5 IH blk5 gg5=>?_);have g5o:=g5.one;have F6:Og hk h5 []:=⟨⟨by omega,fun d hd _=>by rw[IH d (by omega) (fun e=>by have:=(g4.base e).1;omega),o4.1.2 d (by omega) (by simp),o3.1.2 d hd (by simp)]⟩,by rw[gg5,o4.2,o3.2]⟩;have x45:=F6.1.1;have S4:bK 5 b0 h5 w _ _:=gr.bG F6.1.1 (fun d e=>F6.1.2 d (gr.base e).2 (by simp));obtain⟨v2b,hslb,v2ob,happb⟩:=appLo (t:=45) (e:=83) (by omega) zi (by kernel_rfl) (by kernel_rfl) i44 S4 (i:=at_) Jz (by omega);refine rN ?_ (V t9<|V t12<|V t14<|V g5o<|V wo<|V @vF<|V hslb<|v2ob);with_reducible refine happb h5 (fun _ _=>rfl) (ao _) hk.nx v5 (at_+1) _ g5 x45 (by omega) _ (fun v6 h6 g6 x6 II bl6 Zm=>?_)
 have Ut:=g6.one;have Rg:∀d,bA v5=some d→hk.nx≤d:=fun d e=>(g5.base e).1;refine rN ?_ (V t9<|V t12<|V t14<|Ut);refine hK _ _ v6 ?_ (by exact sT) ⟨⟨by omega,fun d hd _=>?_⟩,by rw[Zm,F6.2]⟩ ?_
 ·intro j hj hj9
  match j,hj with
  |0,_=>exact sT
  |1,_=>exact sT
  |2,_=>exact sT
  |3,_=>exact sT
  |4,_=>exact sT
  |5,_=>exact sT
  |6,_=>exact sT
  |7,_=>exact sT
  |8,_=>exact sT
  |9,_=>exact absurd rfl hj9
  |10,_=>exact sT
  |11,_=>exact sT
 ·rw[II d (by omega) (fun e=>by have:=Rg _ e;omega),F6.1.2 d hd (by simp)]
 ·have e1:(out.take at_++kv::out.drop at_).length=at_+1+(out.length-at_):=by simp;omega
  have e2:(out.take at_++kv::out.drop at_).flatMap KV.cs=(out.take at_).flatMap KV.cs++kv.cs++(out.flatMap KV.cs).drop (at_*5):=by
   rw[aC,aJ,←EJ KV.len,aQ]
  rw[e1,e2];exact g6
theorem Uu(h0:H)(va:AV)(L:List Rec)(key fin:List Nat)(main:Nat)(sl:br h0 va L.length (L.flatMap Rec.cs))(hz:L.length≤900000):
  bW P (.enter 36 [va,.str key,.str fin,.int .u64 (.ofNat main)] h0) fun v h'=>Og h0 h' []∧bK 5 h0.nx h' v (zj L key fin main L).length ((zj L key fin main L).flatMap KV.cs):=by
 have hlen:=sl.len (P:=P) jl;refine bn (fn:=Tryz.f36) (c:=bD Tryz.f36) Tryz.func36 rfl ?_;show bB P 36 87 none _ _ _ _ _;refine bp ?_;refine kM ?_;refine cn (fun m ds tm h=>∃i w,AlI h0 va L key fin main m ds tm h i w) L.length rfl ⟨0,.bh,rfl,rfl,aq _,by exact sT,by exact sT,by exact sT,by exact sT,by exact sT,by exact sT,bK.none,Og.refl _ _⟩ (fun m ds tm h hI=>?_);obtain⟨i,w,rfl,rfl,ii,t0,t1,t2,t3,t9,t10,gr,oo⟩:=hI;have nR:=gr.one;by_cases hi:i<L.length
 ·have di:decide (i<L.length)=true:=decide_eq_true hi
  have dX:(i<L.length)=True:=by simp[hi]
  obtain⟨x,hx⟩:∃x,L[i]? =some x:=⟨_,an hi⟩;have jk:=br.only oo.1 sl (fun _ _=>by simp);have IJ:=jk;obtain⟨bv,ov,cv,rfl,qw,-⟩:=sl.place (by omega);obtain⟨q0,q1,q2,q3,q4,q5,q6,q7⟩:=Rec.at jk hx;have w1:bV .i64 (ak i+ak 1)=ak (i+1):=cq (by omega);have hs:=Rp (L:=L) (key:=key) (fin:=fin) (main:=main) hx;have CQ:=IG L key fin main L i ii;obtain⟨out,Rt⟩:∃out,out=zj L key fin main (L.take i):=⟨_,rfl⟩;rw[←Rt]at gr hs CQ;refine rN ?_ (V t0<|V t1<|V t2<|V t3<|V t9<|V t10<|V hlen<|V di<|V dX<|V q0<|V q1<|V q2<|V q3<|V q4<|V q5<|V q6<|q7);refine((Q9 h _ L x.kv.key main IJ (by omega)).call P).mono P ?_;rintro _ h1 ⟨rfl,o1⟩;obtain⟨kv,sQ⟩:∃kv,kv=(pZ x.kv.key main L).1:=⟨_,rfl⟩;obtain⟨h2,cJ,o2,x2,y0,y1,y2,y3,y4,-⟩:=B7 h1 kv;have f_:=o1.t o2;have yJ:bK 5 h0.nx h2 w _ _:=gr.bG f_.1.1 (fun d e=>f_.1.2 d (gr.base e).2 (by simp));have stay:dV L key fin main out x=out→∀(bZ:T AV) h',Og h2 h' []→bZ.get 0=some (AV.slice bv ov L.length cv)→bZ.get 1=some (.str key)→bZ.get 2=some (.str fin)→bZ.get 3=some (.int .u64 (.ofNat main))→bZ.get 9=some w→bZ.get 10=some (.int .i64 (.ofNat (i+1)))→
    ∃m,m<L.length-i∧∃i w,AlI h0 (AV.slice bv ov L.length cv) L key fin main m [] bZ h' i w:=fun e bZ h' o g0 g1 g2 g3 g9 zu=>
   ⟨L.length-(i+1),by omega,i+1,w,rfl,rfl,by omega,g0,g1,g2,g3,g9,zu,by rw[hs,e];exact yJ.bG o.1.1 (fun d e=>o.1.2 d (yJ.base e).2 (by simp)),(oo.t f_).t o⟩
  rw[←sQ];unfold KV.cs;cases qf:(pZ x.kv.key main L).2 with
  |false=>
   refine rN ?_ (V cJ<|V @Bool.not_false<|V t10<|V w1<|V t0<|V t1<|V t2<|t3);exact stay (by unfold dV;rw[qf];rfl) _ _ (Og.refl _ _) (by exact sT) (by exact sT) (by exact sT) (by exact sT) (by exact sT) (by exact sT)
  | true=>
   refine rN ?_ (V cJ<|V @aV<|V t10<|V w1<|V t0<|V t1<|V t2<|t3);refine((inC h2 x.kv.key key fin).call P).mono P ?_;rintro _ h3 ⟨rfl,o3⟩;cases ql:fL x.kv.key key fin with
   |false=>
    refine rN ?_ (V @Bool.not_false<|V t10<|w1);exact stay (by unfold dV;rw[qf,ql];rfl) _ _ o3 (by exact sT) (by exact sT) (by exact sT) (by exact sT) (by exact sT) (by exact sT)
   | true=>
    have Mx:bK 5 h0.nx h3 w _ _:=yJ.bG o3.1.1 (fun d e=>o3.1.2 d (yJ.base e).2 (by simp));have hl9:=Mx.slice.len (P:=P) zi;obtain⟨at_,Jz⟩:∃n,n=vN x.kv.key out:=⟨_,rfl⟩;have hle:=KP x.kv.key out;have lt9:=o3.1.1;refine rN ?_ (@aV);refine cn (fun m ds tm h=>∃j,AmI (AV.slice bv ov L.length cv) key fin main w i x.kv.key h1.nx out h3 m ds tm h j) (vN x.kv.key out) rfl ⟨0,rfl,rfl,aq _,by exact sT,by exact sT,by exact sT,by exact sT,by exact sT,by exact sT,by exact sT,by exact sT,by exact sT,rfl⟩ (fun m ds tm h hI=>?_);clear t0 t1 t2 t3 t9 t10;obtain⟨j,rfl,rfl,jj,t0,t1,t2,t3,t9,t10,t11,t12,t14,rfl⟩:=hI;have wj:bV .i64 (ak j+ak 1)=ak (j+1):=cq (by omega);by_cases hj:j<vN x.kv.key out
    ·have dj:decide (j<out.length)=true:=decide_eq_true (by omega)
     have uv:(j<out.length)=True:=by simp;omega
     obtain⟨y,hy⟩:∃y,out[j]? =some y:=⟨_,an (by omega)⟩;have fW:=Rn hj hy;obtain⟨b9,o9,c9,rfl,hb9,-⟩:=Mx.slice.place (by omega);obtain⟨p0,p1,p2,p3,p4⟩:=KV.at Mx.slice hy;refine rN ?_ (V t0<|V t1<|V t2<|V t3<|V t9<|V t10<|V t11<|V t12<|V t14<|V hl9<|V dj<|V uv<|V p0<|V @ji<|V fW<|wj);exact⟨vN x.kv.key out-(j+1),by omega,j+1,rfl,rfl,by omega,by exact sT,by exact sT,by exact sT,by exact sT,by exact sT,by exact sT,by exact sT,by exact sT,by exact sT,rfl⟩
    ·obtain rfl:j=vN x.kv.key out:=by omega
     rw[←Jz]at t14 hle;have ins:mv x.kv.key out=false→xq kv x.kv.key out=out.take at_++kv::out.drop at_:=fun e=>by unfold xq;rw[e,←Jz];rfl
     have pY:dV L key fin main out x=xq kv x.kv.key out:=by unfold dV;rw[qf,ql,sQ];rfl
     have z0:=kc y0 o3 (by omega) (by simp);have z1:=kc y1 o3 (by omega) (by simp);have z2:=kc y2 o3 (by omega) (by simp);have z3:=kc y3 o3 (by omega) (by simp);have z4:=kc y4 o3 (by omega) (by simp);have ext:mv x.kv.key out=false→∀(bZ:T AV) h' w2,Og h h' []→bK 5 h.nx h' w2 (out.take at_++kv::out.drop at_).length ((out.take at_++kv::out.drop at_).flatMap KV.cs)→bZ.get 0=some (AV.slice bv ov L.length cv)→bZ.get 1=some (.str key)→bZ.get 2=some (.str fin)→bZ.get 3=some (.int .u64 (.ofNat main))→bZ.get 9=some w2→bZ.get 10=some (.int .i64 (.ofNat (i+1)))→
       ∃m,m<L.length-i∧∃i w,AlI h0 (AV.slice bv ov L.length cv) L key fin main m [] bZ h' i w:=fun e bZ h' w2 o g g0 g1 g2 g3 g9 zu=>
      ⟨L.length-(i+1),by omega,i+1,w2,rfl,rfl,by omega,g0,g1,g2,g3,g9,zu,by rw[hs,pY,ins e];exact g.wk (by have:=oo.1.1;have:=f_.1.1;omega),((oo.t f_).t o3).t o⟩
     by_cases q9:at_<out.length
     ·have dj:decide (at_<out.length)=true:=decide_eq_true q9
      have uv:(at_<out.length)=True:=by simp[q9]
      obtain⟨y,hy⟩:∃y,out[at_]? =some y:=⟨_,an q9⟩;have J4:=Ro (k:=x.kv.key) (l:=out) (y:=y) (by rw[←Jz];exact hy);obtain⟨b9,o9,c9,rfl,hb9,-⟩:=Mx.slice.place (by omega);obtain⟨p0,p1,p2,p3,p4⟩:=KV.at Mx.slice hy;have hsk:mv x.kv.key out=decide (y.key=x.kv.key):=by unfold mv;rw[←Jz,hy]
      by_cases qk:y.key=x.kv.key
      ·have dk:decide (y.key=x.kv.key)=true:=decide_eq_true qk
       rw[dk]at hsk;refine rN ?_ (V t0<|V t1<|V t2<|V t3<|V t9<|V t10<|V t11<|V t12<|V t14<|V hl9<|V dj<|V uv<|V p0<|V @ji<|V J4<|V dk<|w1);exact stay (by rw[pY];unfold xq;rw[hsk];rfl) _ _ o3 (by exact sT) (by exact sT) (by exact sT) (by exact sT) (by exact sT) (by exact sT)
      ·have dk:decide (y.key=x.kv.key)=false:=decide_eq_false qk
       rw[dk]at hsk;refine oq ?_ (@sc [1,1,1,1,1,1,0,0,1,0,0,1,0,1,1]) (V t0<|V t1<|V t2<|V t3<|V t9<|V t10<|V t11<|V t12<|V t14<|V hl9<|V dj<|V uv<|V p0<|V @ji<|V J4<|dk);refine⟨?_⟩;refine Rs h _ _ out kv h1.nx at_ Mx hle (by omega) _ (by exact sT) (by exact sT) (by exact sT) z0 z1 z2 z3 z4 (by omega) _ ?_;intro bZ h5 w2 jr g9 o5 g5;have u0:bZ.get 0=some (AV.slice bv ov L.length cv):=(jr 0 (by omega) (by omega)).trans (by exact sT);have u1:bZ.get 1=some (.str key):=(jr 1 (by omega) (by omega)).trans (by exact sT);have u2:bZ.get 2=some (.str fin):=(jr 2 (by omega) (by omega)).trans (by exact sT);have u3:bZ.get 3=some (.int .u64 (.ofNat main)):=(jr 3 (by omega) (by omega)).trans (by exact sT);have u10:bZ.get 10=some (.int .i64 (.ofNat i)):=(jr 10 (by omega) (by omega)).trans (by exact sT);refine rN ?_ (V u10<|w1);exact ext hsk _ _ w2 o5 g5 (by exact sT) (by exact sT) (by exact sT) (by exact sT) (by exact sT) (by exact sT)
     ·have dj:decide (at_<out.length)=false:=decide_eq_false q9
      have hsk:mv x.kv.key out=false:=by unfold mv;rw[←Jz,List.getElem?_eq_none (by omega)]
      refine oq ?_ (@sc [1,1,1,1,1,1,0,0,1,0,0,1,0,1,1]) (V t0<|V t1<|V t2<|V t3<|V t9<|V t10<|V t11<|V t12<|V t14<|V hl9<|dj);refine⟨?_⟩;refine Rs h _ _ out kv h1.nx at_ Mx hle (by omega) _ (by exact sT) (by exact sT) (by exact sT) z0 z1 z2 z3 z4 (by omega) _ ?_;intro bZ h5 w2 jr g9 o5 g5;have u0:bZ.get 0=some (AV.slice bv ov L.length cv):=(jr 0 (by omega) (by omega)).trans (by exact sT);have u1:bZ.get 1=some (.str key):=(jr 1 (by omega) (by omega)).trans (by exact sT);have u2:bZ.get 2=some (.str fin):=(jr 2 (by omega) (by omega)).trans (by exact sT);have u3:bZ.get 3=some (.int .u64 (.ofNat main)):=(jr 3 (by omega) (by omega)).trans (by exact sT);have u10:bZ.get 10=some (.int .i64 (.ofNat i)):=(jr 10 (by omega) (by omega)).trans (by exact sT);refine rN ?_ (V u10<|w1);exact ext hsk _ _ w2 o5 g5 (by exact sT) (by exact sT) (by exact sT) (by exact sT) (by exact sT) (by exact sT)
 ·have di:decide (i<L.length)=false:=decide_eq_false hi
  obtain rfl:i=L.length:=by omega
  rw[aA]at gr;refine rN ?_ (V t0<|V t1<|V t2<|V t3<|V t9<|V t10<|V hlen<|V di<|nR);exact⟨oo,gr⟩
end
end Go.Proofs.YtnedigoajoflaaaGreat.M
namespace Go.AX
noncomputable section
theorem bj.put{h:H}{b o:Nat}{cs:List AV}(c:bj h b o cs)(w:cj h b=true){j:Nat}(hj:j<cs.length)(v:AV):bj (h.cm b (o+j) [v]) b o (cs.set j v):=fun i hi=>by
 rw[b_ w];rw[List.length_set]at hi;by_cases e:i=j
 ·subst e;rw[if_pos ⟨rfl,ao _,by simp⟩,List.getElem?_set_self hi];simp
 ·rw[if_neg (by simp;omega),List.getElem?_set_ne (fun h=>e h.symm)];exact c i hi
theorem bj.new(h:H)(t:TypeId)(l:List AV):bj (h.bq t l) h.nx 0 l:=fun i hi=>by rw[bJ,if_pos rfl,al]
theorem bj.cm{h:H}{b o:Nat}(w:cj h b=true)(l:List AV):bj (h.cm b o l) b o l:=fun i hi=>by
 rw[b_ w,if_pos ⟨rfl,Nat.le_add_right _ _,by omega⟩,Nat.add_sub_cancel_left]
theorem bj.box(h:H)(t:TypeId)(z l:List AV):bj ((h.bq t z).cm h.nx 0 l) h.nx 0 l:=bj.cm (by rw[cY,if_pos rfl]) l
theorem lu(h:H)(t:TypeId)(l:List AV):cj (h.bq t l) h.nx=true:=by rw[cY,if_pos rfl]
theorem F8(h:H)(t:TypeId)(z l:List AV):cj ((h.bq t z).cm h.nx 0 l) h.nx=true:=by rw[bN,cY,if_pos rfl]
theorem bj.row{h:H}{b:Nat}{cs:List AV}(c:bj h b 0 cs)(h0:0<cs.length):h.row b 0 cs.length=some cs:=gK (o:=0) (cs:=cs) (fun j hj=>c j hj) (fun e=>by rw[e]at h0;simp at h0)
theorem br.move{h h':H}{v:AV}{n:Nat}{cs:List AV}(sl:br h v n cs)(hx:h.nx≤h'.nx)(e:∀b,bA v=some b→h'.t.get b=h.t.get b):br h' v n cs:=by
 cases sl with
 |cell b o n cap cs hb hc=>exact .cell b o n cap cs (aP hb hx) (hc.bG (e b rfl))
 |none=>exact .none
 |zero=>exact .zero
theorem bj.u1{h:H}{b:Nat}{a0:AV}(c:bj h b 0 [a0]):cellAt h b 0=some a0:=by
 have g:∀j,j<1→cellAt h b j=[a0][j]? :=fun j hj=>by have:=c j hj;rwa[al]at this
 exact g 0 (by omega)
theorem bj.m1{h:H}{b:Nat}{a0:AV}(c0:cellAt h b 0=some a0):bj h b 0 [a0]:=fun j hj=>by
 rw[al];match j,hj with
 |0,_=>exact c0
 |j+1,hj=>exact absurd hj (by show ¬j+1<1;omega)
theorem bj.u2{h:H}{b:Nat}{a0 a1:AV}(c:bj h b 0 [a0,a1]):cellAt h b 0=some a0∧cellAt h b 1=some a1:=by
 have g:∀j,j<2→cellAt h b j=[a0,a1][j]? :=fun j hj=>by have:=c j hj;rwa[al]at this
 exact⟨g 0 (by omega),g 1 (by omega)⟩
theorem bj.m2{h:H}{b:Nat}{a0 a1:AV}(c0:cellAt h b 0=some a0)(c1:cellAt h b 1=some a1):bj h b 0 [a0,a1]:=fun j hj=>by
 rw[al];match j,hj with
 |0,_=>exact c0
 |1,_=>exact c1
 |j+2,hj=>exact absurd hj (by show ¬j+2<2;omega)
theorem bj.u3{h:H}{b:Nat}{a0 a1 a2:AV}(c:bj h b 0 [a0,a1,a2]):cellAt h b 0=some a0∧cellAt h b 1=some a1∧cellAt h b 2=some a2:=by
 have g:∀j,j<3→cellAt h b j=[a0,a1,a2][j]? :=fun j hj=>by have:=c j hj;rwa[al]at this
 exact⟨g 0 (by omega),g 1 (by omega),g 2 (by omega)⟩
theorem bj.m3{h:H}{b:Nat}{a0 a1 a2:AV}(c0:cellAt h b 0=some a0)(c1:cellAt h b 1=some a1)(c2:cellAt h b 2=some a2):bj h b 0 [a0,a1,a2]:=fun j hj=>by
 rw[al];match j,hj with
 |0,_=>exact c0
 |1,_=>exact c1
 |2,_=>exact c2
 |j+3,hj=>exact absurd hj (by show ¬j+3<3;omega)
theorem bj.u4{h:H}{b:Nat}{a0 a1 a2 a3:AV}(c:bj h b 0 [a0,a1,a2,a3]):cellAt h b 0=some a0∧cellAt h b 1=some a1∧cellAt h b 2=some a2∧cellAt h b 3=some a3:=by
 have g:∀j,j<4→cellAt h b j=[a0,a1,a2,a3][j]? :=fun j hj=>by have:=c j hj;rwa[al]at this
 exact⟨g 0 (by omega),g 1 (by omega),g 2 (by omega),g 3 (by omega)⟩
theorem bj.m4{h:H}{b:Nat}{a0 a1 a2 a3:AV}(c0:cellAt h b 0=some a0)(c1:cellAt h b 1=some a1)(c2:cellAt h b 2=some a2)(c3:cellAt h b 3=some a3):bj h b 0 [a0,a1,a2,a3]:=fun j hj=>by
 rw[al];match j,hj with
 |0,_=>exact c0
 |1,_=>exact c1
 |2,_=>exact c2
 |3,_=>exact c3
 |j+4,hj=>exact absurd hj (by show ¬j+4<4;omega)
theorem bj.u5{h:H}{b:Nat}{a0 a1 a2 a3 a4:AV}(c:bj h b 0 [a0,a1,a2,a3,a4]):cellAt h b 0=some a0∧cellAt h b 1=some a1∧cellAt h b 2=some a2∧cellAt h b 3=some a3∧cellAt h b 4=some a4:=by
 have g:∀j,j<5→cellAt h b j=[a0,a1,a2,a3,a4][j]? :=fun j hj=>by have:=c j hj;rwa[al]at this
 exact⟨g 0 (by omega),g 1 (by omega),g 2 (by omega),g 3 (by omega),g 4 (by omega)⟩
theorem bj.m5{h:H}{b:Nat}{a0 a1 a2 a3 a4:AV}(c0:cellAt h b 0=some a0)(c1:cellAt h b 1=some a1)(c2:cellAt h b 2=some a2)(c3:cellAt h b 3=some a3)(c4:cellAt h b 4=some a4):bj h b 0 [a0,a1,a2,a3,a4]:=fun j hj=>by
 rw[al];match j,hj with
 |0,_=>exact c0
 |1,_=>exact c1
 |2,_=>exact c2
 |3,_=>exact c3
 |4,_=>exact c4
 |j+5,hj=>exact absurd hj (by show ¬j+5<5;omega)
theorem bj.u6{h:H}{b:Nat}{a0 a1 a2 a3 a4 a5:AV}(c:bj h b 0 [a0,a1,a2,a3,a4,a5]):cellAt h b 0=some a0∧cellAt h b 1=some a1∧cellAt h b 2=some a2∧cellAt h b 3=some a3∧cellAt h b 4=some a4∧cellAt h b 5=some a5:=by
 have g:∀j,j<6→cellAt h b j=[a0,a1,a2,a3,a4,a5][j]? :=fun j hj=>by have:=c j hj;rwa[al]at this
 exact⟨g 0 (by omega),g 1 (by omega),g 2 (by omega),g 3 (by omega),g 4 (by omega),g 5 (by omega)⟩
theorem bj.m6{h:H}{b:Nat}{a0 a1 a2 a3 a4 a5:AV}(c0:cellAt h b 0=some a0)(c1:cellAt h b 1=some a1)(c2:cellAt h b 2=some a2)(c3:cellAt h b 3=some a3)(c4:cellAt h b 4=some a4)(c5:cellAt h b 5=some a5):bj h b 0 [a0,a1,a2,a3,a4,a5]:=fun j hj=>by
 rw[al];match j,hj with
 |0,_=>exact c0
 |1,_=>exact c1
 |2,_=>exact c2
 |3,_=>exact c3
 |4,_=>exact c4
 |5,_=>exact c5
 |j+6,hj=>exact absurd hj (by show ¬j+6<6;omega)
theorem bj.u7{h:H}{b:Nat}{a0 a1 a2 a3 a4 a5 a6:AV}(c:bj h b 0 [a0,a1,a2,a3,a4,a5,a6]):cellAt h b 0=some a0∧cellAt h b 1=some a1∧cellAt h b 2=some a2∧cellAt h b 3=some a3∧cellAt h b 4=some a4∧cellAt h b 5=some a5∧cellAt h b 6=some a6:=by
 have g:∀j,j<7→cellAt h b j=[a0,a1,a2,a3,a4,a5,a6][j]? :=fun j hj=>by have:=c j hj;rwa[al]at this
 exact⟨g 0 (by omega),g 1 (by omega),g 2 (by omega),g 3 (by omega),g 4 (by omega),g 5 (by omega),g 6 (by omega)⟩
theorem bj.m7{h:H}{b:Nat}{a0 a1 a2 a3 a4 a5 a6:AV}(c0:cellAt h b 0=some a0)(c1:cellAt h b 1=some a1)(c2:cellAt h b 2=some a2)(c3:cellAt h b 3=some a3)(c4:cellAt h b 4=some a4)(c5:cellAt h b 5=some a5)(c6:cellAt h b 6=some a6):bj h b 0 [a0,a1,a2,a3,a4,a5,a6]:=fun j hj=>by
 rw[al];match j,hj with
 |0,_=>exact c0
 |1,_=>exact c1
 |2,_=>exact c2
 |3,_=>exact c3
 |4,_=>exact c4
 |5,_=>exact c5
 |6,_=>exact c6
 |j+7,hj=>exact absurd hj (by show ¬j+7<7;omega)
theorem bj.u8{h:H}{b:Nat}{a0 a1 a2 a3 a4 a5 a6 a7:AV}(c:bj h b 0 [a0,a1,a2,a3,a4,a5,a6,a7]):cellAt h b 0=some a0∧cellAt h b 1=some a1∧cellAt h b 2=some a2∧cellAt h b 3=some a3∧cellAt h b 4=some a4∧cellAt h b 5=some a5∧cellAt h b 6=some a6∧cellAt h b 7=some a7:=by
 have g:∀j,j<8→cellAt h b j=[a0,a1,a2,a3,a4,a5,a6,a7][j]? :=fun j hj=>by have:=c j hj;rwa[al]at this
 exact⟨g 0 (by omega),g 1 (by omega),g 2 (by omega),g 3 (by omega),g 4 (by omega),g 5 (by omega),g 6 (by omega),g 7 (by omega)⟩
theorem bj.m8{h:H}{b:Nat}{a0 a1 a2 a3 a4 a5 a6 a7:AV}(c0:cellAt h b 0=some a0)(c1:cellAt h b 1=some a1)(c2:cellAt h b 2=some a2)(c3:cellAt h b 3=some a3)(c4:cellAt h b 4=some a4)(c5:cellAt h b 5=some a5)(c6:cellAt h b 6=some a6)(c7:cellAt h b 7=some a7):bj h b 0 [a0,a1,a2,a3,a4,a5,a6,a7]:=fun j hj=>by
 rw[al];match j,hj with
 |0,_=>exact c0
 |1,_=>exact c1
 |2,_=>exact c2
 |3,_=>exact c3
 |4,_=>exact c4
 |5,_=>exact c5
 |6,_=>exact c6
 |7,_=>exact c7
 |j+8,hj=>exact absurd hj (by show ¬j+8<8;omega)
theorem bj.u9{h:H}{b:Nat}{a0 a1 a2 a3 a4 a5 a6 a7 a8:AV}(c:bj h b 0 [a0,a1,a2,a3,a4,a5,a6,a7,a8]):cellAt h b 0=some a0∧cellAt h b 1=some a1∧cellAt h b 2=some a2∧cellAt h b 3=some a3∧cellAt h b 4=some a4∧cellAt h b 5=some a5∧cellAt h b 6=some a6∧cellAt h b 7=some a7∧cellAt h b 8=some a8:=by
 have g:∀j,j<9→cellAt h b j=[a0,a1,a2,a3,a4,a5,a6,a7,a8][j]? :=fun j hj=>by have:=c j hj;rwa[al]at this
 exact⟨g 0 (by omega),g 1 (by omega),g 2 (by omega),g 3 (by omega),g 4 (by omega),g 5 (by omega),g 6 (by omega),g 7 (by omega),g 8 (by omega)⟩
theorem bj.m9{h:H}{b:Nat}{a0 a1 a2 a3 a4 a5 a6 a7 a8:AV}(c0:cellAt h b 0=some a0)(c1:cellAt h b 1=some a1)(c2:cellAt h b 2=some a2)(c3:cellAt h b 3=some a3)(c4:cellAt h b 4=some a4)(c5:cellAt h b 5=some a5)(c6:cellAt h b 6=some a6)(c7:cellAt h b 7=some a7)(c8:cellAt h b 8=some a8):bj h b 0 [a0,a1,a2,a3,a4,a5,a6,a7,a8]:=fun j hj=>by
 rw[al];match j,hj with
 |0,_=>exact c0
 |1,_=>exact c1
 |2,_=>exact c2
 |3,_=>exact c3
 |4,_=>exact c4
 |5,_=>exact c5
 |6,_=>exact c6
 |7,_=>exact c7
 |8,_=>exact c8
 |j+9,hj=>exact absurd hj (by show ¬j+9<9;omega)
theorem bj.u10{h:H}{b:Nat}{a0 a1 a2 a3 a4 a5 a6 a7 a8 a9:AV}(c:bj h b 0 [a0,a1,a2,a3,a4,a5,a6,a7,a8,a9]):cellAt h b 0=some a0∧cellAt h b 1=some a1∧cellAt h b 2=some a2∧cellAt h b 3=some a3∧cellAt h b 4=some a4∧cellAt h b 5=some a5∧cellAt h b 6=some a6∧cellAt h b 7=some a7∧cellAt h b 8=some a8∧cellAt h b 9=some a9:=by
 have g:∀j,j<10→cellAt h b j=[a0,a1,a2,a3,a4,a5,a6,a7,a8,a9][j]? :=fun j hj=>by have:=c j hj;rwa[al]at this
 exact⟨g 0 (by omega),g 1 (by omega),g 2 (by omega),g 3 (by omega),g 4 (by omega),g 5 (by omega),g 6 (by omega),g 7 (by omega),g 8 (by omega),g 9 (by omega)⟩
theorem bj.Uv{h:H}{b:Nat}{a0 a1 a2 a3 a4 a5 a6 a7 a8 a9 S0:AV}(c:bj h b 0 [a0,a1,a2,a3,a4,a5,a6,a7,a8,a9,S0]):cellAt h b 0=some a0∧cellAt h b 1=some a1∧cellAt h b 2=some a2∧cellAt h b 3=some a3∧cellAt h b 4=some a4∧cellAt h b 5=some a5∧cellAt h b 6=some a6∧cellAt h b 7=some a7∧cellAt h b 8=some a8∧cellAt h b 9=some a9∧cellAt h b 10=some S0:=by
 have g:∀j,j<11→cellAt h b j=[a0,a1,a2,a3,a4,a5,a6,a7,a8,a9,S0][j]? :=fun j hj=>by have:=c j hj;rwa[al]at this
 exact⟨g 0 (by omega),g 1 (by omega),g 2 (by omega),g 3 (by omega),g 4 (by omega),g 5 (by omega),g 6 (by omega),g 7 (by omega),g 8 (by omega),g 9 (by omega),g 10 (by omega)⟩
theorem bj.Ru{h:H}{b:Nat}{a0 a1 a2 a3 a4 a5 a6 a7 a8 a9 S0 T0:AV}(c:bj h b 0 [a0,a1,a2,a3,a4,a5,a6,a7,a8,a9,S0,T0]):cellAt h b 0=some a0∧cellAt h b 1=some a1∧cellAt h b 2=some a2∧cellAt h b 3=some a3∧cellAt h b 4=some a4∧cellAt h b 5=some a5∧cellAt h b 6=some a6∧cellAt h b 7=some a7∧cellAt h b 8=some a8∧cellAt h b 9=some a9∧cellAt h b 10=some S0∧cellAt h b 11=some T0:=by
 have g:∀j,j<12→cellAt h b j=[a0,a1,a2,a3,a4,a5,a6,a7,a8,a9,S0,T0][j]? :=fun j hj=>by have:=c j hj;rwa[al]at this
 exact⟨g 0 (by omega),g 1 (by omega),g 2 (by omega),g 3 (by omega),g 4 (by omega),g 5 (by omega),g 6 (by omega),g 7 (by omega),g 8 (by omega),g 9 (by omega),g 10 (by omega),g 11 (by omega)⟩
end
end Go.AX
namespace Go.Proofs.YtnedigoajoflaaaGreat.M
open Go Go.AX
noncomputable section
set_option maxRecDepth 100000
structure nz where
 rM:List KV
 more:Bool
 JA:Nat
 del:Nat
 prev:List KV
def nz.cs(r:nz)(k p:AV):List AV:=[k,.bool r.more,.int .i64 (.ofNat r.JA),.int .i64 (.ofNat r.del),p]
def lim(op:Op)(n:Nat):Nat:=if ak 0<op.dA∧op.dA<ak n then op.dA.toNat else n
def vO(op:Op)(n:Nat):Bool:=decide (ak 0<op.dA)&&decide (op.dA<ak n)
def strip(op:Op)(x:KV):KV:=if op.keys then {x with val:=[]}else x
def fM(op:Op)(all:List KV):nz:=
 if op.count then⟨[],false,all.length,0,[]⟩else⟨(all.take (lim op all.length)).map (strip op),vO op all.length,all.length,0,[]⟩
theorem B8(h:H)(x:Op):∃h1,h.bq 41 x.cs=h1∧Og h h1 []∧h1.nx=h.nx+1∧
  cellAt h1 h.nx 0=some (.int .i64 x.kind)∧cellAt h1 h.nx 1=some (.str x.key)∧cellAt h1 h.nx 2=some (.str x.fin)∧cellAt h1 h.nx 3=some (.str x.val)∧cellAt h1 h.nx 4=some (.int .u64 (.ofNat x.rev))∧cellAt h1 h.nx 5=some (.int .i64 x.dA)∧cellAt h1 h.nx 6=some (.bool x.count)∧cellAt h1 h.nx 7=some (.bool x.keys)∧cellAt h1 h.nx 8=some (.bool x.prev):=by
 refine⟨_,rfl,(Og.refl _ _).new _ _,rfl,?_⟩;have c:∀j,cellAt (h.bq 41 x.cs) h.nx j=x.cs[j]? :=fun j=>by rw[bJ,if_pos rfl]
 exact⟨c 0,c 1,c 2,c 3,c 4,c 5,c 6,c 7,c 8⟩
theorem ue(h:H):∃h1,h.bq 47 [.bh,.bool false,.int .i64 (.ofNat 0),.int .i64 (.ofNat 0),.bh]=h1∧Og h h1 []∧h1.nx=h.nx+1∧cj h1 h.nx=true∧
  cellAt h1 h.nx 0=some .bh∧cellAt h1 h.nx 1=some (.bool false)∧cellAt h1 h.nx 2=some (.int .i64 (.ofNat 0))∧cellAt h1 h.nx 3=some (.int .i64 (.ofNat 0))∧cellAt h1 h.nx 4=some .bh:=by
 refine⟨_,rfl,(Og.refl _ _).new _ _,rfl,by rw[cY,if_pos rfl],?_⟩;refine⟨?_,?_,?_,?_,?_⟩<;>rw[bJ,if_pos rfl]<;>rfl
theorem KR(h:H)(n:Nat):∃h1,(h.bq 47 [.bh,.bool false,.int .i64 (.ofNat 0),.int .i64 (.ofNat 0),.bh]).cm h.nx 0 [.bh,.bool false,.int .i64 (.ofNat n),.int .i64 (.ofNat 0),.bh]=h1∧Og h h1 []∧h1.nx=h.nx+1∧cj h1 h.nx=true∧
  cellAt h1 h.nx 0=some .bh∧cellAt h1 h.nx 1=some (.bool false)∧cellAt h1 h.nx 2=some (.int .i64 (.ofNat n))∧cellAt h1 h.nx 3=some (.int .i64 (.ofNat 0))∧cellAt h1 h.nx 4=some .bh:=by
 refine⟨_,rfl,((Og.refl _ _).new _ _).cm (.inr (ao _)),by rw[bI,dt],by rw[bN,cY,if_pos rfl],?_⟩;refine⟨?_,?_,?_,?_,?_⟩<;>rw[b_ (by rw[cY,if_pos rfl]),if_pos ⟨rfl,aq _,by simp⟩]<;>rfl
theorem bK.head{h:H}{b0 n m:Nat}{v:AV}{l:List KV}(g:bK 5 b0 h v n (l.flatMap KV.cs))(hn:n=l.length)(hm:m≤n):∃v2,dF P 45 v none (some (.int .i64 (.ofNat m))) none=some v2∧v2.one=true∧br h v2 m ((l.take m).flatMap KV.cs)∧(∀c,bA v2=some c→bA v=some c):=by
 rw[xp KV.len];have GY:(l.flatMap KV.cs).length=n*5:=by rw[B2 KV.len,hn]
 generalize l.flatMap KV.cs=cs0 at g GY ⊢;clear hn;cases g with
 |none=>
  obtain rfl:m=0:=by omega
  refine⟨.bh,by kernel_rfl,rfl,?_,fun c h=>by cases h⟩;rw[show(List.take (0*5) ([]:List AV))=[]by simp];exact .none
 | cell b n cs t ty h1 h2 h3 h4 h5=>
  refine⟨.slice b 0 m (.iK 0),?_,rfl,?_,fun c h=>h⟩
  ·simp only[dF,zi,show eQ P 83=true from by kernel_rfl,jz,j0,CA,tE hm,Nat.beq_refl]
  ·refine .cell b 0 m _ _ h2 (fun j hj=>?_)
   rw[aD]at hj;unfold cellAt;rw[h4,al,List.getElem?_take,if_pos (by omega)];exact h5 j
structure RzH(h0:H)(op:Op)(v2:AV)(l:List KV)(r:nz)(b2 b4 b5:Nat)(h:H)(i:Nat)(w:AV):Prop where
 k2:cellAt h b2 7=some (.bool op.keys)
 a:bj h b4 0 [.bh,.bool false,.int .i64 (.ofNat 0),.int .i64 (.ofNat 0),.bh]
 c:bj h b5 0 (r.cs w .bh)
 w4:cj h b4=true
 w5:cj h b5=true
 gr:bK 5 (b5+1) h w i (((l.take i).map (strip op)).flatMap KV.cs)
 oo:Og h0 h []
 xx:b5<h.nx
 s2:br h v2 l.length (l.flatMap KV.cs)
structure RzI(h0:H)(op:Op)(v2:AV)(l:List KV)(r:nz)(b2 b4 b5:Nat)(m:Nat)(ds:List Nat)(tm:T AV)(h:H)(i:Nat)(w:AV):Prop where
 ds:ds=[]
 nn:m=l.length-i
 ii:i≤l.length
 t2:tm.get 2=some (.ptr b2 0)
 t4:tm.get 4=some (.ptr b4 0)
 t5:tm.get 5=some (.ptr b5 0)
 t29:tm.get 29=some v2
 t30:tm.get 30=some (.int .i64 (.ofNat l.length))
 t31:tm.get 31=some (.int .i64 (.ofNat i))
 hh:RzH h0 op v2 l r b2 b4 b5 h i w
theorem gC{h h':H}{b o:Nat}{cs:List AV}{S:List Nat}(c:bj h b o cs)(g:Og h h' S)(hb:b<h.nx)(hn:b∉S):bj h' b o cs:=c.only g.1 hb hn
theorem MC{op:Op}{l:List KV}{i:Nat}{x:KV}(h:l[i]? =some x):(l.take (i+1)).map (strip op)=(l.take i).map (strip op)++[strip op x]:=by
 rw[aB,h,aR];rfl
structure ApH(h:H)(b5:Nat)(w:AV)(i:Nat)(cs:List AV)(r:nz)(h4:H)(w4:AV)(new:List AV):Prop where
 c:bj h4 b5 0 (r.cs w4 .bh)
 w5:cj h4 b5=true
 gr:bK 5 (b5+1) h4 w4 (i+1) (cs++new)
 nx:h.nx≤h4.nx
 kk:∀c,c<h.nx→c<b5→h4.t.get c=h.t.get c
 g:h4.g=h.g
theorem WD(h:H)(b5 b7:Nat)(x:KV)(r:nz)(w:AV)(i:Nat)(cs:List AV)(hi:i≤1000000)(C:bj h b5 0 (r.cs w .bh))(W:cj h b5=true)(gr:bK 5 (b5+1) h w i cs)(X:bj h b7 0 x.cs)(Rg:b5<h.nx)(hb7:b7<h.nx)(tm:T AV)(u5:tm.get 5=some (.ptr b5 0))(u7:tm.get 7=some (.ptr b7 0))(K:KQ)
  (hK:∀bZ h4 w4,(∀j,j<38→bZ.get j=tm.get j)→ApH h b5 w i cs r h4 w4 x.cs→K .norm [] bZ h4):bB P 31 46 none (bL (bD Tryz.f31) [1,1,0,0,1,1,0,0,1,0,1,1,1,1]) [] tm h K:=by
 obtain⟨C0,C1,C2,C3,C4⟩:=C.u5;obtain⟨z0,z1,z2,z3,z4⟩:=X.u5;have nR:=gr.one;obtain⟨h4,dm⟩:∃h4,h4=h.bq 83 [.str x.key,.str x.val,.int .u64 (.ofNat x.iC),.int .u64 (.ofNat x.mod),.int .u64 (.ofNat x.im)]:=⟨_,rfl⟩;have o4:Og h h4 []:=by rw[dm];exact(Og.refl _ _).new _ _
 have x4:h4.nx=h.nx+1:=by rw[dm];rfl
 have S5:bK 5 (b5+1) h4 w _ _:=gr.bG o4.1.1 (fun d e=>o4.1.2 d (gr.base e).2 (by simp));have eZ:h4.row h.nx 0 5=some x.cs:=gK (o:=0) (cs:=x.cs) (fun j hj=>by rw[dm,bJ,al,if_pos rfl];rfl) (by simp[KV.cs]);refine rN ?_ (V u5<|V u7<|V C0<|V nR<|V z0<|V z1<|V z2<|V z3<|V z4<|V dm.symm<|eZ);refine dz (m:=1) (new:=x.cs) S5 (by omega) (by omega) (by omega) rfl (by omega) (fun v7 h7 g7 x7 gV ud vM=>?_);have Rv:∀c,c<h4.nx→c<b5+1→h7.t.get c=h4.t.get c:=fun c hc Ju=>gV c hc (fun e=>by have:=(S5.base e).1;omega);have C7:bj h7 b5 0 (r.cs w .bh):=(gC C o4 Rg (by simp)).bG (Rv b5 (by omega) (by omega));have V5:cj h7 b5=true:=by rw[bC (Rv b5 (by omega) (by omega))];exact kw W o4 Rg (by simp)
 obtain⟨D0,-⟩:=C7.u5;have wG:=g7.one;have Om:=g7.cells;refine rN ?_ (V u5<|V wG<|V Om<|V D0<|V5);refine hK _ _ v7 ?_ ⟨C7.put V5 (j:=0) (by simp[nz.cs]) v7,by rw[bN];exact V5,g7.bG (by rw[bI];exact ao _) (fun d e=>bT _ _ _ _ (by have:=(g7.base e).1;omega)),by rw[bI];omega,fun c hc Ju=>?_,by rw[dD,vM,o4.2]⟩
 ·intro j hj
  repeat(rw[T.bS,if_neg (by omega)])
 ·rw[bT _ _ _ _ (by omega),Rv c (by omega) (by omega),o4.1.2 c hc (by simp)]
theorem MD(h0 h:H)(op:Op)(v2:AV)(l:List KV)(r:nz)(b2 b4 b5:Nat)(hz:l.length≤1000000)(tm:T AV)(t1:tm.get 1=some v2)(t2:tm.get 2=some (.ptr b2 0))(t4:tm.get 4=some (.ptr b4 0))(t5:tm.get 5=some (.ptr b5 0))(nb:∀c,bA v2=some c→c<b4)(MB:v2.one=true)
  (hh:RzH h0 op v2 l r b2 b4 b5 h 0 .bh)(n1:b2<b4)(n2:b4<b5)(n0:h0.nx≤b2)
  (Q:AV→H→Prop)(hQ:∀w h',Og h0 h' []→bK 5 h0.nx h' w l.length ((l.map (strip op)).flatMap KV.cs)→Q (.agg (r.cs w .bh)) h'):bB P 31 46 none (bL (bD Tryz.f31) [1,1,1,1]) [] tm h (nc P Tryz.f31 Q):=by
 have hlen:=hh.s2.len (P:=P) zi;refine rN ?_ (V t1<|V t2<|V t4<|V t5<|V hlen<|MB);refine cn (fun m ds tm h=>∃i w,RzI h0 op v2 l r b2 b4 b5 m ds tm h i w) l.length rfl ⟨0,.bh,rfl,rfl,aq _,by exact sT,by exact sT,by exact sT,by exact sT,by exact sT,by exact sT,hh⟩ (fun m ds tm h1 hI=>?_);clear t1 t2 t4 t5 hh;obtain⟨i,w,rfl,rfl,ii,t2,t4,t5,t29,t30,t31,hh⟩:=hI;have lo:=hh.oo.1.1;have nR:=hh.gr.one;have xx:=hh.xx;by_cases hi:i<l.length
 ·have di:decide (i<l.length)=true:=decide_eq_true hi
  have dX:(i<l.length)=True:=by simp[hi]
  obtain⟨x,hx⟩:∃x,l[i]? =some x:=⟨_,an hi⟩;have s2:=hh.s2;obtain⟨bv,ov,cv,rfl,qw,-⟩:=s2.place (by omega);have hbv4:=nb bv rfl;obtain⟨q0,q1,q2,q3,q4⟩:=KV.at s2 hx;obtain⟨h2,cJ,o2,x2,y0,y1,y2,y3,y4,wy⟩:=B7 h1 x;have w1:bV .i64 (ak i+ak 1)=ak (i+1):=cq (by omega);have IC:=kc hh.k2 o2 (by omega) (by simp);have fin:∀(bZ:T AV)(h3 h4:H)(w4:AV),Og h1 h3 []→ApH h3 b5 w i (((l.take i).map (strip op)).flatMap KV.cs) r h4 w4 (strip op x).cs→bZ.get 2=some (.ptr b2 0)→bZ.get 4=some (.ptr b4 0)→bZ.get 5=some (.ptr b5 0)→bZ.get 29=some (.slice bv ov l.length cv)→bZ.get 30=some (.int .i64 (.ofNat l.length))→bZ.get 31=some (.int .i64 (.ofNat (i+1)))→
    ∃m,m<l.length-i∧∃i w,RzI h0 op (.slice bv ov l.length cv) l r b2 b4 b5 m [] bZ h4 i w:=fun bZ h3 h4 w4 o3 a u2 u4 u5 u36 u30 u31=>by
   have e3:=o3.1.1;have e4:=a.nx;have kk:∀c,c<h1.nx→c<b5→h4.t.get c=h1.t.get c:=fun c hc Ju=>(a.kk c (by omega) Ju).trans (o3.1.2 c hc (by simp));exact⟨l.length-(i+1),by omega,i+1,w4,rfl,rfl,by omega,u2,u4,u5,u36,u30,u31,⟨by rw[bo (kk b2 (by omega) (by omega))];exact hh.k2,hh.a.bG (kk b4 (by omega) (by omega)),a.c,by rw[bC (kk b4 (by omega) (by omega))];exact hh.w4,a.w5,by rw[MC hx,aC,aF];exact a.gr,⟨⟨by omega,fun c hc _=>by rw[kk c (by omega) (by omega)];exact hh.oo.1.2 c hc (by simp)⟩,a.g.trans (o3.2.trans hh.oo.2)⟩,by omega,hh.s2.move (by omega) (fun b e=>by cases e;exact kk bv (by omega) (by omega))⟩⟩
  cases qk:op.keys with
  |false=>
   rw[qk]at IC;have es:strip op x=x:=by unfold strip;rw[qk];rfl
   rw[es]at fin;refine oq ?_ (@sc [1,1,0,0,1,1,0,0,1,0,1,1,1,1]) (V t2<|V t4<|V t5<|V t29<|V t30<|V t31<|V di<|V dX<|V q0<|V q1<|V q2<|V q3<|V q4<|V cJ<|IC);refine⟨?_⟩;refine WD h2 b5 h1.nx x r w i _ (by omega) (gC hh.c o2 xx (by simp)) (kw hh.w5 o2 xx (by simp)) (hh.gr.bG o2.1.1 (fun d e=>o2.1.2 d (hh.gr.base e).2 (by simp))) (.m5 y0 y1 y2 y3 y4) (by omega) (by omega) _ (by exact sT) (by exact sT) _ ?_;intro bZ h4 w4 jr a;have u2:bZ.get 2=some (.ptr b2 0):=(jr 2 (by omega)).trans (by exact sT);have u4:bZ.get 4=some (.ptr b4 0):=(jr 4 (by omega)).trans (by exact sT);have u5:bZ.get 5=some (.ptr b5 0):=(jr 5 (by omega)).trans (by exact sT);have u36:bZ.get 29=some (.slice bv ov l.length cv):=(jr 29 (by omega)).trans (by exact sT);have u30:bZ.get 30=some (.int .i64 (.ofNat l.length)):=(jr 30 (by omega)).trans (by exact sT);have u31:bZ.get 31=some (.int .i64 (.ofNat i)):=(jr 31 (by omega)).trans (by exact sT);refine rN ?_ (V u31<|w1);exact fin _ h2 h4 w4 o2 a (by exact sT) (by exact sT) (by exact sT) (by exact sT) (by exact sT) (by exact sT)
  |true=>
   rw[qk]at IC;obtain⟨h3,cB⟩:∃h3,h3=h2.cm h1.nx 1 [.str []]:=⟨_,rfl⟩;have o3:Og h1 h3 []:=by rw[cB];exact o2.cm (.inr (ao _))
   have x3:h3.nx=h2.nx:=by rw[cB,bI]
   have es:strip op x=⟨x.key,[],x.iC,x.mod,x.im⟩:=by unfold strip;rw[qk];rfl
   have X3:bj h3 h1.nx 0 (strip op x).cs:=by rw[cB,es];exact(bj.m5 y0 y1 y2 y3 y4).put wy (j:=1) (by simp) (.str [])
   refine oq ?_ (@sc [1,1,0,0,1,1,0,0,1,0,1,1,1,1]) (V ez<|V t2<|V t4<|V t5<|V t29<|V t30<|V t31<|V di<|V dX<|V q0<|V q1<|V q2<|V q3<|V q4<|V cJ<|V IC<|V y1<|V wy<|cB.symm);refine⟨?_⟩;refine WD h3 b5 h1.nx (strip op x) r w i _ (by omega) (gC hh.c o3 xx (by simp)) (kw hh.w5 o3 xx (by simp)) (hh.gr.bG o3.1.1 (fun d e=>o3.1.2 d (hh.gr.base e).2 (by simp))) X3 (by omega) (by omega) _ (by exact sT) (by exact sT) _ ?_;intro bZ h4 w4 jr a;have u2:bZ.get 2=some (.ptr b2 0):=(jr 2 (by omega)).trans (by exact sT);have u4:bZ.get 4=some (.ptr b4 0):=(jr 4 (by omega)).trans (by exact sT);have u5:bZ.get 5=some (.ptr b5 0):=(jr 5 (by omega)).trans (by exact sT);have u36:bZ.get 29=some (.slice bv ov l.length cv):=(jr 29 (by omega)).trans (by exact sT);have u30:bZ.get 30=some (.int .i64 (.ofNat l.length)):=(jr 30 (by omega)).trans (by exact sT);have u31:bZ.get 31=some (.int .i64 (.ofNat i)):=(jr 31 (by omega)).trans (by exact sT);refine rN ?_ (V u31<|w1);exact fin _ h3 h4 w4 o3 a (by exact sT) (by exact sT) (by exact sT) (by exact sT) (by exact sT) (by exact sT)
 ·have di:decide (i<l.length)=false:=decide_eq_false hi
  obtain rfl:i=l.length:=by omega
  have gr:=hh.gr;rw[aA]at gr;obtain⟨a0,a1,a2,a3,a4⟩:=hh.a.u5;obtain⟨c0,c1,c2,c3,c4⟩:=hh.c.u5;have w4:=hh.w4;refine rN ?_ (V t2<|V t4<|V t5<|V t29<|V t30<|V t31<|V di<|V c0<|V c1<|V c2<|V c3<|V c4<|V a0<|V a1<|V a2<|V a3<|V a4<|V w4<|nR);exact hQ w _ (hh.oo.cm (.inr (by omega))) ((gr.bG (by rw[bI];exact ao _) (fun d e=>bT _ _ _ _ (by have:=(gr.base e).1;omega))).wk (by omega))
theorem resC(h0:H)(op:Op)(va:AV)(l:List KV)(b0:Nat)(g:bK 5 b0 h0 va l.length (l.flatMap KV.cs))(hz:l.length≤1000000):
  bW P (.enter 31 [.agg op.cs,va] h0) fun v h'=>Og h0 h' []∧∃w,v= .agg ((fM op l).cs w .bh)∧bK 5 h0.nx h' w (fM op l).rM.length ((fM op l).rM.flatMap KV.cs):=by
 have hlen:=g.slice.len (P:=P) zi;have j7:=g.one;obtain⟨h1,cC,o1,x1,y0,y1,y2,y3,y4,y5,y6,y7,y8⟩:=B8 h0 op;obtain⟨h2,cJ,o2,x2,w4,a0,a1,a2,a3,a4⟩:=ue h1;obtain⟨h3,cB,o3,x3,w5,c0,c1,c2,c3,c4⟩:=KR h2 l.length;have IK:=o2.t o3;have yK:=o1.t IK;have bx:=bxO h0 op;rw[cC]at bx;have WE:=kc y5 IK (by omega) (by simp);have On:=kc y6 IK (by omega) (by simp);have y7':=kc y7 IK (by omega) (by simp);have A':=gC (bj.m5 a0 a1 a2 a3 a4) o3 (by omega) (by simp);obtain⟨a0',WG,a2',a3',a4'⟩:=A'.u5;have Zn:=kw w4 o3 (by omega) (by simp);cases qc:op.count with
 |true=>
  rw[qc]at On;have e:fM op l=⟨[],false,l.length,0,[]⟩:=by unfold fM;rw[qc];rfl
  rw[e];refine bn (fn:=Tryz.f31) (c:=bD Tryz.f31) Tryz.func31 rfl ?_;show bB P 31 46 none _ _ _ _ _;refine bp ?_;refine rN ?_ (V bx<|V cJ<|V hlen<|V cB<|V On<|V c0<|V c1<|V c2<|V c3<|V c4<|V a0'<|V WG<|V a2'<|V a3'<|V a4'<|Zn);exact⟨yK.cm (.inr (by omega)),.bh,rfl,.none⟩
 | false=>
  rw[qc]at On;have hb:∀c,bA va=some c→c<h0.nx:=fun c e=>(g.base e).2;have g3:bK 5 b0 h3 va _ _:=g.bG yK.1.1 (fun d e=>yK.1.2 d (hb d e) (by simp));by_cases q1:ak 0<op.dA∧op.dA<ak l.length
  ·obtain⟨m,hm⟩:∃m:Nat,op.dA=ak m:=az (aN q1.1)
   have m1:0<m:=by have:=q1.1;rw[hm]at this;exact Int.ofNat_lt.1 this
   have m2:m<l.length:=by have:=q1.2;rw[hm]at this;exact Int.ofNat_lt.1 this
   have d1:decide (0<m)=true:=decide_eq_true m1;have d2:decide (m<l.length)=true:=decide_eq_true m2;rw[hm]at WE;have e:fM op l=⟨(l.take m).map (strip op),true,l.length,0,[]⟩:=by
    unfold fM lim vO;rw[qc,if_pos q1,decide_eq_true q1.1,decide_eq_true q1.2,hm];rfl
   obtain⟨v2,ID,MB,s2,Uw⟩:=bK.head g3 rfl (Nat.le_of_lt m2);have Zi:(l.take m).length=m:=by rw[aD];omega
   rw[e];refine bn (fn:=Tryz.f31) (c:=bD Tryz.f31) Tryz.func31 rfl ?_;show bB P 31 46 none _ _ _ _ _;refine bp ?_;refine oq ?_ (@sc [1,1,1,1]) (V bx<|V cJ<|V hlen<|V cB<|V WE<|V On<|V j7<|V d1<|V d2<|V @vG<|V ID<|V MB<|V w5<|V c0<|c1);refine⟨?_⟩;obtain⟨h4,dm⟩:∃h4,h4=h3.cm h2.nx 1 [.bool true]:=⟨_,rfl⟩;have o4:Og h3 h4 [h2.nx]:=by rw[dm];exact(Og.refl _ _).cm (.inl (by simp))
   have x4:h4.nx=h3.nx:=by rw[dm,bI]
   have C4:bj h4 h2.nx 0 [.bh,.bool true,.int .i64 (.ofNat l.length),.int .i64 (.ofNat 0),.bh]:=by rw[dm];exact(bj.m5 c0 c1 c2 c3 c4).put w5 (j:=1) (by simp) (.bool true)
   rw[←dm];refine MD h0 h4 op v2 (l.take m) ⟨[],true,l.length,0,[]⟩ h0.nx h1.nx h2.nx (by omega) _ (by exact sT) (by exact sT) (by exact sT) (by exact sT) (fun c e=>by have:=hb c (Uw c e);omega) MB ⟨kc y7' o4 (by omega) (by simp;omega),gC A' o4 (by omega) (by simp;omega),C4,kw Zn o4 (by omega) (by simp;omega),by rw[dm,bN];exact w5,.none,by rw[dm];exact yK.cm (.inr (by omega)),by omega,by rw[Zi];exact s2.move (by omega) (fun b e=>o4.1.2 b (by have:=hb b (Uw b e);omega) (by simp;have:=hb b (Uw b e);omega))⟩ (by omega) (by omega) (by omega) _ ?_;intro w h' o' g';refine⟨o',w,rfl,?_⟩;rw[au];exact g'
  ·have hl:lim op l.length=l.length:=by unfold lim;rw[if_neg q1]
   have e:fM op l=⟨l.map (strip op),false,l.length,0,[]⟩:=by
    unfold fM;rw[qc,hl,aA];have :vO op l.length=false:=by unfold vO;rw[←Bool.not_eq_true,Bool.and_eq_true,decide_eq_true_iff,decide_eq_true_iff];exact q1
    rw[this];rfl
   have hT:∀(tm:T AV),tm.get 1=some va→tm.get 2=some (.ptr h0.nx 0)→tm.get 4=some (.ptr h1.nx 0)→tm.get 5=some (.ptr h2.nx 0)→bB P 31 46 none (bL (bD Tryz.f31) [1,1,1,1]) [] tm h3 (nc P Tryz.f31 fun v h'=>Og h0 h' []∧∃w,v= .agg ((fM op l).cs w .bh)∧bK 5 h0.nx h' w (fM op l).rM.length ((fM op l).rM.flatMap KV.cs)):=fun tm t1 t2 t4 t5=>by
    rw[e];refine MD h0 h3 op va l ⟨[],false,l.length,0,[]⟩ h0.nx h1.nx h2.nx hz tm t1 t2 t4 t5 (fun c e=>by have:=hb c e;omega) j7 ⟨y7',A',.m5 c0 c1 c2 c3 c4,Zn,w5,.none,yK,by omega,g3.slice⟩ (by omega) (by omega) (by omega) _ ?_;intro w h' o' g';refine⟨o',w,rfl,?_⟩;rw[au];exact g'
   by_cases qa:ak 0<op.dA
   ·have d1:decide (ak 0<op.dA)=true:=decide_eq_true qa
    have d2:decide (op.dA<ak l.length)=false:=decide_eq_false (fun h=>q1 ⟨qa,h⟩);refine bn (fn:=Tryz.f31) (c:=bD Tryz.f31) Tryz.func31 rfl ?_;show bB P 31 46 none _ _ _ _ _;refine bp ?_;refine oq ?_ (@sc [1,1,1,1]) (V bx<|V cJ<|V hlen<|V cB<|V WE<|V On<|V j7<|V d1<|d2);refine⟨?_⟩;exact hT _ (by exact sT) (by exact sT) (by exact sT) (by exact sT)
   ·have d1:decide (ak 0<op.dA)=false:=decide_eq_false qa
    refine bn (fn:=Tryz.f31) (c:=bD Tryz.f31) Tryz.func31 rfl ?_;show bB P 31 46 none _ _ _ _ _;refine bp ?_;refine oq ?_ (@sc [1,1,1,1]) (V bx<|V cJ<|V hlen<|V cB<|V WE<|V On<|V j7<|d1);refine⟨?_⟩;exact hT _ (by exact sT) (by exact sT) (by exact sT) (by exact sT)
theorem WH(h:H)(b5 b7:Nat)(x:KV)(r:nz)(w:AV)(i:Nat)(cs:List AV)(hi:i≤1000000)(C:bj h b5 0 (r.cs w .bh))(W:cj h b5=true)(gr:bK 5 (b5+1) h w i cs)(X:bj h b7 0 x.cs)(Rg:b5<h.nx)(hb7:b7<h.nx)(tm:T AV)(u5:tm.get 5=some (.ptr b5 0))(u7:tm.get 7=some (.ptr b7 0))(K:KQ)
  (hK:∀bZ h4 w4,(∀j,j<37→bZ.get j=tm.get j)→ApH h b5 w i cs r h4 w4 x.cs→K .norm [] bZ h4):bB P 35 44 none (bL (bD Tryz.f35) [1,1,1,0,0,1,0,0,1,0,1,1,1]) [] tm h K:=by
 obtain⟨C0,C1,C2,C3,C4⟩:=C.u5;obtain⟨z0,z1,z2,z3,z4⟩:=X.u5;have nR:=gr.one;obtain⟨h4,dm⟩:∃h4,h4=h.bq 83 [.str x.key,.str x.val,.int .u64 (.ofNat x.iC),.int .u64 (.ofNat x.mod),.int .u64 (.ofNat x.im)]:=⟨_,rfl⟩;have o4:Og h h4 []:=by rw[dm];exact(Og.refl _ _).new _ _
 have x4:h4.nx=h.nx+1:=by rw[dm];rfl
 have S5:bK 5 (b5+1) h4 w _ _:=gr.bG o4.1.1 (fun d e=>o4.1.2 d (gr.base e).2 (by simp));have eZ:h4.row h.nx 0 5=some x.cs:=gK (o:=0) (cs:=x.cs) (fun j hj=>by rw[dm,bJ,al,if_pos rfl];rfl) (by simp[KV.cs]);refine rN ?_ (V u5<|V u7<|V C0<|V nR<|V z0<|V z1<|V z2<|V z3<|V z4<|V dm.symm<|eZ);refine dz (m:=1) (new:=x.cs) S5 (by omega) (by omega) (by omega) rfl (by omega) (fun v7 h7 g7 x7 gV ud vM=>?_);have Rv:∀c,c<h4.nx→c<b5+1→h7.t.get c=h4.t.get c:=fun c hc Ju=>gV c hc (fun e=>by have:=(S5.base e).1;omega);have C7:bj h7 b5 0 (r.cs w .bh):=(gC C o4 Rg (by simp)).bG (Rv b5 (by omega) (by omega));have V5:cj h7 b5=true:=by rw[bC (Rv b5 (by omega) (by omega))];exact kw W o4 Rg (by simp)
 obtain⟨D0,-⟩:=C7.u5;have wG:=g7.one;have Om:=g7.cells;refine rN ?_ (V u5<|V wG<|V Om<|V D0<|V5);refine hK _ _ v7 ?_ ⟨C7.put V5 (j:=0) (by simp[nz.cs]) v7,by rw[bN];exact V5,g7.bG (by rw[bI];exact ao _) (fun d e=>bT _ _ _ _ (by have:=(g7.base e).1;omega)),by rw[bI];omega,fun c hc Ju=>?_,by rw[dD,vM,o4.2]⟩
 ·intro j hj
  repeat(rw[T.bS,if_neg (by omega)])
 ·rw[bT _ _ _ _ (by omega),Rv c (by omega) (by omega),o4.1.2 c hc (by simp)]
structure RyI(h0:H)(op:Op)(va:AV)(l:List KV)(b2 b4 b5:Nat)(m:Nat)(ds:List Nat)(tm:T AV)(h:H)(i:Nat)(w:AV):Prop where
 ds:ds=[]
 nn:m=l.length-i
 ii:i≤lim op l.length
 t1:tm.get 1=some va
 t2:tm.get 2=some (.ptr b2 0)
 t4:tm.get 4=some (.ptr b4 0)
 t5:tm.get 5=some (.ptr b5 0)
 t6:tm.get 6=some (.int .i64 (.ofNat i))
 k5:cellAt h b2 5=some (.int .i64 op.dA)
 hh:RzH h0 op va l ⟨[],false,l.length,0,[]⟩ b2 b4 b5 h i w
theorem Zo(op:Op)(n:Nat):lim op n≤n:=by
 unfold lim;split
 ·rename_i h
  obtain⟨m,hm⟩:∃m:Nat,op.dA=ak m:=az (aN h.1);rw[hm]at h ⊢;exact Nat.le_of_lt (Int.ofNat_lt.1 h.2)
 ·exact ao _
theorem WI(h0:H)(op:Op)(va:AV)(l:List KV)(b0:Nat)(g:bK 5 b0 h0 va l.length (l.flatMap KV.cs))(hz:l.length≤1000000):
  bW P (.enter 35 [.agg op.cs,va] h0) fun v h'=>Og h0 h' []∧∃w,v= .agg ((fM op l).cs w .bh)∧bK 5 h0.nx h' w (fM op l).rM.length ((fM op l).rM.flatMap KV.cs):=by
 have hlen:=g.slice.len (P:=P) zi;have j7:=g.one;obtain⟨h1,cC,o1,x1,y0,y1,y2,y3,y4,y5,y6,y7,y8⟩:=B8 h0 op;obtain⟨h2,cJ,o2,x2,w4,a0,a1,a2,a3,a4⟩:=ue h1;obtain⟨h3,cB,o3,x3,w5,c0,c1,c2,c3,c4⟩:=KR h2 l.length;have IK:=o2.t o3;have yK:=o1.t IK;have bx:=bxO h0 op;rw[cC]at bx;have WE:=kc y5 IK (by omega) (by simp);have On:=kc y6 IK (by omega) (by simp);have y7':=kc y7 IK (by omega) (by simp);have A':=gC (bj.m5 a0 a1 a2 a3 a4) o3 (by omega) (by simp);obtain⟨a0',WG,a2',a3',a4'⟩:=A'.u5;have Zn:=kw w4 o3 (by omega) (by simp);cases qc:op.count with
 |true=>
  rw[qc]at On;have e:fM op l=⟨[],false,l.length,0,[]⟩:=by unfold fM;rw[qc];rfl
  rw[e];refine bn (fn:=Tryz.f35) (c:=bD Tryz.f35) Tryz.func35 rfl ?_;show bB P 35 44 none _ _ _ _ _;refine bp ?_;refine rN ?_ (V bx<|V cJ<|V hlen<|V cB<|V On<|V c0<|V c1<|V c2<|V c3<|V c4<|V a0'<|V WG<|V a2'<|V a3'<|V a4'<|Zn);exact⟨yK.cm (.inr (by omega)),.bh,rfl,.none⟩
 | false=>
  rw[qc]at On;have hb:∀c,bA va=some c→c<h0.nx:=fun c e=>(g.base e).2;have g3:bK 5 b0 h3 va _ _:=g.bG yK.1.1 (fun d e=>yK.1.2 d (hb d e) (by simp));have e:fM op l=⟨(l.take (lim op l.length)).map (strip op),vO op l.length,l.length,0,[]⟩:=by unfold fM;rw[qc];rfl
  have hlm:=Zo op l.length;have hkl:((l.take (lim op l.length)).map (strip op)).length=lim op l.length:=by rw[au,aD];omega
  rw[e];refine bn (fn:=Tryz.f35) (c:=bD Tryz.f35) Tryz.func35 rfl ?_;show bB P 35 44 none _ _ _ _ _;refine bp ?_;refine rN ?_ (V bx<|V cJ<|V hlen<|V cB<|V On<|j7);refine cn (fun m ds tm h=>∃i w,RyI h0 op va l h0.nx h1.nx h2.nx m ds tm h i w) l.length rfl ⟨0,.bh,rfl,rfl,aq _,by exact sT,by exact sT,by exact sT,by exact sT,by exact sT,WE,y7',A',.m5 c0 c1 c2 c3 c4,Zn,w5,.none,yK,by omega,g3.slice⟩ (fun m ds tm h4 hI=>?_);clear a0' WG a2' a3' a4' Zn c0 c1 c2 c3 c4 w5 WE On y7';obtain⟨i,w,rfl,rfl,ii,t1,t2,t4,t5,t6,k5,hh⟩:=hI;have lo:=hh.oo.1.1;have nR:=hh.gr.one;have xx:=hh.xx;obtain⟨a0,a1,a2,a3,a4⟩:=hh.a.u5;obtain⟨c0,c1,c2,c3,c4⟩:=hh.c.u5;have w4:=hh.w4;have w5:=hh.w5;have w1:bV .i64 (ak i+ak 1)=ak (i+1):=cq (by omega);by_cases hi:i<l.length
  ·have di:decide (i<l.length)=true:=decide_eq_true hi
   have dX:(i<l.length)=True:=by simp[hi]
   by_cases q1:ak 0<op.dA∧op.dA≤ak i
   ·obtain⟨m,hm⟩:∃m:Nat,op.dA=ak m:=az (aN q1.1)
    have m1:0<m:=by have:=q1.1;rw[hm]at this;exact Int.ofNat_lt.1 this
    have m2:m≤i:=by have:=q1.2;rw[hm]at this;exact Int.ofNat_le.1 this
    have d1:decide (0<m)=true:=decide_eq_true m1;have d2:decide (m≤i)=true:=decide_eq_true m2;have q2:ak 0<op.dA∧op.dA<ak l.length:=⟨q1.1,by rw[hm];exact Int.ofNat_lt.2 (by omega)⟩;have hle:lim op l.length=m:=by unfold lim;rw[if_pos q2,hm];rfl
    have hmo:vO op l.length=true:=by unfold vO;rw[decide_eq_true q2.1,decide_eq_true q2.2];rfl
    obtain rfl:i=lim op l.length:=by omega
    rw[hm]at k5;obtain⟨h5,eL⟩:∃h5,h5=h4.cm h2.nx 1 [.bool true]:=⟨_,rfl⟩;have C5:=hh.c.put w5 (j:=1) (by simp[nz.cs]) (.bool true);rw[al,←eL]at C5;obtain⟨f0,f1,f2,f3,f4⟩:=bj.u5 (show bj h5 h2.nx 0 [w,.bool true,.int .i64 (.ofNat l.length),.int .i64 (.ofNat 0),.bh]from C5);have o5:Og h4 h5 [h2.nx]:=by rw[eL];exact(Og.refl _ _).cm (.inl (by simp))
    obtain⟨e0,e1,e2,e3,e4⟩:=(gC hh.a o5 (by omega) (by simp;omega)).u5;have O1:=kw w4 o5 (by omega) (by simp;omega);rw[hmo];refine rN ?_ (V t1<|V t2<|V t4<|V t5<|V t6<|V hlen<|V di<|V k5<|V d1<|V d2<|V w5<|V c0<|V c1<|V c2<|V c3<|V c4<|V a0<|V a1<|V a2<|V a3<|V a4<|V w4<|V eL.symm<|V f0<|V f1<|V f2<|V f3<|V f4<|V e0<|V e1<|V e2<|V e3<|V e4<|V O1<|nR);refine⟨?_,w,rfl,?_⟩
    ·rw[eL];exact(hh.oo.cm (.inr (by omega))).cm (.inr (by omega))
    ·rw[hkl]
     exact(hh.gr.bG (by rw[eL,bI,bI];exact ao _) (fun d e=>by have:=(hh.gr.base e).1;rw[bT _ _ _ _ (by omega),eL,bT _ _ _ _ (by omega)])).wk (by omega)
   ·have hil:i<lim op l.length:=by
     unfold lim;split
     ·rename_i q2
      obtain⟨m,hm⟩:∃m:Nat,op.dA=ak m:=az (aN q2.1);rw[hm]at q1 q2 ⊢;have :¬m≤i:=fun h=>q1 ⟨q2.1,Int.ofNat_le.2 h⟩;show i<m;omega
     ·exact hi
    obtain⟨x,hx⟩:∃x,l[i]? =some x:=⟨_,an hi⟩;have s2:=hh.s2;obtain⟨bv,ov,cv,rfl,qw,-⟩:=s2.place (by omega);have hbv4:=hb bv rfl;obtain⟨q10,q11,q12,q13,q14⟩:=KV.at s2 hx;obtain⟨h5,eL,o5,x5,y0,y1,y2,y3,y4,wy⟩:=B7 h4 x;have IC:=kc hh.k2 o5 (by omega) (by simp);have fin:∀(bZ:T AV)(h3 h6:H)(w6:AV),Og h4 h3 []→ApH h3 h2.nx w i (((l.take i).map (strip op)).flatMap KV.cs) ⟨[],false,l.length,0,[]⟩ h6 w6 (strip op x).cs→bZ.get 1=some (.slice bv ov l.length cv)→bZ.get 2=some (.ptr h0.nx 0)→bZ.get 4=some (.ptr h1.nx 0)→bZ.get 5=some (.ptr h2.nx 0)→bZ.get 6=some (.int .i64 (.ofNat (i+1)))→
      ∃m,m<l.length-i∧∃i w,RyI h0 op (.slice bv ov l.length cv) l h0.nx h1.nx h2.nx m [] bZ h6 i w:=fun bZ h3 h6 w6 o3 a u1 u2 u4 u5 u6=>by
     have e3:=o3.1.1;have e4:=a.nx;have kk:∀c,c<h4.nx→c<h2.nx→h6.t.get c=h4.t.get c:=fun c hc Ju=>(a.kk c (by omega) Ju).trans (o3.1.2 c hc (by simp));exact⟨l.length-(i+1),by omega,i+1,w6,rfl,rfl,by omega,u1,u2,u4,u5,u6,by rw[bo (kk h0.nx (by omega) (by omega))];exact k5,⟨by rw[bo (kk h0.nx (by omega) (by omega))];exact hh.k2,hh.a.bG (kk h1.nx (by omega) (by omega)),a.c,by rw[bC (kk h1.nx (by omega) (by omega))];exact hh.w4,a.w5,by rw[MC hx,aC,aF];exact a.gr,⟨⟨by omega,fun c hc _=>by rw[kk c (by omega) (by omega)];exact hh.oo.1.2 c hc (by simp)⟩,a.g.trans (o3.2.trans hh.oo.2)⟩,by omega,hh.s2.move (by omega) (fun b e=>by cases e;exact kk bv (by omega) (by omega))⟩⟩
    have go:∀(tm:T AV),tm.get 1=some (.slice bv ov l.length cv)→tm.get 2=some (.ptr h0.nx 0)→tm.get 4=some (.ptr h1.nx 0)→tm.get 5=some (.ptr h2.nx 0)→tm.get 6=some (.int .i64 (.ofNat i))→∀K:KQ,(∀bZ h6,bZ.get 6=some (.int .i64 (.ofNat i))→(∀Gu:T AV,(∀j,j<6→Gu.get j=bZ.get j)→Gu.get 6=some (.int .i64 (.ofNat (i+1)))→∃m,m<l.length-i∧∃i w,RyI h0 op (.slice bv ov l.length cv) l h0.nx h1.nx h2.nx m [] Gu h6 i w)→K .norm [] bZ h6)→
      bB P 35 44 none (bL (bD Tryz.f35) [1,0,0,1,0,0,1,0,1,1,1]) [] tm h4 K:=by
     clear t1 t2 t4 t5 t6;intro tm t1 t2 t4 t5 t6 K hK;cases qk:op.keys with
     |false=>
      rw[qk]at IC;have es:strip op x=x:=by unfold strip;rw[qk];rfl
      rw[es]at fin;refine oq ?_ (@sc [1,1,1,0,0,1,0,0,1,0,1,1,1]) (V t1<|V t2<|V t4<|V t5<|V t6<|V dX<|V q10<|V q11<|V q12<|V q13<|V q14<|V eL<|IC);refine⟨?_⟩;refine WH h5 h2.nx h4.nx x _ w i _ (by omega) (gC hh.c o5 xx (by simp)) (kw hh.w5 o5 xx (by simp)) (hh.gr.bG o5.1.1 (fun d e=>o5.1.2 d (hh.gr.base e).2 (by simp))) (.m5 y0 y1 y2 y3 y4) (by omega) (by omega) _ (by exact sT) (by exact sT) _ ?_;intro bZ h6 w6 jr a;have u1:bZ.get 1=some (.slice bv ov l.length cv):=(jr 1 (by omega)).trans (by exact sT);have u2:bZ.get 2=some (.ptr h0.nx 0):=(jr 2 (by omega)).trans (by exact sT);have u4:bZ.get 4=some (.ptr h1.nx 0):=(jr 4 (by omega)).trans (by exact sT);have u5:bZ.get 5=some (.ptr h2.nx 0):=(jr 5 (by omega)).trans (by exact sT);have u6:bZ.get 6=some (.int .i64 (.ofNat i)):=(jr 6 (by omega)).trans (by exact sT);refine kM ?_;exact hK _ _ u6 (fun Gu e1 e2=>fin Gu h5 h6 w6 o5 a ((e1 1 (by omega)).trans u1) ((e1 2 (by omega)).trans u2) ((e1 4 (by omega)).trans u4) ((e1 5 (by omega)).trans u5) e2)
     |true=>
      rw[qk]at IC;obtain⟨Rw,Ux⟩:∃Rw,Rw=h5.cm h4.nx 1 [.str []]:=⟨_,rfl⟩;have o3':Og h4 Rw []:=by rw[Ux];exact o5.cm (.inr (ao _))
      have x3':Rw.nx=h5.nx:=by rw[Ux,bI]
      have es:strip op x=⟨x.key,[],x.iC,x.mod,x.im⟩:=by unfold strip;rw[qk];rfl
      have X3:bj Rw h4.nx 0 (strip op x).cs:=by rw[Ux,es];exact(bj.m5 y0 y1 y2 y3 y4).put wy (j:=1) (by simp) (.str [])
      refine oq ?_ (@sc [1,1,1,0,0,1,0,0,1,0,1,1,1]) (V ez<|V t1<|V t2<|V t4<|V t5<|V t6<|V dX<|V q10<|V q11<|V q12<|V q13<|V q14<|V eL<|V IC<|V y1<|V wy<|Ux.symm);refine⟨?_⟩;refine WH Rw h2.nx h4.nx (strip op x) _ w i _ (by omega) (gC hh.c o3' xx (by simp)) (kw hh.w5 o3' xx (by simp)) (hh.gr.bG o3'.1.1 (fun d e=>o3'.1.2 d (hh.gr.base e).2 (by simp))) X3 (by omega) (by omega) _ (by exact sT) (by exact sT) _ ?_;intro bZ h6 w6 jr a;have u1:bZ.get 1=some (.slice bv ov l.length cv):=(jr 1 (by omega)).trans (by exact sT);have u2:bZ.get 2=some (.ptr h0.nx 0):=(jr 2 (by omega)).trans (by exact sT);have u4:bZ.get 4=some (.ptr h1.nx 0):=(jr 4 (by omega)).trans (by exact sT);have u5:bZ.get 5=some (.ptr h2.nx 0):=(jr 5 (by omega)).trans (by exact sT);have u6:bZ.get 6=some (.int .i64 (.ofNat i)):=(jr 6 (by omega)).trans (by exact sT);refine kM ?_;exact hK _ _ u6 (fun Gu e1 e2=>fin Gu Rw h6 w6 o3' a ((e1 1 (by omega)).trans u1) ((e1 2 (by omega)).trans u2) ((e1 4 (by omega)).trans u4) ((e1 5 (by omega)).trans u5) e2)
    by_cases qa:ak 0<op.dA
    ·have d1:decide (ak 0<op.dA)=true:=decide_eq_true qa
     have d2:decide (op.dA≤ak i)=false:=decide_eq_false (fun h=>q1 ⟨qa,h⟩);refine oq ?_ (@sc [1,0,0,1,0,0,1,0,1,1,1]) (V t1<|V t2<|V t4<|V t5<|V t6<|V hlen<|V di<|V k5<|V d1<|d2);refine⟨?_⟩;refine go _ (by exact sT) (by exact sT) (by exact sT) (by exact sT) (by exact sT) _ ?_;intro bZ h6 u6 k;refine rN ?_ (V u6<|w1);exact k _ (fun j hj=>by repeat(rw[T.bS,if_neg (by omega)])) (by exact sT)
    ·have d1:decide (ak 0<op.dA)=false:=decide_eq_false qa
     refine oq ?_ (@sc [1,0,0,1,0,0,1,0,1,1,1]) (V t1<|V t2<|V t4<|V t5<|V t6<|V hlen<|V di<|V k5<|d1);refine⟨?_⟩;refine go _ (by exact sT) (by exact sT) (by exact sT) (by exact sT) (by exact sT) _ ?_;intro bZ h6 u6 k;refine rN ?_ (V u6<|w1);exact k _ (fun j hj=>by repeat(rw[T.bS,if_neg (by omega)])) (by exact sT)
  ·have di:decide (i<l.length)=false:=decide_eq_false hi
   have hle:lim op l.length=l.length:=by omega
   obtain rfl:i=l.length:=by omega
   have hmo:vO op l.length=false:=by
    unfold lim at hle;unfold vO;rw[←Bool.not_eq_true,Bool.and_eq_true,decide_eq_true_iff,decide_eq_true_iff];intro q2;rw[if_pos q2]at hle;obtain⟨m,hm⟩:∃m:Nat,op.dA=ak m:=az (aN q2.1);rw[hm]at q2 hle;have:=Int.ofNat_lt.1 q2.2;have e:(ak m).toNat=m:=rfl;omega
   have gr:=hh.gr;rw[←hle]at gr;rw[hmo];refine rN ?_ (V t1<|V t2<|V t4<|V t5<|V t6<|V hlen<|V di<|V c0<|V c1<|V c2<|V c3<|V c4<|V a0<|V a1<|V a2<|V a3<|V a4<|V w4<|nR);refine⟨hh.oo.cm (.inr (by omega)),w,rfl,?_⟩;rw[hkl];exact(gr.bG (by rw[bI];exact ao _) (fun d e=>bT _ _ _ _ (by have:=(gr.base e).1;omega))).wk (by omega)
structure qD(W:View):Prop where
 nd:(W.map (·.1)).Nodup
 ky:∀p,p∈W→p.2.kv.key=p.1∧p.1.length≤1000000
structure nC(h:H)(bd bm ro base:Nat)(L0:List Rec)(v0:AV)(rev comp:Nat)(R:List Rec)(w:AV):Prop where
 c0:cellAt h bd 0=some (.ptr bm 0)
 c1:cellAt h bd 1=some (.map ro)
 c2:cellAt h bd 2=some w
 wr:cj h bd=true
 md:l_ h bm L0 rev comp v0
 mp:fu encS h ro (mR (dg (rev+1) (L0++R)))
 gr:bK 8 base h w R.length (R.flatMap Rec.cs)
 l1:bm<ro
 l2:ro<bd
 l3:bd<base
 l4:base≤h.nx
 nv:∀c,bA v0=some c→c<ro
structure O2(h h':H)(bd ro:Nat)(w w':AV):Prop where
 nx:h.nx≤h'.nx
 old:∀c,c<h.nx→c≠bd→c≠ro→bA w≠some c→h'.t.get c=h.t.get c
 nw:∀c,bA w'=some c→bA w=some c∨h.nx≤c
 g:h'.g=h.g
theorem O2.t{h h1 h2:H}{bd ro:Nat}{w w1 w2:AV}(a:O2 h h1 bd ro w w1)(b:O2 h1 h2 bd ro w1 w2):O2 h h2 bd ro w w2:=
  ⟨aM a.nx b.nx,fun c hc h1 h2 h3=>(b.old c (aP hc a.nx) h1 h2 (fun e=>by rcases a.nw c e with q|q;exact h3 q;omega)).trans (a.old c hc h1 h2 h3),
   fun c e=>by
    rcases b.nw c e with q|q
    ·exact a.nw c q
    ·exact .inr (aM a.nx q),b.g.trans a.g⟩
theorem O2.og{h h':H}(o:Og h h' [])(bd ro:Nat)(w:AV):O2 h h' bd ro w w:=⟨o.1.1,fun c hc _ _ _=>o.1.2 c hc (by simp),fun _ e=>.inl e,o.2⟩
theorem l_.bU{h h':H}{b rev comp:Nat}{L:List Rec}{v:AV}(m:l_ h b L rev comp v)(hx:h.nx≤h'.nx)(e:h'.t.get b=h.t.get b)(es:∀c,bA v=some c→h'.t.get c=h.t.get c):l_ h' b L rev comp v:=
 ⟨aP m.lt hx,by rw[bo e];exact m.c0,by rw[bo e];exact m.c1,by rw[bo e];exact m.c2,by rw[bC e];exact m.wr,m.sl.move hx es⟩
theorem nC.bU{h h':H}{bd bm ro base rev comp:Nat}{L0 R:List Rec}{v0 w:AV}(d:nC h bd bm ro base L0 v0 rev comp R w)(o:Og h h' []):nC h' bd bm ro base L0 v0 rev comp R w:=by
 have l1:=d.l1;have l2:=d.l2;have l3:=d.l3;have l4:=d.l4;have k:∀c,c<h.nx→h'.t.get c=h.t.get c:=fun c hc=>o.1.2 c hc (by simp);exact⟨by rw[bo (k bd (by omega))];exact d.c0,by rw[bo (k bd (by omega))];exact d.c1,by rw[bo (k bd (by omega))];exact d.c2,by rw[bC (k bd (by omega))];exact d.wr,d.md.bU o.1.1 (k bm (by omega)) (fun c e=>k c (by have:=d.nv c e;omega)),d.mp.bU o.1 (by simp),d.gr.bG o.1.1 (fun c e=>k c (d.gr.base e).2),l1,l2,l3,aM l4 o.1.1,d.nv⟩
theorem KS{a:Nat}(hs:a<18446744073709551616):bV .u64 (ak a)=ak a:=by
 show((a:Nat):Int)%18446744073709551616=((a:Nat):Int);omega
def rO(rev:Nat)(R:List Rec)(kv:KV)(dW:Bool):Rec:=⟨rev+1,R.length,kv,dW⟩
theorem vP(main:Nat)(L:List Rec)(r:Rec)(h:r.main≤main):dg main (L++[r])=fw (dg main L) r:=by
 unfold dg;rw[aG];show(if r.main≤main then _ else _)=_;rw[if_pos h]
theorem WJ(h0:H)(bd bm ro base:Nat)(L0:List Rec)(v0:AV)(rev comp:Nat)(R:List Rec)(w:AV)(d:nC h0 bd bm ro base L0 v0 rev comp R w)(kv:KV)(dW:Bool)(hr:rev≤1000000)(hz:R.length≤1000000):
  bW P (.enter 97 [.ptr bd 0,.agg kv.cs,.bool dW] h0) fun v h'=>v= .tuple []∧∃w',nC h' bd bm ro base L0 v0 rev comp (R++[rO rev R kv dW]) w'∧O2 h0 h' bd ro w w':=by
 have l1:=d.l1;have l2:=d.l2;have l3:=d.l3;have l4:=d.l4;have nR:=d.gr.one;have hlen:=d.gr.slice.len (P:=P) jl;obtain⟨h1,cC⟩:∃h1,h1=h0.bq 83 kv.cs:=⟨_,rfl⟩;have o1:Og h0 h1 []:=by rw[cC];exact(Og.refl _ _).new _ _
 have x1:h1.nx=h0.nx+1:=by rw[cC];rfl
 have bx:n_ h0 83 kv.cs= .val (.ptr h0.nx 0) h1:=by rw[cC];exact jb rfl
 obtain⟨y0,y1,y2,y3,y4⟩:=bj.u5 (show bj h1 h0.nx 0 [.str kv.key,.str kv.val,.int .u64 (.ofNat kv.iC),.int .u64 (.ofNat kv.mod),.int .u64 (.ofNat kv.im)]by rw[cC];exact bj.new h0 83 kv.cs);have d1:=d.bU o1;have c0:=d1.c0;have c1:=d1.c1;have c2:=d1.c2;have m1:=d1.md.c1;have IL:bV .u64 (ak rev+ak 1)=ak (rev+1):=sC (by omega);have Jy:bV .u64 (ak R.length)=ak R.length:=KS (by omega);obtain⟨h2,cJ,o2,x2,z0,z1,z2,z3,z4,z5,z6,z7,-⟩:=rK h1 (rO rev R kv dW);unfold rO at cJ z0 z1 z2 z3 z4 z5 z6 z7;simp only at cJ z0 z1 z2 z3 z4 z5 z6 z7;have d2:=d1.bU o2;have C0:=d2.c0;have C1:=d2.c1;have C2:=d2.c2;have W2:=d2.wr;obtain⟨h3,cB⟩:∃h3,h3=h2.bq 91 [.int .u64 (.ofNat (rev+1)),.int .u64 (.ofNat R.length),.str kv.key,.str kv.val,.int .u64 (.ofNat kv.iC),.int .u64 (.ofNat kv.mod),.int .u64 (.ofNat kv.im),.bool dW]:=⟨_,rfl⟩;have o3:Og h2 h3 []:=by rw[cB];exact(Og.refl _ _).new _ _
 have x3:h3.nx=h2.nx+1:=by rw[cB];rfl
 have eZ:h3.row h2.nx 0 8=some (rO rev R kv dW).cs:=gK (o:=0) (cs:=(rO rev R kv dW).cs) (fun j hj=>by rw[cB,bJ,al,if_pos rfl];rfl) (by simp[Rec.cs]);have d3:=d2.bU o3;have F2:=d3.c2;have n1:(h0.nx=h1.nx)=False:=by simp;omega
 have n2:(bd=h1.nx)=False:=by simp;omega
 have n3:(bm=h1.nx)=False:=by simp;omega
 refine bn (fn:=Tryz.f97) (c:=bD Tryz.f97) Tryz.func97 rfl ?_;show bB P 97 41 none _ _ _ _ _;refine bp ?_;repeat' (first|((with_reducible refine gh ?_);(conv =>whnf);(with_reducible refine⟨?_⟩))|((with_reducible refine cV F0 ?_ rfl rfl ?_);exact rfl;(conv =>arg 4;whnf);(conv =>arg 3;whnf))|((with_reducible refine fh ?_ rfl rfl ?_ ?_);exact rfl;kernel_rfl;(conv =>arg 5;whnf);(conv =>arg 3;whnf))|((with_reducible refine bE rfl ?_);(conv =>arg 2;whnf))|((with_reducible first|refine iB ?_ ?_|refine g_ ?_ ?_|refine hP ?_ ?_|refine pL ?_ ?_|refine pM ?_ ?_)<;>intro hb<;>(try simp only[hb]))|((with_reducible show dh _ _ _ _ _ _ _ _ _);first|((with_reducible apply gM);exact rfl;exact rfl)|((with_reducible apply gN);exact rfl;exact rfl;exact rfl)|((with_reducible apply gP);exact rfl;exact rfl;kernel_rfl)|((with_reducible apply gQ);exact rfl;exact rfl;exact rfl)|((with_reducible apply gT);exact rfl;exact rfl;exact rfl)|((with_reducible apply gR);exact rfl;exact rfl;kernel_rfl;exact rfl)|((with_reducible apply gS);exact rfl;exact rfl;kernel_rfl;exact rfl)|((with_reducible refine gL ?_ ?_)))|((with_reducible show cU _ _ _ _ _ _ _ _ _);first|((with_reducible refine fj ?_ ?_);exact rfl)|((with_reducible apply fm);exact rfl;exact rfl)|((with_reducible refine fo ?_ ?_ ?_);exact rfl;kernel_rfl)|((with_reducible apply fp);exact rfl;exact rfl)|((with_reducible refine fq ?_ ?_ ?_ ?_ ?_);exact rfl;kernel_rfl;exact rfl)|((with_reducible apply ft);exact rfl;kernel_rfl;exact rfl)|((with_reducible refine fi ?_ ?_)))|((with_reducible show il _ _ _ _ _ _);first|(exact cK)|(refine eB ?_ ?_ ?_;exact rfl)|(apply eC;exact rfl;exact rfl)|(refine eD ?_ ?_ ?_ ?_;exact rfl;kernel_rfl)|(apply eF;exact rfl)|(apply eE;exact rfl;exact rfl))|((with_reducible refine bX ?_);kernel_rfl)|(simp only[B,xB,F,ab,ae,af,ag,ah,ai, ↓reduceIte,eq_self,bx,c0,c1,c2,m1,nR,hlen,y0,y1,y2,y3,y4,IL,Jy,cJ,C0,C1,C2,z0,z1,z2,z3,z4,z5,z6,z7,←cB,eZ,F2,n1,n2,n3]))
 refine dz (m:=1) (new:=(rO rev R kv dW).cs) d3.gr (by omega) (by omega) (by omega) rfl (by omega) (fun v7 h7 g7 x7 gV ud vM=>?_);have wG:=g7.one;have Om:=g7.cells;have k7:∀c,c<base→h7.t.get c=h3.t.get c:=fun c hc=>gV c (by omega) (fun e=>by have:=(d3.gr.base e).1;omega);have E2:cellAt h7 bd 2=some w:=by rw[bo (k7 bd (by omega))];exact d3.c2
 have W7:cj h7 bd=true:=by rw[bC (k7 bd (by omega))];exact d3.wr
 obtain⟨h8,oz⟩:∃h8,h8=h7.cm bd 2 [v7]:=⟨_,rfl⟩;have x8:h8.nx=h7.nx:=by rw[oz,bI]
 have k8:∀c,c≠bd→h8.t.get c=h7.t.get c:=fun c hc=>by rw[oz,bT _ _ _ _ hc]
 have S:∀j,cellAt h8 bd j=if j=2 then some v7 else cellAt h7 bd j:=fun j=>by
  rw[oz,b_ W7];by_cases e:j=2
  ·subst e;rw[if_pos ⟨rfl,ao _,by simp⟩,if_pos rfl];rfl
  ·rw[if_neg (by simp;omega),if_neg e]
 have E1:cellAt h8 bd 1=some (.map ro):=by rw[S,if_neg (by omega),bo (k7 bd (by omega))];exact d3.c1
 have E0:cellAt h8 bd 0=some (.ptr bm 0):=by rw[S,if_neg (by omega),bo (k7 bd (by omega))];exact d3.c0
 have kz:∀j,cellAt h8 h1.nx j=cellAt h2 h1.nx j:=fun j=>by rw[bo (k8 h1.nx (by omega)),bo (gV h1.nx (by omega) (fun e=>by have:=(d2.gr.base e).2;have:=(d1.gr.base e).2;omega)),bo (o3.1.2 h1.nx (by omega) (by simp))]
 rw[←kz]at z0 z1 z2 z3 z4 z5 z6 z7;repeat' (first|((with_reducible refine gh ?_);(conv =>whnf);(with_reducible refine⟨?_⟩))|((with_reducible refine cV F0 ?_ rfl rfl ?_);exact rfl;(conv =>arg 4;whnf);(conv =>arg 3;whnf))|((with_reducible refine fh ?_ rfl rfl ?_ ?_);exact rfl;kernel_rfl;(conv =>arg 5;whnf);(conv =>arg 3;whnf))|((with_reducible refine bE rfl ?_);(conv =>arg 2;whnf))|((with_reducible first|refine iB ?_ ?_|refine g_ ?_ ?_|refine hP ?_ ?_|refine pL ?_ ?_|refine pM ?_ ?_)<;>intro hb<;>(try simp only[hb]))|((with_reducible show dh _ _ _ _ _ _ _ _ _);first|((with_reducible apply gM);exact rfl;exact rfl)|((with_reducible apply gN);exact rfl;exact rfl;exact rfl)|((with_reducible apply gP);exact rfl;exact rfl;kernel_rfl)|((with_reducible apply gQ);exact rfl;exact rfl;exact rfl)|((with_reducible apply gT);exact rfl;exact rfl;exact rfl)|((with_reducible apply gR);exact rfl;exact rfl;kernel_rfl;exact rfl)|((with_reducible apply gS);exact rfl;exact rfl;kernel_rfl;exact rfl)|((with_reducible refine gL ?_ ?_)))|((with_reducible show cU _ _ _ _ _ _ _ _ _);first|((with_reducible refine fj ?_ ?_);exact rfl)|((with_reducible apply fm);exact rfl;exact rfl)|((with_reducible refine fo ?_ ?_ ?_);exact rfl;kernel_rfl)|((with_reducible apply fp);exact rfl;exact rfl)|((with_reducible refine fq ?_ ?_ ?_ ?_ ?_);exact rfl;kernel_rfl;exact rfl)|((with_reducible apply ft);exact rfl;kernel_rfl;exact rfl)|((with_reducible refine fi ?_ ?_)))|((with_reducible show il _ _ _ _ _ _);first|(exact cK)|(refine eB ?_ ?_ ?_;exact rfl)|(apply eC;exact rfl;exact rfl)|(refine eD ?_ ?_ ?_ ?_;exact rfl;kernel_rfl)|(apply eF;exact rfl)|(apply eE;exact rfl;exact rfl))|((with_reducible refine bX ?_);kernel_rfl)|(simp only[B,xB,F,ab,ae,af,ag,ah,ai, ↓reduceIte,eq_self,wG,Om,E2,W7,←oz,E1,z0,z1,z2,z3,z4,z5,z6,z7]))
 have m8:fu encS h8 ro (mR (dg (rev+1) (L0++R))):=d3.mp.get (by omega) (by rw[k8 ro (by omega),k7 ro (by omega)]);refine((Zd h8 ro (dg (rev+1) (L0++R)) (rO rev R kv dW) m8).call P).mono P ?_;rintro _ h9 ⟨rfl,m9,o9⟩;repeat' (first|((with_reducible refine gh ?_);(conv =>whnf);(with_reducible refine⟨?_⟩))|((with_reducible refine cV F0 ?_ rfl rfl ?_);exact rfl;(conv =>arg 4;whnf);(conv =>arg 3;whnf))|((with_reducible refine fh ?_ rfl rfl ?_ ?_);exact rfl;kernel_rfl;(conv =>arg 5;whnf);(conv =>arg 3;whnf))|((with_reducible refine bE rfl ?_);(conv =>arg 2;whnf))|((with_reducible first|refine iB ?_ ?_|refine g_ ?_ ?_|refine hP ?_ ?_|refine pL ?_ ?_|refine pM ?_ ?_)<;>intro hb<;>(try simp only[hb]))|((with_reducible show dh _ _ _ _ _ _ _ _ _);first|((with_reducible apply gM);exact rfl;exact rfl)|((with_reducible apply gN);exact rfl;exact rfl;exact rfl)|((with_reducible apply gP);exact rfl;exact rfl;kernel_rfl)|((with_reducible apply gQ);exact rfl;exact rfl;exact rfl)|((with_reducible apply gT);exact rfl;exact rfl;exact rfl)|((with_reducible apply gR);exact rfl;exact rfl;kernel_rfl;exact rfl)|((with_reducible apply gS);exact rfl;exact rfl;kernel_rfl;exact rfl)|((with_reducible refine gL ?_ ?_)))|((with_reducible show cU _ _ _ _ _ _ _ _ _);first|((with_reducible refine fj ?_ ?_);exact rfl)|((with_reducible apply fm);exact rfl;exact rfl)|((with_reducible refine fo ?_ ?_ ?_);exact rfl;kernel_rfl)|((with_reducible apply fp);exact rfl;exact rfl)|((with_reducible refine fq ?_ ?_ ?_ ?_ ?_);exact rfl;kernel_rfl;exact rfl)|((with_reducible apply ft);exact rfl;kernel_rfl;exact rfl)|((with_reducible refine fi ?_ ?_)))|((with_reducible show il _ _ _ _ _ _);first|(exact cK)|(refine eB ?_ ?_ ?_;exact rfl)|(apply eC;exact rfl;exact rfl)|(refine eD ?_ ?_ ?_ ?_;exact rfl;kernel_rfl)|(apply eF;exact rfl)|(apply eE;exact rfl;exact rfl))|((with_reducible refine bX ?_);kernel_rfl)|(simp only[B,xB,F,ab,ae,af,ag,ah,ai, ↓reduceIte,eq_self]))
 have k9:∀c,c<h8.nx→c≠ro→h9.t.get c=h8.t.get c:=fun c hc hn=>o9.1.2 c hc (by simp[hn]);have x9:=o9.1.1;have g8:bK 8 base h8 v7 (R.length+1) (R.flatMap Rec.cs++(rO rev R kv dW).cs):=g7.bG (by omega) (fun c e=>k8 c (by have:=(g7.base e).1;omega));have g9:bK 8 base h9 v7 (R.length+1) (R.flatMap Rec.cs++(rO rev R kv dW).cs):=g8.bG (by omega) (fun c e=>k9 c (g8.base e).2 (by have:=(g8.base e).1;omega));have kk:∀c,c<base→c≠bd→c≠ro→h9.t.get c=h3.t.get c:=fun c hc h1 h2=>by rw[k9 c (by omega) h2,k8 c h1,k7 c hc]
 have ka:L0++(R++[rO rev R kv dW])=(L0++R)++[rO rev R kv dW]:=by rw[aQ]
 refine⟨_,rfl,_,rfl,rfl,v7,⟨by rw[bo (k9 bd (by omega) (by omega))];exact E0,by rw[bo (k9 bd (by omega) (by omega))];exact E1,by rw[bo (k9 bd (by omega) (by omega)),S,if_pos rfl],?_,d3.md.bU (by omega) (kk bm (by omega) (by omega) (by omega)) (fun c e=>kk c (by have:=d.nv c e;omega) (by have:=d.nv c e;omega) (by have:=d.nv c e;omega)),?_,?_,l1,l2,l3,by omega,d.nv⟩,⟨by omega,fun c hc h1 h2 h3=>?_,fun c e=>.inr (by rw[ud]at e;cases e;omega),by rw[o9.2,oz,dD,vM,o3.2,o2.2,o1.2]⟩⟩
 ·rw[bC (k9 bd (by omega) (by omega)),oz,bN];exact W7
 ·rw[ka,vP (rev+1) _ (rO rev R kv dW) (ao _)];exact m9
 ·rw[aE,aC,aF];exact g9
 ·rw[k9 c (by omega) h2,k8 c h1,gV c (by omega) h3,o3.1.2 c (by omega) (by simp),o2.1.2 c (by omega) (by simp),o1.1.2 c hc (by simp)]
theorem B9{k:List Nat}{r:Rec}:∀{W:View}{p:List Nat×Rec},p∈qx k r W→p=(k,r)∨p∈W
 |[],p,h=>by unfold qx at h;rw[aO]at h;exact .inl h
 | (a,x)::W,p,h=>by
  unfold qx at h;split at h
  ·rename_i e
   rcases List.mem_cons.1 h with rfl|h
   ·exact .inl (by rw[e])
   ·exact .inr (by simp[h])
  ·rcases List.mem_cons.1 h with rfl|h
   ·exact .inr (by simp)
   ·rcases B9 h with q|q
    ·exact .inl q
    ·exact .inr (by simp[q])
theorem Rx{k:List Nat}{r:Rec}:∀{W:View}{a:List Nat},a∈(qx k r W).map (·.1)→a=k∨a∈W.map (·.1)
 |W,a,h=>by
  obtain⟨p,hp,e⟩:=List.mem_map.1 h;rcases B9 hp with q|q
  ·exact .inl (by rw[←e,q])
  ·exact .inr (List.mem_map.2 ⟨p,q,e⟩)
theorem ME{k:List Nat}{r:Rec}:∀{W:View},(W.map (·.1)).Nodup→((qx k r W).map (·.1)).Nodup
 |[],_=>by simp[qx]
 | (a,x)::W,h=>by
  rw[aw,aL]at h;unfold qx;split
  ·rw[aw,aL];exact h
  ·rename_i q
   rw[aw,aL];exact⟨fun hm=>by rcases Rx hm with e|e;exact q e.symm;exact h.1 e,ME h.2⟩
theorem rP{k:List Nat}:∀{W:View},(ub k W).Sublist W
 |[]=>List.Sublist.refl _
 |(a,x)::W=>by
  unfold ub;split
  ·exact List.sublist_cons_self _ _
  ·exact(rP (W:=W)).cons_cons _
theorem vQ{W:View}{r:Rec}(h:(W.map (·.1)).Nodup):((fw W r).map (·.1)).Nodup:=by
 unfold fw;split
 ·exact(rP.map (·.1)).nodup h
 ·exact ME h
theorem B_{W:View}{r:Rec}{p:List Nat×Rec}(h:p∈fw W r):p=(r.kv.key,r)∨p∈W:=by
 unfold fw at h;split at h
 ·exact .inr (rP.subset h)
 ·exact B9 h
theorem IM{k:List Nat}{r:Rec}:∀{W:View},(qx k r W).length≤W.length+1
 |[]=>by simp[qx]
 |(a,x)::W=>by
  have:=IM (k:=k) (r:=r) (W:=W);unfold qx;split<;>simp <;>omega
theorem Ca(W:View)(r:Rec):(fw W r).length≤W.length+1:=by
 unfold fw;split
 ·have:=(rP (k:=r.kv.key) (W:=W)).length_le;omega
 ·exact IM
def dI(L:List Rec):Prop:=∀r,r∈L→r.kv.key.length≤1000000
theorem vR(main:Nat):∀(L:List Rec)(W:View),qD W→dI L→qD (L.foldl (fun W r=>if r.main≤main then fw W r else W) W)∧(L.foldl (fun W r=>if r.main≤main then fw W r else W) W).length≤W.length+L.length
 |[],W,h,_=>⟨h,ao _⟩
 | r::L,W,h,hs=>by
  rw[List.foldl_cons,aK];split
  ·have hv:qD (fw W r):=⟨vQ h.nd,fun p hp=>by
    rcases B_ hp with rfl|q
    ·exact⟨rfl,hs r (by simp)⟩
    ·exact h.ky p q⟩
   have ih:=vR main L (fw W r) hv (fun x hx=>hs x (by simp[hx]));have:=Ca W r;exact⟨ih.1,by omega⟩
  ·have:=vR main L W h (fun x hx=>hs x (by simp[hx]))
   exact⟨this.1,by omega⟩
theorem rQ{main:Nat}{L:List Rec}(h:dI L):qD (dg main L):=(vR main L [] ⟨List.nodup_nil,fun p hp=>by cases hp⟩ h).1
theorem lE{main:Nat}{L:List Rec}(h:dI L):(dg main L).length≤L.length:=by
 have:=(vR main L [] ⟨List.nodup_nil,fun p hp=>by cases hp⟩ h).2;rw[List.length_nil,al]at this;exact this
theorem lF(W:View)(key fin:List Nat):(ny W key fin).length≤W.length:=by
 have:=Mw W key fin (fJ (W.map (·.1)));rw[(fe _).length_eq,au]at this;exact this
def iE(rev:Nat)(L0 R:List Rec)(op:Op):View:=if 0<op.rev then dg op.rev L0 else dg (rev+1) (L0++R)
structure uf(h0 h':H)(bd bm ro base:Nat)(L0:List Rec)(v0:AV)(rev comp:Nat)(w:AV)(R':List Rec)(r:nz)(v w' k p:AV):Prop where
 v:v= .agg (r.cs k p)
 ks:br h' k r.rM.length (r.rM.flatMap KV.cs)
 ps:br h' p r.prev.length (r.prev.flatMap KV.cs)
 kb:∀c,bA k=some c→h0.nx≤c∧bA w'≠some c
 pb:∀c,bA p=some c→h0.nx≤c∧bA w'≠some c
 ko:k.one=true
 po:p.one=true
 d:nC h' bd bm ro base L0 v0 rev comp R' w'
 dk:O2 h0 h' bd ro w w'
theorem Ry(h0:H)(bd bm ro base:Nat)(L0:List Rec)(v0:AV)(rev comp:Nat)(R:List Rec)(w:AV)(d:nC h0 bd bm ro base L0 v0 rev comp R w)(op:Op)(hs:dI L0)(O3:dI R)(hz:L0.length≤500000)(WK:R.length≤500000):
  bW P (.enter 58 [.ptr bd 0,.agg op.cs] h0) fun v h'=>∃k,uf h0 h' bd bm ro base L0 v0 rev comp w R (fM op (ny (iE rev L0 R op) op.key op.fin)) v w k .bh:=by
 have l1:=d.l1;have l2:=d.l2;have l3:=d.l3;have l4:=d.l4;obtain⟨h1,cC,o1,x1,y0,y1,y2,y3,y4,y5,y6,y7,y8⟩:=B8 h0 op;obtain⟨h2,cJ,o2,x2,w4,a0,a1,a2,a3,a4⟩:=ue h1;have f_:=o1.t o2;have bx:=bxO h0 op;rw[cC]at bx;have Y:=gC (show bj h1 h0.nx 0 op.cs from .m9 y0 y1 y2 y3 y4 y5 y6 y7 y8) o2 (by omega) (by simp);obtain⟨Y0,Y1,Y2,Y3,Y4,Y5,Y6,Y7,Y8⟩:=Y.u9;have A:=bj.m5 a0 a1 a2 a3 a4;have d2:=d.bU f_;have c0:=d2.c0;have c1:=d2.c1;have hso:dI (L0++R):=fun r hr=>by rcases List.mem_append.1 hr with q|q;exact hs r q;exact O3 r q
 have post:∀(h3:H)(ro2:Nat)(W:View),Og h2 h3 []→fu encS h3 ro2 (mR W)→qD W→W.length≤1000000→W=iE rev L0 R op→∀tm:T AV,tm.get 3=some (.ptr h0.nx 0)→tm.get 4=some (.ptr h1.nx 0)→tm.get 5=some (.map ro2)→
   bB P 58 28 none (bL (bD Tryz.f58) [1,1,1]) [] tm h3 (nc P Tryz.f58 fun v h'=>∃k,uf h0 h' bd bm ro base L0 v0 rev comp w R (fM op (ny (iE rev L0 R op) op.key op.fin)) v w k .bh):=by
  intro h3 ro2 W o3 m3 pV hW eW tm t3 t4 t5;have Y':=gC Y o3 (by omega) (by simp);obtain⟨Z0,Z1,Z2,Z3,Z4,Z5,Z6,Z7,Z8⟩:=Y'.u9;have x3:=o3.1.1;refine rT ?_ (V t3<|V t4<|V t5<|V Z0<|V Z1<|V Z2<|V Z3<|V Z4<|V Z5<|V Z6<|V Z7<|Z8);refine((zA h3 ro2 W op.key op.fin m3 pV.nd hW (fun p hp=>(pV.ky p hp).2)).call P).mono P ?_;rintro v4 h4 ⟨o4,g4⟩;have x4:=o4.1.1;have g4o:=g4.one;obtain⟨X0,X1,X2,X3,X4,X5,X6,X7,X8⟩:=(gC Y' o4 (by omega) (by simp)).u9;refine rT ?_ (V X0<|V X1<|V X2<|V X3<|V X4<|V X5<|V X6<|V X7<|V X8<|V t3<|V t4<|V t5<|g4o);refine((resC h4 op v4 (ny W op.key op.fin) h3.nx g4 (by have:=lF W op.key op.fin;omega)).call P).mono P ?_;rintro v5 h5 ⟨o5,k,hv5,g5⟩;unfold nz.cs at hv5;subst hv5;have g5o:=g5.one;have g5c:=g5.cells;have x5:=o5.1.1;obtain⟨X0,X1,X2,X3,X4,X5,X6,X7,X8⟩:=(gC (gC Y' o4 (by omega) (by simp)) o5 (by omega) (by simp)).u9;have A5:=gC (gC (gC A o3 (by omega) (by simp)) o4 (by omega) (by simp)) o5 (by omega) (by simp);obtain⟨b0,b1,b2,b3,b4⟩:=A5.u5;have O1:=kw (kw (kw w4 o3 (by omega) (by simp)) o4 (by omega) (by simp)) o5 (by omega) (by simp);have Bc:=bj.cm (o:=0) O1 ((fM op (ny W op.key op.fin)).cs k .bh);obtain⟨h6,kO⟩:∃h6,h6=h5.cm h1.nx 0 ((fM op (ny W op.key op.fin)).cs k .bh):=⟨_,rfl⟩;rw[←kO]at Bc;unfold nz.cs at Bc kO;obtain⟨f0,f1,f2,f3,f4⟩:=Bc.u5;have F6:=(o3.t o4).t o5;have oo:Og h0 h6 []:=by rw[kO];exact(f_.t F6).cm (.inr (by omega))
  refine rT ?_ (V X0<|V X1<|V X2<|V X3<|V X4<|V X5<|V X6<|V X7<|V X8<|V t3<|V t4<|V t5<|V g5o<|V g5c<|V b0<|V b1<|V b2<|V b3<|V b4<|V O1<|V kO.symm<|V f0<|V f1<|V f2<|V f3<|f4);have x6:h6.nx=h5.nx:=by rw[kO,bI]
  have hpr:(fM op (ny W op.key op.fin)).prev=[]:=by unfold fM;split<;>rfl
  rw[←eW];refine⟨k,rfl,?_,by rw[hpr];exact .none,fun c e=>⟨by have:=(g5.base e).1;omega,fun e2=>by have:=(g5.base e).1;have:=(d.gr.base e2).2;omega⟩,fun c e=>(by cases e),g5o,rfl,d.bU oo,O2.og oo _ _ _⟩;exact g5.slice.move (by omega) (fun c e=>by rw[kO,bT _ _ _ _ (by have:=(g5.base e).1;omega)])
 by_cases q:0<op.rev
 ·have d1:decide (0<op.rev)=true:=decide_eq_true q
  have eW:dg op.rev L0=iE rev L0 R op:=by unfold iE;rw[if_pos q]
  have md:=d2.md;refine bn (fn:=Tryz.f58) (c:=bD Tryz.f58) Tryz.func58 rfl ?_;show bB P 58 28 none _ _ _ _ _;refine bp ?_;refine rT ?_ (V bx<|V cJ<|V c0<|V c1<|V Y0<|V Y1<|V Y2<|V Y3<|V Y4<|V Y5<|V Y6<|V Y7<|V Y8<|d1);refine((atC h2 bm op.rev L0 v0 md.lt md.c0 md.sl (by omega) (fun c e=>by have:=d.nv c e;omega)).call P).mono P ?_;rintro _ h3 ⟨ro2,rfl,pW,o3,m3⟩;have d3:=d2.bU o3;have c03:=d3.c0;obtain⟨Z0,Z1,Z2,Z3,Z4,Z5,Z6,Z7,Z8⟩:=(gC Y o3 (by omega) (by simp)).u9;refine rTs ?_ (@sc [1,1,1]) (V c03<|V Z0<|V Z1<|V Z2<|V Z3<|V Z4<|V Z5<|V Z6<|V Z7<|Z8);refine⟨?_⟩;exact post h3 ro2 _ o3 m3 (rQ hs) (by have:=lE (main:=op.rev) hs;omega) eW _ (by exact sT) (by exact sT) (by exact sT)
 ·have d1:decide (0<op.rev)=false:=decide_eq_false q
  have eW:dg (rev+1) (L0++R)=iE rev L0 R op:=by unfold iE;rw[if_neg q]
  refine bn (fn:=Tryz.f58) (c:=bD Tryz.f58) Tryz.func58 rfl ?_;show bB P 58 28 none _ _ _ _ _;refine bp ?_;refine oq ?_ (@sc [1,1,1]) (V bx<|V cJ<|V c0<|V c1<|V Y0<|V Y1<|V Y2<|V Y3<|V Y4<|V Y5<|V Y6<|V Y7<|V Y8<|d1);refine⟨?_⟩;exact post h2 ro _ (Og.refl _ _) d2.mp (rQ hso) (by have:=lE (main:=rev+1) hso;rw[aE]at this;omega) eW _ (by exact sT) (by exact sT) (by exact sT)
def IN(n:Nat):Nat:=(n+1)%sR
theorem Rz(n:Nat):bV .u64 (ak n+ak 1)=ak (IN n):=by
 show(((n:Nat):Int)+((1:Nat):Int))%18446744073709551616=(((n+1)%18446744073709551616:Nat):Int);omega
def oV(rev:Nat)(op:Op):Option Rec→KV
 |none=>⟨op.key,op.val,rev+1,rev+1,1⟩
 |some r=>⟨op.key,op.val,r.kv.iC,rev+1,IN r.kv.im⟩
def oW(op:Op)(o:Option Rec):nz:=⟨[],false,0,0,if op.prev then(o.map (·.kv)).toList else[]⟩
theorem F9(h0 h:H)(bd bm ro base:Nat)(L0:List Rec)(v0:AV)(rev comp:Nat)(R:List Rec)(w:AV)(d:nC h bd bm ro base L0 v0 rev comp R w)(oo:Og h0 h [])(op:Op)(x:Option Rec)(p:AV)(b4 b6:Nat)(hr:rev≤1000000)(hz:R.length≤1000000)
  (A:bj h b4 0 [.bh,.bool false,.int .i64 (.ofNat 0),.int .i64 (.ofNat 0),p])(w4:cj h b4=true)(K6:bj h b6 0 (oV rev op x).cs)(l4:h0.nx≤b4)(l5:b4<h.nx)(l6:b6<h.nx)(l7:h0.nx≤b6)(lb:base≤h0.nx)(hw:∀c,bA w=some c→c<h0.nx)
  (ps:br h p (oW op x).prev.length ((oW op x).prev.flatMap KV.cs))(pb:∀c,bA p=some c→h0.nx≤c∧c<h.nx∧c≠b4)(po:p.one=true)(pc:p.cells=[p])(tm:T AV)(t0:tm.get 0=some (.ptr bd 0))(t4:tm.get 4=some (.ptr b4 0))(t6:tm.get 6=some (.ptr b6 0)):
  bB P 59 54 none (bL (bD Tryz.f59) [1,1,1,1]) [] tm h (nc P Tryz.f59 fun v h'=>∃p w',uf h0 h' bd bm ro base L0 v0 rev comp w (R++[rO rev R (oV rev op x) false]) (oW op x) v w' .bh p):=by
 have l1:=d.l1;have l2:=d.l2;have l3:=d.l3;obtain⟨q0,q1,q2,q3,q4⟩:=K6.u5;refine rN ?_ (V t0<|V t4<|V t6<|V q0<|V q1<|V q2<|V q3<|q4);refine((WJ h bd bm ro base L0 v0 rev comp R w d (oV rev op x) false hr hz).call P).mono P ?_;rintro _ h2 ⟨rfl,w',d2,k2⟩;have x2:=k2.nx;have k:∀c,c<h.nx→h0.nx≤c→h2.t.get c=h.t.get c:=fun c hc hc0=>k2.old c hc (by omega) (by omega) (fun e=>by have:=hw c e;omega);have A2:=A.bG (k b4 (by omega) l4);obtain⟨a0,a1,a2,a3,a4⟩:=A2.u5;have ug:cj h2 b4=true:=by rw[bC (k b4 (by omega) l4)];exact w4
 obtain⟨h3,cB⟩:∃h3,h3=h2.cm b4 0 [.bh,.bool false,.int .i64 (.ofNat 0),.int .i64 (.ofNat 0),p]:=⟨_,rfl⟩;have B3:bj h3 b4 0 [.bh,.bool false,.int .i64 (.ofNat 0),.int .i64 (.ofNat 0),p]:=by rw[cB];exact bj.cm ug _
 obtain⟨e0,e1,e2,e3,e4⟩:=B3.u5;have o3:Og h2 h3 [b4]:=by rw[cB];exact(Og.refl _ _).cm (.inl (by simp))
 have x3:h3.nx=h2.nx:=by rw[cB,bI]
 have nw:=k2.nw;have w4b:∀c,bA w'=some c→c<h0.nx∨h.nx≤c:=fun c e=>by
  rcases nw c e with q|q
  ·exact .inl (hw c q)
  ·exact .inr q
 have k3:∀c,c<h2.nx→c≠b4→h3.t.get c=h2.t.get c:=fun c hc hn=>o3.1.2 c hc (by simp[hn]);refine rN ?_ (V t0<|V t4<|V t6<|V a0<|V a1<|V a2<|V a3<|V a4<|V ug<|V po<|V pc<|V cB.symm<|V e0<|V e1<|V e2<|V e3<|e4);have d3:nC h3 bd bm ro base L0 v0 rev comp (R++[rO rev R (oV rev op x) false]) w':=by
  have g:∀c,c<h0.nx→h3.t.get c=h2.t.get c:=fun c hc=>k3 c (by have:=oo.1.1;omega) (by omega);exact⟨by rw[bo (g bd (by omega))];exact d2.c0,by rw[bo (g bd (by omega))];exact d2.c1,by rw[bo (g bd (by omega))];exact d2.c2,by rw[bC (g bd (by omega))];exact d2.wr,d2.md.bU (by omega) (g bm (by omega)) (fun c e=>g c (by have:=d.nv c e;omega)),d2.mp.get (by omega) (g ro (by omega)),d2.gr.bG (by omega) (fun c e=>k3 c (d2.gr.base e).2 (fun e2=>by rcases w4b c e with q|q<;>omega)),l1,l2,l3,by omega,d.nv⟩
 refine⟨p,w',rfl,.none,?_,fun c e=>(by cases e),fun c e=>⟨(pb c e).1,fun e2=>by have:=pb c e;rcases w4b c e2 with q|q<;>omega⟩,rfl,po,d3,?_⟩
 ·exact ps.move (by omega) (fun c e=>by rw[k3 c (by have:=pb c e;omega) (pb c e).2.2,k c (pb c e).2.1 (pb c e).1])
 ·have xo:=oo.1.1
  refine⟨by omega,fun c hc h1 Cy Rw=>?_,fun c e=>?_,?_⟩
  ·rw[k3 c (by omega) (by omega),k2.old c (by omega) h1 Cy Rw,oo.1.2 c hc (by simp)]
  ·rcases nw c e with q|q
   ·exact .inl q
   ·exact .inr (by omega)
  ·rw[o3.2,k2.g,oo.2]
theorem putC(h0:H)(bd bm ro base:Nat)(L0:List Rec)(v0:AV)(rev comp:Nat)(R:List Rec)(w:AV)(d:nC h0 bd bm ro base L0 v0 rev comp R w)(op:Op)(hr:rev≤1000000)(hz:R.length≤1000000):
  bW P (.enter 59 [.ptr bd 0,.agg op.cs] h0) fun v h'=>∃p w',uf h0 h' bd bm ro base L0 v0 rev comp w (R++[rO rev R (oV rev op (dP op.key (dg (rev+1) (L0++R)))) false]) (oW op (dP op.key (dg (rev+1) (L0++R)))) v w' .bh p:=by
 have l1:=d.l1;have l2:=d.l2;have l3:=d.l3;have l4:=d.l4;obtain⟨h1,cC,o1,x1,y0,y1,y2,y3,y4,y5,y6,y7,y8⟩:=B8 h0 op;obtain⟨h2,cJ,o2,x2,w4,a0,a1,a2,a3,a4⟩:=ue h1;have f_:=o1.t o2;have bx:=bxO h0 op;rw[cC]at bx;have Y:=gC (show bj h1 h0.nx 0 op.cs from .m9 y0 y1 y2 y3 y4 y5 y6 y7 y8) o2 (by omega) (by simp);obtain⟨Y0,Y1,Y2,Y3,Y4,Y5,Y6,Y7,Y8⟩:=Y.u9;obtain⟨h3,cB,o3,x3,k0,k1,k2,k3,k4,wk⟩:=B7 h2 ⟨op.key,op.val,rev+1,rev+1,1⟩;simp only at cB k0 k1 k2 k3 k4;have Y3':=gC Y o3 (by omega) (by simp);obtain⟨Z0,Z1,Z2,Z3,Z4,Z5,Z6,Z7,Z8⟩:=Y3'.u9;have d1:=d.bU o1;have d2:=d.bU f_;have d3:=d2.bU o3;have c0:=d2.c0;have m1:=d2.md.c1;have C1:=d3.c1;have IL:bV .u64 (ak rev+ak 1)=ak (rev+1):=sC (by omega);obtain⟨x,hx⟩:∃x,x=dP op.key (dg (rev+1) (L0++R)):=⟨_,rfl⟩;have lk:=(pO d3.mp op.key).2;have S7:=(pO (d3.mp.bU ((iw.refl h3 []).new 91 [.int .u64 (.ofNat 0),.int .u64 (.ofNat 0),.str [],.str [],.int .u64 (.ofNat 0),.int .u64 (.ofNat 0),.int .u64 (.ofNat 0),.bool false]) (by simp)) op.key).2;rw[←hx]at lk S7 ⊢;obtain⟨h4,dm,o4,x4,z0,z1,z2,z3,z4,z5,z6,z7,-⟩:=rK h3 (x.getD Db);have rJ:=(f_.t o3).t o4;have d4:=d3.bU o4;have n1:(bd=h3.nx)=False:=by simp;omega
 have n2:(h0.nx=h3.nx)=False:=by simp;omega
 have A4:=gC (gC (bj.m5 a0 a1 a2 a3 a4) o3 (by omega) (by simp)) o4 (by omega) (by simp);have vS:=kw (kw w4 o3 (by omega) (by simp)) o4 (by omega) (by simp);have K4:=gC (bj.m5 k0 k1 k2 k3 k4) o4 (by omega) (by simp);have wk4:=kw wk o4 (by omega) (by simp);have Y4':=gC Y3' o4 (by omega) (by simp);have Dc:∀c,bA w=some c→c<h0.nx:=fun c e=>(d.gr.base e).2;unfold Rec.cs at lk S7;cases x with
 |none=>
  refine bn (fn:=Tryz.f59) (c:=bD Tryz.f59) Tryz.func59 rfl ?_;show bB P 59 54 none _ _ _ _ _;refine bp ?_;repeat' (first|(with_reducible refine rB [1,1,1,1] ?_)|((with_reducible refine gh ?_);(conv =>whnf);(with_reducible refine⟨?_⟩))|((with_reducible refine fh ?_ rfl rfl ?_ ?_);exact rfl;kernel_rfl;(conv =>arg 5;whnf);(conv =>arg 3;whnf))|((with_reducible refine bE rfl ?_);(conv =>arg 2;whnf))|((with_reducible first|refine iB ?_ ?_|refine g_ ?_ ?_|refine hP ?_ ?_|refine pL ?_ ?_|refine pM ?_ ?_)<;>intro hb<;>(try simp only[hb]))|((with_reducible show cU _ _ _ _ _ _ _ _ _);first|((with_reducible refine fj ?_ ?_);exact rfl)|((with_reducible apply fm);exact rfl;exact rfl)|((with_reducible refine fo ?_ ?_ ?_);exact rfl;kernel_rfl)|((with_reducible apply fp);exact rfl;exact rfl)|((with_reducible refine fq ?_ ?_ ?_ ?_ ?_);exact rfl;kernel_rfl;exact rfl)|((with_reducible apply ft);exact rfl;kernel_rfl;exact rfl)|((with_reducible refine fi ?_ ?_)))|((with_reducible show il _ _ _ _ _ _);first|(exact cK)|(refine eB ?_ ?_ ?_;exact rfl)|(apply eC;exact rfl;exact rfl)|(refine eD ?_ ?_ ?_ ?_;exact rfl;kernel_rfl)|(apply eF;exact rfl)|(apply eE;exact rfl;exact rfl))|((with_reducible refine bX ?_);kernel_rfl)|(simp only[B,xB,F,ab,ae,af,ag,ah,ai, ↓reduceIte,eq_self,bx,cJ,Y0,Y1,Y2,Y3,Y4,Y5,Y6,Y7,Y8,c0,m1,IL,cB,C1,Z0,Z1,Z2,Z3,Z4,Z5,Z6,Z7,Z8,@fb,lk,S7,dm,n1,n2,Option.isSome_none]))
  refine⟨?_⟩;exact F9 h0 h4 bd bm ro base L0 v0 rev comp R w d4 rJ op none .bh h1.nx h2.nx hr hz A4 vS K4 (by omega) (by omega) (by omega) (by omega) l4 Dc (by unfold oW;cases op.prev<;>exact .none) (fun c e=>by cases e) rfl rfl _ (by exact sT) (by exact sT) (by exact sT)
 | some r=>
  simp only[Option.getD_some]at lk S7 dm z0 z1 z2 z3 z4 z5 z6 z7;obtain⟨q0,q1,q2,q3,q4⟩:=K4.u5;have K5a:=K4.put wk4 (j:=2) (by simp) (.int .u64 (.ofNat r.kv.iC));obtain⟨h5,eL⟩:∃h5,h5=(h4.cm h2.nx 2 [.int .u64 (.ofNat r.kv.iC)]).cm h2.nx 4 [.int .u64 (.ofNat (IN r.kv.im))]:=⟨_,rfl⟩;have K5:=K5a.put (by rw[bN];exact wk4) (j:=4) (by simp) (.int .u64 (.ofNat (IN r.kv.im)));rw[al,al,←eL]at K5;have o5:Og h4 h5 [h2.nx]:=by rw[eL];exact((Og.refl _ _).cm (.inl (by simp))).cm (.inl (by simp))
  have F_:Og h0 h5 []:=by rw[eL];exact(rJ.cm (.inr (by omega))).cm (.inr (by omega))
  have x5:h5.nx=h4.nx:=by rw[eL,bI,bI]
  have A5:=gC A4 o5 (by omega) (by simp;omega);have O1:=kw vS o5 (by omega) (by simp;omega);obtain⟨b0,b1,b2,b3,b4⟩:=A5.u5;have Z45:=gC (bj.m8 z0 z1 z2 z3 z4 z5 z6 z7) o5 (by omega) (by simp;omega);obtain⟨s0,s1,s2,s3,s4,s5,s6,s7⟩:=Z45.u8;obtain⟨X0,X1,X2,X3,X4,X5,X6,X7,X8⟩:=(gC Y4' o5 (by omega) (by simp;omega)).u9;have vw:=Rz r.kv.im;have kd:∀c,c<h4.nx→c≠h2.nx→h5.t.get c=h4.t.get c:=fun c hc hn=>o5.1.2 c hc (by simp[hn]);have d5:nC h5 bd bm ro base L0 v0 rev comp R w:=by
   have g:∀c,c<h0.nx→h5.t.get c=h4.t.get c:=fun c hc=>kd c (by omega) (by omega);exact⟨by rw[bo (g bd (by omega))];exact d4.c0,by rw[bo (g bd (by omega))];exact d4.c1,by rw[bo (g bd (by omega))];exact d4.c2,by rw[bC (g bd (by omega))];exact d4.wr,d4.md.bU (by omega) (g bm (by omega)) (fun c e=>g c (by have:=d.nv c e;omega)),d4.mp.get (by omega) (g ro (by omega)),d4.gr.bG (by omega) (fun c e=>g c (Dc c e)),l1,l2,l3,by omega,d.nv⟩
  cases qp:op.prev with
  |false=>
   rw[qp]at X8;refine bn (fn:=Tryz.f59) (c:=bD Tryz.f59) Tryz.func59 rfl ?_;show bB P 59 54 none _ _ _ _ _;refine bp ?_;repeat' (first|(with_reducible refine rB [1,1,1,1] ?_)|((with_reducible refine gh ?_);(conv =>whnf);(with_reducible refine⟨?_⟩))|((with_reducible refine fh ?_ rfl rfl ?_ ?_);exact rfl;kernel_rfl;(conv =>arg 5;whnf);(conv =>arg 3;whnf))|((with_reducible refine bE rfl ?_);(conv =>arg 2;whnf))|((with_reducible first|refine iB ?_ ?_|refine g_ ?_ ?_|refine hP ?_ ?_|refine pL ?_ ?_|refine pM ?_ ?_)<;>intro hb<;>(try simp only[hb]))|((with_reducible show cU _ _ _ _ _ _ _ _ _);first|((with_reducible refine fj ?_ ?_);exact rfl)|((with_reducible apply fm);exact rfl;exact rfl)|((with_reducible refine fo ?_ ?_ ?_);exact rfl;kernel_rfl)|((with_reducible apply fp);exact rfl;exact rfl)|((with_reducible refine fq ?_ ?_ ?_ ?_ ?_);exact rfl;kernel_rfl;exact rfl)|((with_reducible apply ft);exact rfl;kernel_rfl;exact rfl)|((with_reducible refine fi ?_ ?_)))|((with_reducible show il _ _ _ _ _ _);first|(exact cK)|(refine eB ?_ ?_ ?_;exact rfl)|(apply eC;exact rfl;exact rfl)|(refine eD ?_ ?_ ?_ ?_;exact rfl;kernel_rfl)|(apply eF;exact rfl)|(apply eE;exact rfl;exact rfl))|((with_reducible refine bX ?_);kernel_rfl)|(simp only[B,xB,F,ab,ae,af,ag,ah,ai, ↓reduceIte,eq_self,bx,cJ,Y0,Y1,Y2,Y3,Y4,Y5,Y6,Y7,Y8,c0,m1,IL,cB,C1,Z0,Z1,Z2,Z3,Z4,Z5,Z6,Z7,Z8,@fb,lk,S7,dm,n1,n2,aX,z0,z1,z2,z3,z4,z5,z6,z7,vw,q2,q4,wk4,←eL,X8]))
   refine⟨?_⟩;exact F9 h0 h5 bd bm ro base L0 v0 rev comp R w d5 F_ op (some r) .bh h1.nx h2.nx hr hz A5 O1 K5 (by omega) (by omega) (by omega) (by omega) l4 Dc (by unfold oW;rw[qp];exact .none) (fun c e=>by cases e) rfl rfl _ (by exact sT) (by exact sT) (by exact sT)
  | true=>
   rw[qp]at X8;obtain⟨h6,kO⟩:∃h6,h6=h5.bq 83 [.str r.kv.key,.str r.kv.val,.int .u64 (.ofNat r.kv.iC),.int .u64 (.ofNat r.kv.mod),.int .u64 (.ofNat r.kv.im)]:=⟨_,rfl⟩;have o6:Og h5 h6 []:=by rw[kO];exact(Og.refl _ _).new _ _
   have x6:h6.nx=h5.nx+1:=by rw[kO];rfl
   have A6:=gC A5 o6 (by omega) (by simp);have w46:=kw O1 o6 (by omega) (by simp);have S6:br h6 (.slice h5.nx 0 1 (.exact 1)) 1 r.kv.cs:=.cell _ _ _ _ _ (by omega) (by rw[kO];exact bj.new h5 83 r.kv.cs);obtain⟨h7,rR⟩:∃h7,h7=h6.cm h1.nx 4 [.slice h5.nx 0 1 (.exact 1)]:=⟨_,rfl⟩;have o7:Og h6 h7 [h1.nx]:=by rw[rR];exact(Og.refl _ _).cm (.inl (by simp))
   have x7:h7.nx=h6.nx:=by rw[rR,bI]
   have A7:=A6.put w46 (j:=4) (by simp) (.slice h5.nx 0 1 (.exact 1));rw[al,←rR]at A7;have Zp:cj h7 h1.nx=true:=by rw[rR,bN];exact w46
   have o67:Og h5 h7 [h1.nx]:=o6.s1 o7;have WL:Og h0 h7 []:=by rw[rR];exact(F_.t o6).cm (.inr (by omega))
   obtain⟨e0,e1,e2,e3,e4⟩:=A6.u5;have d7:nC h7 bd bm ro base L0 v0 rev comp R w:=by
    have g:∀c,c<h0.nx→h7.t.get c=h5.t.get c:=fun c hc=>o67.1.2 c (by omega) (by simp;omega);exact⟨by rw[bo (g bd (by omega))];exact d5.c0,by rw[bo (g bd (by omega))];exact d5.c1,by rw[bo (g bd (by omega))];exact d5.c2,by rw[bC (g bd (by omega))];exact d5.wr,d5.md.bU (by omega) (g bm (by omega)) (fun c e=>g c (by have:=d.nv c e;omega)),d5.mp.get (by omega) (g ro (by omega)),d5.gr.bG (by omega) (fun c e=>g c (Dc c e)),l1,l2,l3,by omega,d.nv⟩
   refine bn (fn:=Tryz.f59) (c:=bD Tryz.f59) Tryz.func59 rfl ?_;show bB P 59 54 none _ _ _ _ _;refine bp ?_;repeat' (first|(with_reducible refine rB [1,1,1,1] ?_)|((with_reducible refine gh ?_);(conv =>whnf);(with_reducible refine⟨?_⟩))|((with_reducible refine fh ?_ rfl rfl ?_ ?_);exact rfl;kernel_rfl;(conv =>arg 5;whnf);(conv =>arg 3;whnf))|((with_reducible refine bE rfl ?_);(conv =>arg 2;whnf))|((with_reducible first|refine iB ?_ ?_|refine g_ ?_ ?_|refine hP ?_ ?_|refine pL ?_ ?_|refine pM ?_ ?_)<;>intro hb<;>(try simp only[hb]))|((with_reducible show cU _ _ _ _ _ _ _ _ _);first|((with_reducible refine fj ?_ ?_);exact rfl)|((with_reducible apply fm);exact rfl;exact rfl)|((with_reducible refine fo ?_ ?_ ?_);exact rfl;kernel_rfl)|((with_reducible apply fp);exact rfl;exact rfl)|((with_reducible refine fq ?_ ?_ ?_ ?_ ?_);exact rfl;kernel_rfl;exact rfl)|((with_reducible apply ft);exact rfl;kernel_rfl;exact rfl)|((with_reducible refine fi ?_ ?_)))|((with_reducible show il _ _ _ _ _ _);first|(exact cK)|(refine eB ?_ ?_ ?_;exact rfl)|(apply eC;exact rfl;exact rfl)|(refine eD ?_ ?_ ?_ ?_;exact rfl;kernel_rfl)|(apply eF;exact rfl)|(apply eE;exact rfl;exact rfl))|((with_reducible refine bX ?_);kernel_rfl)|(simp only[B,xB,F,ab,ae,af,ag,ah,ai, ↓reduceIte,eq_self,bx,cJ,Y0,Y1,Y2,Y3,Y4,Y5,Y6,Y7,Y8,c0,m1,IL,cB,C1,Z0,Z1,Z2,Z3,Z4,Z5,Z6,Z7,Z8,@fb,lk,S7,dm,n1,n2,aX,z0,z1,z2,z3,z4,z5,z6,z7,vw,q2,q4,wk4,←eL,X8,s0,s1,s2,s3,s4,s5,s6,s7,←kO,e4,w46,←rR]))
   refine⟨?_⟩;refine F9 h0 h7 bd bm ro base L0 v0 rev comp R w d7 WL op (some r) (.slice h5.nx 0 1 (.exact 1)) h1.nx h2.nx hr hz A7 Zp (gC K5 o67 (by omega) (by simp;omega)) (by omega) (by omega) (by omega) (by omega) l4 Dc ?_ (fun c e=>by cases e;exact⟨by omega,by omega,by omega⟩) rfl rfl _ (by exact sT) (by exact sT) (by exact sT);have e:(oW op (some r)).prev=[r.kv]:=by unfold oW;rw[qp];rfl
   rw[e,aF];exact S6.move (by omega) (fun c e=>by cases e;exact o7.1.2 h5.nx (by omega) (by simp;omega))
def iU(rev:Nat)(R:List Rec)(x:KV):List Rec:=R++[rO rev R ⟨x.key,[],0,0,0⟩ true]
def fx(rev:Nat)(R:List Rec)(l:List KV):List Rec:=l.foldl (iU rev) R
theorem IP{rev:Nat}{R:List Rec}{l:List KV}{i:Nat}{x:KV}(h:l[i]? =some x):fx rev R (l.take (i+1))=iU rev (fx rev R (l.take i)) x:=by
 unfold fx;rw[aB,h,aG];rfl
theorem pQ(rev:Nat):∀(l:List KV)(R:List Rec),(fx rev R l).length=R.length+l.length
 |[],R=>rfl
 |x::l,R=>by
  have:=pQ rev l (iU rev R x);show(fx rev (iU rev R x) l).length=_;rw[this];unfold iU;simp;omega
def rS(op:Op)(l:List KV):nz:=⟨[],false,0,l.length,if op.prev then l else[]⟩
structure DrI(hA:H)(bd bm ro base:Nat)(L0:List Rec)(v0:AV)(rev comp:Nat)(R:List Rec)(w:AV)(l:List KV)(v:AV)(b4:Nat)(m:Nat)(ds:List Nat)(tm:T AV)(h:H)(i:Nat)(w':AV):Prop where
 ds:ds=[]
 nn:m=l.length-i
 ii:i≤l.length
 t0:tm.get 0=some (.ptr bd 0)
 t4:tm.get 4=some (.ptr b4 0)
 t24:tm.get 24=some v
 t25:tm.get 25=some (.int .i64 (.ofNat l.length))
 t26:tm.get 26=some (.int .i64 (.ofNat i))
 d:nC h bd bm ro base L0 v0 rev comp (fx rev R (l.take i)) w'
 k:O2 hA h bd ro w w'
theorem IQ(h0 hA:H)(bd bm ro base:Nat)(L0:List Rec)(v0:AV)(rev comp:Nat)(R:List Rec)(w:AV)(d:nC hA bd bm ro base L0 v0 rev comp R w)(oo:Og h0 hA [])(op:Op)(l:List KV)(v p:AV)(b4:Nat)(hr:rev≤1000000)(hz:R.length+l.length≤1000000)
  (A:bj hA b4 0 [.bh,.bool false,.int .i64 (.ofNat 0),.int .i64 (.ofNat l.length),p])(w4:cj hA b4=true)(l4:h0.nx≤b4)(l5:b4<hA.nx)(lb:base≤h0.nx)(hw:∀c,bA w=some c→c<h0.nx)
  (vs:br hA v l.length (l.flatMap KV.cs))(vb:∀c,bA v=some c→h0.nx≤c∧c<hA.nx∧c≠b4)(vo:v.one=true)(hp:p=if op.prev then v else .bh)(pc:p.cells=[p])(tm:T AV)(t0:tm.get 0=some (.ptr bd 0))(t4:tm.get 4=some (.ptr b4 0))(t5:tm.get 5=some v):
  bB P 60 37 none (bL (bD Tryz.f60) [1,1,1,1]) [] tm hA (nc P Tryz.f60 fun u h'=>∃p w',uf h0 h' bd bm ro base L0 v0 rev comp w (fx rev R l) (rS op l) u w' .bh p):=by
 have l1:=d.l1;have l2:=d.l2;have l3:=d.l3;have xo:=oo.1.1;have hlen:=vs.len (P:=P) zi;have po:p.one=true:=by rw[hp];split;exact vo;rfl
 refine rN ?_ (V t0<|V t4<|V t5<|hlen);refine cn (fun m ds tm h=>∃i w',DrI hA bd bm ro base L0 v0 rev comp R w l v b4 m ds tm h i w') l.length rfl ⟨0,w,rfl,rfl,aq _,by exact sT,by exact sT,by exact sT,by exact sT,by exact sT,d,O2.og (Og.refl _ _) _ _ _⟩ (fun m ds tm h hI=>?_);clear t0 t4 t5;obtain⟨i,w',rfl,rfl,ii,t0,t4,t24,t25,t26,d',k⟩:=hI;have xk:=k.nx;have kk:∀c,c<hA.nx→h0.nx≤c→h.t.get c=hA.t.get c:=fun c hc hc0=>k.old c hc (by omega) (by omega) (fun e=>by have:=hw c e;omega);by_cases hi:i<l.length
 ·have di:decide (i<l.length)=true:=decide_eq_true hi
  have dX:(i<l.length)=True:=by simp[hi]
  obtain⟨x,hx⟩:∃x,l[i]? =some x:=⟨_,an hi⟩;have vsh:=vs.move xk (fun c e=>kk c (vb c e).2.1 (vb c e).1);have w1:bV .i64 (ak i+ak 1)=ak (i+1):=cq (by omega);obtain⟨bv,ov,cv,rfl,qw,-⟩:=vsh.place (by omega);obtain⟨q0,q1,q2,q3,q4⟩:=KV.at vsh hx;obtain⟨h2,cJ,o2,x2,y0,y1,y2,y3,y4,wy⟩:=B7 h x;have zo:=pQ rev (l.take i) R;rw[aD]at zo;refine rN ?_ (V t0<|V t4<|V t24<|V t25<|V t26<|V di<|V dX<|V q0<|V q1<|V q2<|V q3<|V q4<|V cJ<|y0);refine((WJ h2 bd bm ro base L0 v0 rev comp _ w' (d'.bU o2) ⟨x.key,[],0,0,0⟩ true hr (by omega)).call P).mono P ?_;rintro _ h3 ⟨rfl,w3,d3,k3⟩;refine rN ?_ (V t26<|w1);exact⟨l.length-(i+1),by omega,i+1,w3,rfl,rfl,by omega,by exact sT,by exact sT,by exact sT,by exact sT,by exact sT,by rw[IP hx];exact d3,k.t ((O2.og o2 _ _ _).t k3)⟩
 ·have di:decide (i<l.length)=false:=decide_eq_false hi
  obtain rfl:i=l.length:=by omega
  rw[aA]at d';have A2:=A.bG (kk b4 l5 l4);obtain⟨a0,a1,a2,a3,a4⟩:=A2.u5;have ug:cj h b4=true:=by rw[bC (kk b4 l5 l4)];exact w4
  obtain⟨h3,cB⟩:∃h3,h3=h.cm b4 0 [.bh,.bool false,.int .i64 (.ofNat 0),.int .i64 (.ofNat l.length),p]:=⟨_,rfl⟩;have B3:bj h3 b4 0 [.bh,.bool false,.int .i64 (.ofNat 0),.int .i64 (.ofNat l.length),p]:=by rw[cB];exact bj.cm ug _
  obtain⟨e0,e1,e2,e3,e4⟩:=B3.u5;have o3:Og h h3 [b4]:=by rw[cB];exact(Og.refl _ _).cm (.inl (by simp))
  have x3:h3.nx=h.nx:=by rw[cB,bI]
  have nw:=k.nw;have w4b:∀c,bA w'=some c→c<h0.nx∨hA.nx≤c:=fun c e=>by
   rcases nw c e with q|q
   ·exact .inl (hw c q)
   ·exact .inr q
  have k3:∀c,c<h.nx→c≠b4→h3.t.get c=h.t.get c:=fun c hc hn=>o3.1.2 c hc (by simp[hn]);refine rN ?_ (V t0<|V t4<|V t24<|V t25<|V t26<|V di<|V a0<|V a1<|V a2<|V a3<|V a4<|V ug<|V po<|V pc<|V cB.symm<|V e0<|V e1<|V e2<|V e3<|e4);have d3:nC h3 bd bm ro base L0 v0 rev comp (fx rev R l) w':=by
   have g:∀c,c<h0.nx→h3.t.get c=h.t.get c:=fun c hc=>k3 c (by omega) (by omega);exact⟨by rw[bo (g bd (by omega))];exact d'.c0,by rw[bo (g bd (by omega))];exact d'.c1,by rw[bo (g bd (by omega))];exact d'.c2,by rw[bC (g bd (by omega))];exact d'.wr,d'.md.bU (by omega) (g bm (by omega)) (fun c e=>g c (by have:=d.nv c e;omega)),d'.mp.get (by omega) (g ro (by omega)),d'.gr.bG (by omega) (fun c e=>k3 c (d'.gr.base e).2 (fun e2=>by rcases w4b c e with q|q<;>omega)),l1,l2,l3,by omega,d.nv⟩
  have hpb:∀c,bA p=some c→h0.nx≤c∧c<hA.nx∧c≠b4:=fun c e=>by
   rw[hp]at e;split at e
   ·exact vb c e
   ·cases e
  refine⟨p,w',rfl,.none,?_,fun c e=>(by cases e),fun c e=>⟨(hpb c e).1,fun e2=>by have:=hpb c e;rcases w4b c e2 with q|q<;>omega⟩,rfl,po,d3,?_⟩
  ·have vs3:=vs.move (h':=h3) (by omega) (fun c e=>by rw[k3 c (by have:=vb c e;omega) (vb c e).2.2,kk c (vb c e).2.1 (vb c e).1])
   rw[hp];unfold rS;simp only;split
   ·exact vs3
   ·exact .none
  ·refine⟨by omega,fun c hc h1 Cy Rw=>?_,fun c e=>?_,?_⟩
   ·rw[k3 c (by omega) (by omega),k.old c (by omega) h1 Cy Rw,oo.1.2 c hc (by simp)]
   ·rcases nw c e with q|q
    ·exact .inl q
    ·exact .inr (by omega)
   ·rw[o3.2,k.g,oo.2]
theorem dropC(h0:H)(bd bm ro base:Nat)(L0:List Rec)(v0:AV)(rev comp:Nat)(R:List Rec)(w:AV)(d:nC h0 bd bm ro base L0 v0 rev comp R w)(op:Op)(hr:rev≤1000000)(hs:dI L0)(O3:dI R)(hz:L0.length≤200000)(WK:R.length≤200000):
  bW P (.enter 60 [.ptr bd 0,.agg op.cs] h0) fun v h'=>∃p w',uf h0 h' bd bm ro base L0 v0 rev comp w (fx rev R (ny (dg (rev+1) (L0++R)) op.key op.fin)) (rS op (ny (dg (rev+1) (L0++R)) op.key op.fin)) v w' .bh p:=by
 have l1:=d.l1;have l2:=d.l2;have l3:=d.l3;have l4:=d.l4;obtain⟨h1,cC,o1,x1,y0,y1,y2,y3,y4,y5,y6,y7,y8⟩:=B8 h0 op;obtain⟨h2,cJ,o2,x2,w4,a0,a1,a2,a3,a4⟩:=ue h1;have f_:=o1.t o2;have bx:=bxO h0 op;rw[cC]at bx;have Y:=gC (show bj h1 h0.nx 0 op.cs from .m9 y0 y1 y2 y3 y4 y5 y6 y7 y8) o2 (by omega) (by simp);obtain⟨Y0,Y1,Y2,Y3,Y4,Y5,Y6,Y7,Y8⟩:=Y.u9;have d2:=d.bU f_;have c1:=d2.c1;have hso:dI (L0++R):=fun r hr=>by rcases List.mem_append.1 hr with q|q;exact hs r q;exact O3 r q
 have pV:=rQ (main:=rev+1) hso;have vln:=lE (main:=rev+1) hso;rw[aE]at vln;have Dc:∀c,bA w=some c→c<h0.nx:=fun c e=>(d.gr.base e).2;have A0:=bj.m5 a0 a1 a2 a3 a4;refine bn (fn:=Tryz.f60) (c:=bD Tryz.f60) Tryz.func60 rfl ?_;show bB P 60 37 none _ _ _ _ _;refine bp ?_;refine rT ?_ (V bx<|V cJ<|V c1<|V Y0<|V Y1<|V Y2<|V Y3<|V Y4<|V Y5<|V Y6<|V Y7<|Y8);refine((zA h2 ro _ op.key op.fin d2.mp pV.nd (by omega) (fun p hp=>(pV.ky p hp).2)).call P).mono P ?_;rintro v h3 ⟨o3,g3⟩;obtain⟨l,hl⟩:∃l,l=ny (dg (rev+1) (L0++R)) op.key op.fin:=⟨_,rfl⟩;have hll:l.length≤500000:=by rw[hl];have:=lF (dg (rev+1) (L0++R)) op.key op.fin;omega
 rw[←hl]at g3 ⊢;have S3:=g3.one;have g3c:=g3.cells;have hlen:=g3.slice.len (P:=P) zi;have Dd:=(d2.bU o3).c1;have A3:=gC A0 o3 (by omega) (by simp);have qy:=kw w4 o3 (by omega) (by simp);have Y3:=gC Y o3 (by omega) (by simp);obtain⟨Z0,Z1,Z2,Z3,Z4,Z5,Z6,Z7,Z8⟩:=Y3.u9;obtain⟨b0,b1,b2,b3,b4⟩:=A3.u5;obtain⟨h4,dm⟩:∃h4,h4=h3.cm h1.nx 3 [.int .i64 (.ofNat l.length)]:=⟨_,rfl⟩;have A4:=A3.put qy (j:=3) (by simp) (.int .i64 (.ofNat l.length));rw[al,←dm]at A4;have o4:Og h3 h4 [h1.nx]:=by rw[dm];exact(Og.refl _ _).cm (.inl (by simp))
 have x4:h4.nx=h3.nx:=by rw[dm,bI]
 have x3:=o3.1.1;have vS:cj h4 h1.nx=true:=by rw[dm,bN];exact qy
 obtain⟨e0,e1,e2,e3,e4⟩:=A4.u5;obtain⟨X0,X1,X2,X3,X4,X5,X6,X7,X8⟩:=(gC Y3 o4 (by omega) (by simp;omega)).u9;have rJ:Og h0 h4 []:=by rw[dm];exact(f_.t o3).cm (.inr (by omega))
 have d4:nC h4 bd bm ro base L0 v0 rev comp R w:=d.bU rJ;have vb:∀c,bA v=some c→h2.nx≤c∧c<h3.nx:=fun c e=>g3.base e;cases qp:op.prev with
 |false=>
  rw[qp]at X8;refine rTs ?_ (@sc [1,1,1,1]) (V Dd<|V Z0<|V Z1<|V Z2<|V Z3<|V Z4<|V Z5<|V Z6<|V Z7<|V Z8<|V S3<|V g3c<|V hlen<|V b3<|V qy<|V dm.symm<|X8);refine⟨?_⟩;exact IQ h0 h4 bd bm ro base L0 v0 rev comp R w d4 rJ op l v .bh h1.nx hr (by omega) A4 vS (by omega) (by omega) l4 Dc (g3.slice.move (by omega) (fun c e=>o4.1.2 c (vb c e).2 (by have:=vb c e;simp;omega))) (fun c e=>by have:=vb c e;exact⟨by omega,by omega,by omega⟩) S3 (by rw[qp];rfl) rfl _ (by exact sT) (by exact sT) (by exact sT)
 |true=>
  rw[qp]at X8;obtain⟨h5,eL⟩:∃h5,h5=h4.cm h1.nx 4 [v]:=⟨_,rfl⟩;have A5:=A4.put vS (j:=4) (by simp) v;rw[al,←eL]at A5;have o5:Og h4 h5 [h1.nx]:=by rw[eL];exact(Og.refl _ _).cm (.inl (by simp))
  have x5:h5.nx=h4.nx:=by rw[eL,bI]
  have O1:cj h5 h1.nx=true:=by rw[eL,bN];exact vS
  have F_:Og h0 h5 []:=by rw[eL];exact rJ.cm (.inr (by omega))
  refine rTs ?_ (@sc [1,1,1,1]) (V Dd<|V Z0<|V Z1<|V Z2<|V Z3<|V Z4<|V Z5<|V Z6<|V Z7<|V Z8<|V S3<|V g3c<|V hlen<|V b3<|V qy<|V dm.symm<|V X8<|V e4<|V vS<|eL.symm);refine⟨?_⟩;exact IQ h0 h5 bd bm ro base L0 v0 rev comp R w (d.bU F_) F_ op l v v h1.nx hr (by omega) A5 O1 (by omega) (by omega) l4 Dc (g3.slice.move (by omega) (fun c e=>by have:=vb c e;rw[o5.1.2 c (by omega) (by simp;omega),o4.1.2 c (by omega) (by simp;omega)])) (fun c e=>by have:=vb c e;exact⟨by omega,by omega,by omega⟩) S3 (by rw[qp];rfl) g3c _ (by exact sT) (by exact sT) (by exact sT)
theorem IS{tm:T AV}{h:H}(t:TypeId)(x a b:Operand):bF P tm h (.slice t x none (some a) (some b))=ob (bP tm x) fun v=>ob (bP tm a) fun l=>ob (bP tm b) fun r=>ob (dF P t v none (some l) (some r)) fun v=>.val v h:=by
 simp only[bF,kI];cases bP tm x with
 |none=>cases bP tm a<;>cases bP tm b<;>rfl
 | some v=>cases bP tm a with
  |none=>cases bP tm b<;>rfl
  |some l=>cases bP tm b with
   |none=>rfl
   |some r=>show eM h (dF P t v none (some l) (some r))=ob (dF P t v none (some l) (some r)) _;cases dF P t v none (some l) (some r)<;>rfl
theorem Uy(b n:Nat):dF P 60 (.slice b 0 n (.iK 0)) none (some (.int .i64 (.ofNat n))) (some (.int .i64 (.ofNat n)))=some (.slice b 0 n (.exact n)):=by
 simp only[dF,jl,show eQ P 91=true from by kernel_rfl,jz,j0,CA,tE (ao n)];cases Nat.beq n 0<;>rfl
theorem clipC(h:H)(b0:Nat)(v:AV)(n:Nat)(cs:List AV)(g:bK 8 b0 h v n cs):bW P (.enter 61 [v] h) (fun u h'=>h'=h∧((n=0∧v= .bh∧u= .bh)∨(∃b,v= .slice b 0 n (.iK 0)∧u= .slice b 0 n (.exact n)))):=by
 have hlen:=g.slice.len (P:=P) jl;have j7:=g.one;cases g with
 |none=>
  have e:dF P 60 .bh none (some (.int .i64 (.ofNat 0))) (some (.int .i64 (.ofNat 0)))=some .bh:=by kernel_rfl
  refine bn (fn:=Tryz.f61) (c:=bD Tryz.f61) Tryz.func61 rfl ?_;show bB P 61 9 none _ _ _ _ _;refine bp ?_;refine rN ?_ (V hlen<|V j7<|V @IS<|e);exact .inl trivial
 |cell b n cs t ty h1 h2 h3 h4 h5=>
  have e:=Uy b n;refine bn (fn:=Tryz.f61) (c:=bD Tryz.f61) Tryz.func61 rfl ?_;show bB P 61 9 none _ _ _ _ _;refine bp ?_;refine rN ?_ (V hlen<|V j7<|V @IS<|e);exact .inr ⟨b,rfl,rfl⟩
def jm(W:View)(c:iD):Bool:= !kj c (gu c.key W) (dP c.key W).isSome
theorem Zq(h0:H)(b5 bd ro:Nat)(W:View)(c:iD)(k5:cellAt h0 b5 0=some (.ptr bd 0))(k1:cellAt h0 bd 1=some (.map ro))(mp:fu encS h0 ro (mR W))(l5:b5<h0.nx)(ld:bd<h0.nx):
  bW P (.enter 54 [.agg c.cs,.ptr b5 0] h0) (cQ h0 (.bool (jm W c))):=by
 obtain⟨h1,cC⟩:∃h1,h1=h0.bq 68 c.cs:=⟨_,rfl⟩;have o1:Og h0 h1 []:=by rw[cC];exact(Og.refl _ _).new _ _
 have x1:h1.nx=h0.nx+1:=by rw[cC];rfl
 have bx:=bxC h0 c;rw[←cC]at bx;have Y:bj h1 h0.nx 0 [.str c.key,.int .i64 c.np,.int .i64 c.hY,.int .u64 (.ofNat c.n),.str c.val]:=by rw[cC];exact bj.new h0 68 c.cs
 obtain⟨y0,y1,y2,y3,y4⟩:=Y.u5;have k51:=kc k5 o1 l5 (by simp);have k11:=kc k1 o1 ld (by simp);have m1:=mp.bU o1.1 (by simp);have lk:=(pO m1 c.key).2;have S7:=(pO (m1.bU ((iw.refl h1 []).new 91 [.int .u64 (.ofNat 0),.int .u64 (.ofNat 0),.str [],.str [],.int .u64 (.ofNat 0),.int .u64 (.ofNat 0),.int .u64 (.ofNat 0),.bool false]) (by simp)) c.key).2;obtain⟨x,hx⟩:∃x,x=(dP c.key W).getD Db:=⟨_,rfl⟩;obtain⟨is,his⟩:∃is,is=(dP c.key W).isSome:=⟨_,rfl⟩;have sQ:gu c.key W=x.kv:=by rw[B6,hx]
 have ef:jm W c= !kj c x.kv is:=by unfold jm;rw[sQ,his]
 rw[←hx,←his]at lk S7;rw[ef];obtain⟨h2,cJ,o2,x2,z0,z1,z2,z3,z4,z5,z6,z7,-⟩:=rK h1 x;obtain⟨Y0,Y1,Y2,Y3,Y4⟩:=(gC Y o2 (by omega) (by simp)).u5;have n1:(b5=h1.nx)=False:=by simp;omega
 have n2:(bd=h1.nx)=False:=by simp;omega
 have n3:(h0.nx=h1.nx)=False:=by simp;omega
 unfold Rec.cs at lk S7;refine bn (fn:=Tryz.f54) (c:=bD Tryz.f54) Tryz.func54 rfl ?_;show bB P 54 22 none _ _ _ _ _;refine bp ?_;refine rT ?_ (V bx<|V k51<|V k11<|V y0<|V y1<|V y2<|V y3<|V y4<|V @fb<|V lk<|V S7<|V cJ<|V n1<|V n2<|V n3<|V Y0<|V Y1<|V Y2<|V Y3<|V Y4<|V z0<|V z1<|V z2<|V z3<|V z4<|V z5<|V z6<|z7);refine((Zc h2 c x.kv is).call P).mono P ?_;rintro _ h3 ⟨rfl,o3⟩;refine rT0 ?_;exact⟨rfl,(o1.t o2).t o3⟩
end
end Go.Proofs.YtnedigoajoflaaaGreat.M
