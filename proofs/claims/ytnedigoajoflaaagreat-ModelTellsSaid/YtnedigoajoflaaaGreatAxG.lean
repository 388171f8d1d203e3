/-
  AX: walks: what is so of a frame at work, whatever is below it.
-/
import Derived.Test.YtnedigoajoflaaaGreatAxF
set_option linter.unusedSimpArgs false
set_option linter.unusedVariables false
set_option linter.unusedSectionVars false
set_option linter.defProp false
set_option maxHeartbeats 8000000
open Int renaming ofNat→ak
open Nat renaming eq_of_beq_eq_true→al,beq_refl→an,blt_eq→aq,beq→au
open Option renaming isNone→ao
open List renaming range'→aw
namespace Go.AX
noncomputable section
open Go.RowKit
def TB(b:Bool)(p q:Prop):Prop:=(b=true→p)∧(b=false→q)
@[simp] theorem AU{p q:Prop}:TB true p q=p:=by simp[TB]
@[simp] theorem wX{p q:Prop}:TB false p q=q:=by simp[TB]
section
variable(P:Program)
def rf(c:bY)(cs:List bY):R→Option S
 | .enter f args h=>match lX P f args .normal with
  |some fr=>some ⟨fr,c::cs,h⟩
  |none=>none
 | .round l args h=>match h.t.get l with
  |some (.loop r)=>match iA r.nt r.tm r.params args with
   |some tm=>some ⟨{fn:=r.fn,nt:=r.nt,tm,todo:=[.code r.assign,.beginRound,.code r.body],defers:=[],mode:=.run,kind:=.normal,roundOf:=some l},c::cs,h⟩
   |none=>none
  |_=>none
 |_=>none
def kK(s:S)(T:S→Prop):Prop:=
 ∀(N:NN)(w0:World)(bot:List Frame)(φ:cX)(fr:Frame)(cs:List Frame)(w:World),SR N w0 φ s fr cs w→∃s',T s'∧AI P N w0 bot φ fr cs w s'
theorem kK.oO{s s':S}{T:S→Prop}(h:Reach P s s')(ht:T s'):kK P s T:=fun N w0 bot φ fr cs w hs=>⟨s',ht,h N w0 bot φ fr cs w hs⟩
theorem kK.bind{s:S}{T U:S→Prop}(h:kK P s T)(k:∀s',T s'→kK P s' U):kK P s U:=fun N w0 bot φ fr cs w hs=>by
 obtain⟨s1,t1,N1,Ho,Xq,NT,w1,e1,l1,gh,sr1⟩:=h N w0 bot φ fr cs w hs;obtain⟨s2,t2,N2,Jw,fr2,P4,w2,e2,l2,st2,sr2⟩:=k s1 t1 N1 w0 bot Ho Xq NT w1 sr1;exact⟨s2,t2,N2,Jw,fr2,P4,w2,e2.trans e1,cX.le_trans l1 l2,Steps.trans gh st2,sr2⟩
theorem kK.mono{s:S}{T U:S→Prop}(h:kK P s T)(k:∀s',T s'→U s'):kK P s U:=fun N w0 bot φ fr cs w hs=>let⟨s1,t1,g⟩:=h N w0 bot φ fr cs w hs;⟨s1,k s1 t1,g⟩
def Ko(c:bY)(cs:List bY)(Q:AV→H→Prop)(s':S):Prop:=∃v h' c',Q v h'∧c.finish v=some c'∧s'=⟨c',cs,h'⟩
def bW(r:R)(Q:AV→H→Prop):Prop:=
 ∀(c:bY)(cs:List bY),(∀v,∃c',c.finish v=some c')→∃s0,rf P c cs r=some s0∧kK P s0 (Ko c cs Q)
def kL(r:R)(Q:AV→H→Prop):Prop:=
 bW P r Q∨(∃f args h K v h',r= .enter f args h∧eN P K∧K.call f args h=some (v,h')∧Q v h')
theorem bW.mono{r:R}{Q Q':AV→H→Prop}(hc:bW P r Q)(hq:∀v h,Q v h→Q' v h):bW P r Q':=
 fun c cs hf=>let⟨s0,a,d⟩:=hc c cs hf;⟨s0,a,d.mono P fun s' ⟨v,h',c',q,e1,e2⟩=>⟨v,h',c',hq _ _ q,e1,e2⟩⟩
theorem bW.call{r:R}{Q:AV→H→Prop}(hc:bW P r Q):kL P r Q:=.inl hc
def ExtC(f:FuncId)(args:List AV)(h:H)(Q:AV→H→Prop):Prop:=
 ∃K v h',eN P K∧K.ext f args h=some (v,h')∧Q v h'
theorem kL.mono{r:R}{Q Q':AV→H→Prop}(hc:kL P r Q)(hq:∀v h,Q v h→Q' v h):kL P r Q':=by
 rcases hc with hc|⟨f,args,h,K,v,h',e1,e2,e3,e4⟩
 ·exact .inl (hc.mono P hq)
 ·exact .inr ⟨f,args,h,K,v,h',e1,e2,e3,hq _ _ e4⟩
theorem kL.uY{K:lI}(hK:eN P K){f:FuncId}{args:List AV}{h h':H}{v:AV}{Q:AV→H→Prop}(hk:K.call f args h=some (v,h'))(hq:Q v h'):kL P (.enter f args h) Q:=
 .inr ⟨f,args,h,K,v,h',rfl,hK,hk,hq⟩
def jf(r:R)(K:AV→H→Prop):Prop:=
 match r with
 | .val v h=>K v h
 | .skip h=>K jd h
 | .enter f args h=>kL P (.enter f args h) K
 | .round l args h=>kL P (.round l args h) K
 | .ext f args h=>ExtC P f args h K
 |_=>False
@[simp] theorem LL(v:AV)(h:H)(K:AV→H→Prop):jf P (.val v h) K=K v h:=id rfl
@[simp] theorem Hv(h:H)(K:AV→H→Prop):jf P (.skip h) K=K jd h:=id rfl
@[simp] theorem DI(f:FuncId)(args:List AV)(h:H)(K:AV→H→Prop):jf P (.enter f args h) K=kL P (.enter f args h) K:=id rfl
@[simp] theorem DJ(l:Nat)(args:List AV)(h:H)(K:AV→H→Prop):jf P (.round l args h) K=kL P (.round l args h) K:=id rfl
@[simp] theorem LM(f:FuncId)(args:List AV)(h:H)(K:AV→H→Prop):jf P (.ext f args h) K=ExtC P f args h K:=id rfl
def lN(tm:T AV)(ops:Array Oper)(g:Option (Nat×Bool))(p q:Prop):Prop:=
 match g with
 |none=>p
 | some (j,want)=>match kJ ops j with
  |some d=>match tm.get d with
   |some (.bool b)=>TB (b==want) p q
   |some (.tuple [])=>q
   |_=>False
  |none=>False
@[simp] theorem Xv(tm:T AV)(ops:Array Oper)(p q:Prop):lN tm ops none p q=p:=rfl
def tT(nt:Nat)(ops:Array Oper):List Oper→T AV→H→(T AV→H→Prop)→Prop
 |[],tm,h,Q=>Q tm h
 |o::l,tm,h,Q=>lN tm ops o.guard (jf P (bF P tm h o.op) fun v h=>tT nt ops l (m_ nt tm o.dst v) h Q) (tT nt ops l (m_ nt tm o.dst jd) h Q)
def LN(nt:Nat)(ops:Array Oper)(d:Option Tmp)(l:List Oper)(tm:T AV)(Q:T AV→H→Prop)(v:AV)(h:H):Prop:=tT P nt ops l (m_ nt tm d v) h Q
theorem Hw(nt:Nat)(ops:Array Oper)(tm:T AV)(h:H)(Q:T AV→H→Prop):tT P nt ops [] tm h Q=Q tm h:=id rfl
theorem DK(nt:Nat)(ops:Array Oper)(o:Oper)(l:List Oper)(tm:T AV)(h:H)(Q:T AV→H→Prop):
  tT P nt ops (o::l) tm h Q=lN tm ops o.guard (jf P (bF P tm h o.op) (LN P nt ops o.dst l tm Q)) (LN P nt ops o.dst l tm Q jd h):=rfl
def mo(nt:Nat)(ops:Array Oper):List (Nat×Oper)→List (Nat×Oper×Nat)→T AV→H→(T AV→H→Prop)→Prop
 |[],early,tm,h,Q=>jB P nt tm h ops early=true∧Q tm h
 | (i,o)::rem,early,tm,h,Q=>
  match cG o with
  |true=>match nW P (iY tm (slotsOf ops o)) o.op with
   |some (t,l)=>mo nt ops rem ((i,o,h.nx)::early) (m_ nt tm o.dst (.ptr h.nx 0)) (h.bq t l) Q
   |none=>False
  | false=>match eR P tm h ops o with
   |some v=>mo nt ops rem ((i,o,0)::early) (m_ nt tm o.dst v) h Q
   | none=>match sN o&& !ib i [i] rem with
    |true=>cO o.op=false∧dL (iY tm (slotsOf ops o)) ops o=true∧match gH P (iY tm (slotsOf ops o)) o.op with
     |some (t,l,n)=>mo nt ops rem ((i,o,h.nx)::early) (m_ nt tm o.dst (.slice h.nx 0 n (.exact n))) (h.bq t l) Q
     |none=>False
    |false=>cO o.op=false∧ib i [i] rem=true∧jB P nt tm h ops early=true∧mi nt o.dst=true∧
     jf P (qH P tm h ops o) fun v h=>mo nt ops rem (dQ (cu o.after.toList) early) (m_ nt tm o.dst v) h Q
inductive Out where
 |norm
 |exit(id:Nat)
 |ret
abbrev KQ:=Out→List Nat→T AV→H→Prop
def NV(f:List Nat→T AV→H→Prop)(Q:KQ):KQ:=fun o ds tm h=>
 match o with
 | .norm=>f ds tm h
 | .exit id=>Q (.exit id) ds tm h
 | .ret=>Q .ret ds tm h
def Kp(id:Nat)(Q:KQ):KQ:=fun o ds tm h=>
 match o with
 | .norm=>Q .norm ds tm h
 | .exit i=>match au i id with
  |true=>Q .norm ds tm h
  |false=>Q (.exit i) ds tm h
 | .ret=>Q .ret ds tm h
def Hx(Inv:Nat→List Nat→T AV→H→Prop)(n:Nat)(Q:KQ):KQ:=fun o ds tm h=>
 match o with
 | .norm=>∃m,m<n∧Inv m ds tm h
 | .exit i=>Q (.exit i) ds tm h
 | .ret=>Q .ret ds tm h
def Hy(v:Option AV)(p q:Prop):Prop:=
 match v with
 |some (.bool b)=>TB b p q
 |_=>False
@[simp] theorem AW(b:Bool)(p q:Prop):Hy (some (.bool b)) p q=TB b p q:=id rfl
def zx(fn nt:Nat)(tm:T AV)(params:Array Tmp)(a b:Code)(D:Nat)(st:LoopState)(pend:Option Code):iI:=
 .loop {state:=st,pending:=pend,fn,nt,tm,params:=params.toList,assign:=a,body:=b,defers:=D}
def Hz(l:Nat)(ds:List Nat)(tm:T AV)(Q:KQ)(h:H):Prop:=
 match h.t.get l with
 | some (.loop r)=>match r.state with
  | .busy=>False
  |_=>match r.pending with
   |none=>Q .norm ds tm {h with t:=h.t.set l (some (.loop {r with state:=.exhausted}))}
   |some (.exit i)=>Q (.exit i) ds tm {h with t:=h.t.set l (some (.loop {r with state:=.exhausted}))}
   |some .ret=>Q .ret ds tm {h with t:=h.t.set l (some (.loop {r with state:=.exhausted}))}
   |some _=>False
 |_=>False
def AY(r:R)(K:H→Prop):Prop:=
 match r with
 | .enter f args h=>bW P (.enter f args h) fun _ h=>K h
 |_=>False
def rfW(fn:FuncId)(nt:Nat)(ro:Option Nat)(f:Operand)(params:Array Tmp)(a b:Code)(ds:List Nat)(tm:T AV)(h:H)(Q:KQ):Prop:=
 match bP tm f with
 | some fv=>match ro with
  |none=>AY P (je P fv [.yield (h.nx+1)] ((h.alloc (.deferred (some []))).alloc (zx fn nt tm params a b h.nx .ready none))) (Hz (h.nx+1) (h.nx::ds) tm Q)
  |some l0=>match h.t.get l0 with
   |some (.loop r)=>AY P (je P fv [.yield h.nx] (h.alloc (zx fn nt tm params a b r.defers .ready none))) (Hz h.nx ds tm Q)
   |_=>False
 |none=>False
def LO(nt:Nat)(ops:Array Oper)(l:List Oper)(tm:T AV)(h:H)(Q:T AV→H→Prop):Prop:=
 match l with
 |[]=>False
 |o::l=>o.guard=none∧∃L,Hq tm h o.op=some L∧∀y,y∈L→tT P nt ops l (m_ nt tm o.dst y.1) y.2 Q
def bB(fn:FuncId)(nt:Nat)(ro:Option Nat):Code→List Nat→T AV→H→KQ→Prop
 | .skip,ds,tm,h,Q=>Q .norm ds tm h
 | .label _,ds,tm,h,Q=>Q .norm ds tm h
 | .seq a b,ds,tm,h,Q=>bB fn nt ro a ds tm h (NV (fun ds tm h=>bB fn nt ro b ds tm h Q) Q)
 | .region _ ops draw,ds,tm,h,Q=>match draw with
  |false=>tT P nt ops ops.toList tm h (Q .norm ds)∨LO P nt ops ops.toList tm h (Q .norm ds)
  |true=>match P.follows .mixedOrders,sY ops with
   |true,some d=>mo P nt d.ops d.rem [] tm h (Q .norm ds)
   |_,_=>False
 | .cond c a b,ds,tm,h,Q=>Hy (bP tm c) (bB fn nt ro a ds tm h Q) (bB fn nt ro b ds tm h Q)
 | .block id c,ds,tm,h,Q=>bB fn nt ro c ds tm h (Kp id Q)
 | .loop c,ds,tm,h,Q=>∃(Inv:Nat→List Nat→T AV→H→Prop)(n:Nat),Inv n ds tm h∧∀n ds tm h,Inv n ds tm h→bB fn nt ro c ds tm h (Hx Inv n Q)
 | .scope c,ds,tm,h,Q=>bB fn nt ro c ds tm h Q
 | .exit id,ds,tm,h,Q=>Q (.exit id) ds tm h
 | .ret,ds,tm,h,Q=>Q .ret ds tm h
 | .rangeFunc f params a b,ds,tm,h,Q=>rfW P fn nt ro f params a b ds tm h Q
 | .goto _,_,_,_,_=>False
 | .refuse _,_,_,_,_=>False
end
section
variable{P:Program}
def wY(P:Program)(G:S→Prop):Prop:=∀s T,kK P s T→(∀s',T s'→G s')→G s
theorem tU(T:S→Prop):wY P (fun s=>kK P s T):=fun _ _ hl hk=>hl.bind P hk
theorem wY.step{G:S→Prop}(hG:wY P G){K:lI}(hK:eN P K){s s':S}(h:dV P K s=some s')(hg:G s'):G s:=hG _ (fun x=>x=s') (kK.oO P (oN hK h) rfl) (fun _ e=>by subst e;exact hg)
theorem wY.fY{G:S→Prop}(hG:wY P G){s s':S}(h:dV P jX s=some s')(hg:G s'):G s:=hG.step (fB P) h hg
abbrev oP(fn nt:Nat)(kd:CallKind)(ro:Option Nat)(ds:List Nat)(tm:T AV)(todo:List iL):bY:=⟨fn,nt,tm,todo,ds.map .collected,.run,kd,ro,none⟩
theorem NW{G:S→Prop}(hG:wY P G){s:S}{r:R}{K:AV→H→Prop}(hx:jf P r K)(iu:∀v,∃c',s.fr.finish v=some c')(hk:∀v h' c',s.fr.finish v=some c'→K v h'→G ⟨c',s.cs,h'⟩):
  ∃K0 s1,eN P K0∧gG P K0 s r=some s1∧G s1:=by
 have yn:∀{r:R},(∀s0,rf P s.fr s.cs r=some s0→gG P jX s r=some s0)→bW P r K→∃K0 s1,eN P K0∧gG P K0 s r=some s1∧G s1:=by
  intro r ha hc;obtain⟨s0,e,hl⟩:=hc s.fr s.cs iu;exact⟨jX,s0,fB P,ha _ e,hG _ _ hl (fun s' ⟨v,h',c',hq,mV,e'⟩=>by subst e';exact hk _ _ _ mV hq)⟩
 cases r with
 |val v h=>
  obtain⟨c',mV⟩:=iu v;exact⟨jX,_,fB P,by simp only[gG,mV],hk _ _ _ mV hx⟩
 |skip h=>
  obtain⟨c',mV⟩:=iu jd;exact⟨jX,_,fB P,by simp only[gG,mV],hk _ _ _ mV hx⟩
 | enter f args h=>
  rcases hx with hx|⟨f1,a1,h1,K1,v,h',e,hK,e2,hq⟩
  ·refine yn ?_ hx
   intro s0 h0;simp only[rf]at h0;split at h0
   ·rename_i fr uu
    cases h0;simp only[gG,jX,uu]
   ·cases h0
  ·cases e
   obtain⟨c',mV⟩:=iu v;exact⟨K1,_,hK,by simp only[gG,e2,mV],hk _ _ _ mV hq⟩
 | round l args h=>
  rcases hx with hx|⟨f1,a1,h1,K1,v,h',e,_⟩
  ·refine yn ?_ hx
   intro s0 h0;simp only[rf]at h0;split at h0
   ·rename_i r hr
    split at h0
    ·rename_i tm jr
     cases h0;simp only[gG,hr,jr]
    ·cases h0
   ·cases h0
  ·cases e
 |ext f args h=>
  obtain⟨K1,v,h',hK,e2,hq⟩:=hx;obtain⟨c',mV⟩:=iu v;exact⟨K1,_,hK,by simp only[gG,e2,mV],hk _ _ _ mV hq⟩
 |defer d h=>exact absurd hx id
 |recover h=>exact absurd hx id
 |panic v h=>exact absurd hx id
 |fail=>exact absurd hx id
theorem Kq{G:S→Prop}(hG:wY P G){s:S}{r:R}{K:AV→H→Prop}{d:qi}{i:Nat}{o:Oper}{rem:List (Nat×Oper)}(hw:d.wait=false)(hx:jf P r K)(hd:mi s.fr.nt o.dst=true)
  (hk:∀v h',K v h'→G ⟨{s.fr with tm:=s.fr.qn o.dst v,dr:=some {d with rem,early:=dQ (cu o.after.toList) d.early}},s.cs,h'⟩):
  ∃K0 s1,eN P K0∧iO P K0 s d i o rem r=some s1∧G s1:=by
 have iu:∀v,({s.fr with dr:=some {d with rem:=(i,o)::rem,early:=dQ (cu o.after.toList) d.early,wait:=true}}:bY).finish v=some {s.fr with tm:=s.fr.qn o.dst v,dr:=some {d with rem,early:=dQ (cu o.after.toList) d.early}}:=by
  intro v;simp only[bY.finish,bY.Fc,hd,hw,bY.qn]
 have yn:∀{r:R},(∀s0,rf P {s.fr with dr:=some {d with rem:=(i,o)::rem,early:=dQ (cu o.after.toList) d.early,wait:=true}} s.cs r=some s0→iO P jX s d i o rem r=some s0)→bW P r K→
   ∃K0 s1,eN P K0∧iO P K0 s d i o rem r=some s1∧G s1:=by
  intro r ha hc;obtain⟨s0,e,hl⟩:=hc {s.fr with dr:=some {d with rem:=(i,o)::rem,early:=dQ (cu o.after.toList) d.early,wait:=true}} s.cs (fun v=>⟨_,iu v⟩);exact⟨jX,s0,fB P,ha _ e,hG _ _ hl (fun s' ⟨v,h',c',hq,mV,e'⟩=>by subst e';rw[iu]at mV;cases mV;exact hk _ _ hq)⟩
 cases r with
 |val v h=>exact⟨jX,_,fB P,by simp only[iO,hd],hk _ _ hx⟩
 |skip h=>exact⟨jX,_,fB P,by simp only[iO,hd],hk _ _ hx⟩
 | enter f args h=>
  rcases hx with hx|⟨f1,a1,h1,K1,v,h',e,hK,e2,hq⟩
  ·refine yn ?_ hx
   intro s0 h0;simp only[rf]at h0;split at h0
   ·rename_i fr uu
    cases h0;simp only[iO,jX,uu]
   ·cases h0
  ·cases e
   exact⟨K1,_,hK,by simp only[iO,e2,hd],hk _ _ hq⟩
 | round l args h=>
  rcases hx with hx|⟨f1,a1,h1,K1,v,h',e,_⟩
  ·refine yn ?_ hx
   intro s0 h0;simp only[rf]at h0;split at h0
   ·rename_i r hr
    split at h0
    ·rename_i tm jr
     cases h0;simp only[iO,hr,jr]
    ·cases h0
   ·cases h0
  ·cases e
 |ext f args h=>
  obtain⟨K1,v,h',hK,e2,hq⟩:=hx;exact⟨K1,_,hK,by simp only[iO,e2,hd],hk _ _ hq⟩
 |defer d h=>exact absurd hx id
 |recover h=>exact absurd hx id
 |panic v h=>exact absurd hx id
 |fail=>exact absurd hx id
section
variable{G:S→Prop}{fn nt:Nat}{kd:CallKind}{ro:Option Nat}{ds:List Nat}{cs:List bY}
theorem pB(hG:wY P G){ops:Array Oper}{k:List iL}{Q:T AV→H→Prop}:∀{l:List Oper}{tm:T AV}{h:H},tT P nt ops l tm h Q→(∀tm h,Q tm h→G ⟨oP fn nt kd ro ds tm k,cs,h⟩)→
  G ⟨oP fn nt kd ro ds tm (.ops ops l::k),cs,h⟩
 |[],tm,h,hw,hq=>hG.fY rfl (hq _ _ hw)
 | o ::l,tm,h,hw,hq=>by
  rw[DK]at hw;have iu:∀v,(oP fn nt kd ro ds tm (.ops ops (o::l)::k)).finish v=some (oP fn nt kd ro ds (m_ nt tm o.dst v) (.ops ops l::k)):=fun v=>rfl;have SY:jA (oP fn nt kd ro ds tm (.ops ops (o::l)::k)) ops o=true→jf P (bF P tm h o.op) (LN P nt ops o.dst l tm Q)→G ⟨oP fn nt kd ro ds tm (.ops ops (o::l)::k),cs,h⟩:=by
   intro nN hx;obtain⟨K0,s1,hK,ha,hg⟩:=NW (s:=⟨oP fn nt kd ro ds tm (.ops ops (o::l)::k),cs,h⟩) hG hx (fun v=>⟨_,iu v⟩) (fun v h' c' mV hv=>by
    rw[iu]at mV;cases mV;exact pB hG hv hq)
   exact hG.step hK (by simp only[dV,jN,nN];exact ha) hg
  have TC:jA (oP fn nt kd ro ds tm (.ops ops (o::l)::k)) ops o=false→LN P nt ops o.dst l tm Q jd h→G ⟨oP fn nt kd ro ds tm (.ops ops (o::l)::k),cs,h⟩:=by
   intro nN hx;refine hG.fY (s':=⟨oP fn nt kd ro ds (m_ nt tm o.dst jd) (.ops ops l::k),cs,h⟩) (by simp only[dV,jN,nN];rfl) (pB hG hx hq)
  unfold lN at hw;split at hw
  ·rename_i hg
   exact SY (by unfold jA;rw[hg]) hw
  ·rename_i j want hg
   unfold kJ at hw;split at hw
   ·rename_i d hd
    split at hw
    ·rename_i b hb
     split at hd
     ·rename_i oj hj
      have e:jA (oP fn nt kd ro ds tm (.ops ops (o::l)::k)) ops o=(b==want):=by unfold jA;simp only[hg,hj,hd,hb]
      cases Jx:(b==want)with
      |true=>exact SY (e.trans Jx) (hw.1 Jx)
      |false=>exact TC (e.trans Jx) (hw.2 Jx)
     ·cases hd
    ·rename_i hb
     split at hd
     ·rename_i oj hj
      exact TC (by unfold jA;simp only[hg,hj,hd,hb]) hw
     ·cases hd
    ·exact absurd hw id
   ·exact absurd hw id
theorem lO(hG:wY P G){ops:Array Oper}{k:List iL}{Q:T AV→H→Prop}:∀{rem:List (Nat×Oper)}{early:List (Nat×Oper×Nat)}{tm:T AV}{h:H},mo P nt ops rem early tm h Q→
  (∀tm h,Q tm h→G ⟨oP fn nt kd ro ds tm k,cs,h⟩)→G ⟨{oP fn nt kd ro ds tm k with dr:=some ⟨ops,rem,early,false⟩},cs,h⟩
 |[],early,tm,h,hw,hq=>hG.fY (by simp only[dV,xQ,hw.1]) (hq _ _ hw.2)
 | (i,o)::rem,early,tm,h,hw,hq=>by
  simp only[mo]at hw;split at hw
  ·rename_i ha
   split at hw
   ·rename_i t l hf
    exact hG.fY (by simp only[dV,xQ,ha,hf];rfl) (lO hG hw hq)
   ·exact absurd hw id
  ·rename_i ha
   split at hw
   ·rename_i v hv
    exact hG.fY (by simp only[dV,xQ,ha,hv];rfl) (lO hG hw hq)
   ·rename_i hv
    split at hw
    ·rename_i LF
     obtain⟨h1,h2,hw⟩:=hw;split at hw
     ·rename_i t l n hf
      exact hG.fY (by simp only[dV,xQ,ha,hv,h1,LF,h2,hf];rfl) (lO hG hw hq)
     ·exact absurd hw id
    rename_i LF;obtain⟨h1,h2,h3,h4,h5⟩:=hw;obtain⟨K0,s1,hK,he,hg⟩:=Kq (s:=⟨{oP fn nt kd ro ds tm k with dr:=some ⟨ops,(i,o)::rem,early,false⟩},cs,h⟩) (d:=⟨ops,(i,o)::rem,early,false⟩) (i:=i) (rem:=rem) hG rfl h5 h4
     (fun v h' hv=>lO hG hv hq)
    exact hG.step hK (by simp only[dV,xQ,ha,hv,h1,h2,h3,Bool.not_true,Bool.and_false];exact he) hg
theorem HA(hG:wY P G){ops:Array Oper}{k:List iL}{Q:T AV→H→Prop}{l:List Oper}{tm:T AV}{h:H}(hw:LO P nt ops l tm h Q)(hq:∀tm h,Q tm h→G ⟨oP fn nt kd ro ds tm k,cs,h⟩):
  G ⟨oP fn nt kd ro ds tm (.ops ops l::k),cs,h⟩:=by
 cases l with
 |nil=>exact absurd hw id
 |cons o l=>
  obtain⟨hg,L,hL,hw⟩:=hw;refine hG _ (fun s'=>∃y,y∈L∧s'=⟨oP fn nt kd ro ds (m_ nt tm o.dst y.1) (.ops ops l::k),cs,y.2⟩) (fun N w0 bot φ fr mS w hs=>?_) (fun s' ⟨y,hy,e⟩=>by subst e;exact pB hG (hw y hy) hq);obtain⟨y,c',hy,mV,SY⟩:=PZ (bot:=bot) hs rfl rfl rfl (by unfold jA;rw[hg]) hL (fun v=>⟨_,rfl⟩);cases mV;exact⟨_,⟨y,hy,rfl⟩,SY.n⟩
theorem rh(hG:wY P G):∀(c:Code)(ds:List Nat)(tm:T AV)(h:H)(Q:KQ),bB P fn nt ro c ds tm h Q→∀k:List iL,
  (∀ds tm h,Q .norm ds tm h→G ⟨oP fn nt kd ro ds tm k,cs,h⟩)→
  (∀i ds tm h k1,Q (.exit i) ds tm h→j6 i k1=j6 i k→G ⟨oP fn nt kd ro ds tm (.code (.exit i)::k1),cs,h⟩)→
  (∀ds tm h k1,Q .ret ds tm h→G ⟨oP fn nt kd ro ds tm (.code .ret::k1),cs,h⟩)→G ⟨oP fn nt kd ro ds tm (.code c::k),cs,h⟩:=by
 intro c;induction c with
 |skip=>intro ds tm h Q hw k hn he hr;exact hG.fY rfl (hn _ _ _ hw)
 |label l=>intro ds tm h Q hw k hn he hr;exact hG.fY rfl (hn _ _ _ hw)
 |goto l=>intro ds tm h Q hw;exact absurd hw id
 |refuse l=>intro ds tm h Q hw;exact absurd hw id
 |exit id=>intro ds tm h Q hw k hn he hr;exact he _ _ _ _ _ hw rfl
 |ret=>intro ds tm h Q hw k hn he hr;exact hr _ _ _ _ hw
 |seq a b iha ihb=>
  intro ds tm h Q hw k hn he hr;refine hG.fY (s':=⟨oP fn nt kd ro ds tm (.code a:: .code b::k),cs,h⟩) rfl ?_;refine iha _ _ _ _ hw _ (fun ds tm h hq=>ihb _ _ _ _ hq _ hn he hr) (fun i ds tm h k1 hq hk=>he _ _ _ _ _ hq (by rw[hk];rfl)) (fun ds tm h k1 hq=>hr _ _ _ _ hq)
 | cond c a b iha ihb=>
  intro ds tm h Q hw k hn he hr;simp only[bB,Hy]at hw;split at hw
  ·rename_i v t hv
   cases t with
   |true=>exact hG.fY (s':=⟨oP fn nt kd ro ds tm (.code a::k),cs,h⟩) (by simp only[dV,jN,hv];rfl) (iha _ _ _ _ (hw.1 rfl) _ hn he hr)
   |false=>exact hG.fY (s':=⟨oP fn nt kd ro ds tm (.code b::k),cs,h⟩) (by simp only[dV,jN,hv];rfl) (ihb _ _ _ _ (hw.2 rfl) _ hn he hr)
  ·exact absurd hw id
 | block id c ih=>
  intro ds tm h Q hw k hn he hr;refine hG.fY (s':=⟨oP fn nt kd ro ds tm (.code c:: .inBlock id::k),cs,h⟩) rfl ?_;refine ih _ _ _ _ hw _ (fun ds tm h hq=>hG.fY rfl (hn _ _ _ hq)) (fun i ds tm h k1 hq hk=>?_) (fun ds tm h k1 hq=>hr _ _ _ _ hq);simp only[Kp]at hq;simp only[j6]at hk;split at hq
  ·rename_i hb
   have:=al hb;subst this;rw[an]at hk;refine hG.fY (s':=⟨oP fn nt kd ro ds tm k,cs,h⟩) (by simp only[dV,jN,hk];rfl) (hn _ _ _ hq)
  ·rename_i hb
   have e:au id i=false:=by
    cases hc:au id i with
    |false=>rfl
    |true=>have:=al hc;subst this;rw[an]at hb;cases hb
   rw[e]at hk;exact he _ _ _ _ _ hq hk
 | loop c ih=>
  intro ds tm h Q hw k hn he hr;refine hG.fY (s':=⟨oP fn nt kd ro ds tm (.code c:: .inLoop c::k),cs,h⟩) rfl ?_;obtain⟨Inv,n,hI,hstep⟩:=hw;induction n using Nat.strongRecOn generalizing ds tm h with
  |ind n ihn=>
   refine ih _ _ _ _ (hstep n _ _ _ hI) _ (fun ds tm h hq=>?_) (fun i ds tm h k1 hq hk=>he _ _ _ _ _ hq (by rw[hk];rfl)) (fun ds tm h k1 hq=>hr _ _ _ _ hq);obtain⟨m,hm,hI'⟩:=hq;exact hG.fY (s':=⟨oP fn nt kd ro ds tm (.code c:: .inLoop c::k),cs,h⟩) rfl (ihn m hm _ _ _ hI')
 |scope c ih=>
  intro ds tm h Q hw k hn he hr;refine hG.fY (s':=⟨oP fn nt kd ro ds tm (.code c:: .inScope c::k),cs,h⟩) rfl ?_;exact ih _ _ _ _ hw _ (fun ds tm h hq=>hG.fY rfl (hn _ _ _ hq)) (fun i ds tm h k1 hq hk=>he _ _ _ _ _ hq (by rw[hk];rfl)) (fun ds tm h k1 hq=>hr _ _ _ _ hq)
 | region id ops draw=>
  intro ds tm h Q hw k hn he hr;cases draw with
  |false=>exact hG.fY (s':=⟨oP fn nt kd ro ds tm (.ops ops ops.toList::k),cs,h⟩) rfl (hw.elim (fun hw=>pB hG hw fun tm h hq=>hn _ _ _ hq) (fun hw=>HA hG hw fun tm h hq=>hn _ _ _ hq))
  | true=>
   simp only[bB]at hw;split at hw
   ·rename_i d hm hd
    have PS:d=⟨d.ops,d.rem,[],false⟩∧d.ops=ops:=by
     unfold sY at hd;simp only at hd;split at hd
     ·cases hd;exact⟨rfl,rfl⟩
     ·cases hd
    refine hG.fY (s':=⟨{oP fn nt kd ro ds tm k with dr:=some d},cs,h⟩) (by simp only[dV,jN,hm,hd]) ?_;rw[PS.1];exact lO hG hw fun tm h hq=>hn _ _ _ hq
   ·exact absurd hw _root_.id
 | rangeFunc f params a b _ _=>
  intro ds tm h Q hw k hn he hr;have P5:∀(l:Nat)(ds:List Nat)(h:H),Hz l ds tm Q h→G ⟨oP fn nt kd ro ds tm (.endRangeFunc l::k),cs,h⟩:=by
   intro l ds h hx;unfold Hz at hx;split at hx
   ·rename_i r hl
    split at hx
    ·exact absurd hx id
    ·rename_i jV
     split at hx
     ·rename_i hp
      refine hG.fY ?_ (hn _ _ _ hx);simp only[dV,jN,hl,hp]
     ·rename_i i hp
      refine hG.fY ?_ (he _ _ _ _ k hx rfl);simp only[dV,jN,hl,hp]
     ·rename_i hp
      refine hG.fY ?_ (hr _ _ _ k hx);simp only[dV,jN,hl,hp]
     ·exact absurd hx id
   ·exact absurd hx id
  simp only[bB,rfW]at hw;split at hw
  ·rename_i fv hfv
   cases ro with
   | none=>
    simp only at hw;unfold AY at hw;split at hw
    ·rename_i g args h2 zV
     obtain⟨s0,hp,hl⟩:=hw (oP fn nt kd none (h.nx::ds) tm (.inRangeFunc (h.nx+1)::k)) cs (fun v=>⟨_,rfl⟩);simp only[rf]at hp;split at hp
     ·rename_i fr uu
      cases hp;refine hG.fY (s':=⟨fr,oP fn nt kd none (h.nx::ds) tm (.inRangeFunc (h.nx+1)::k)::cs,h2⟩) ?_ (hG _ _ hl (fun s' ⟨v,h',c',hx,mV,e'⟩=>by subst e';cases mV;exact P5 _ _ _ hx));simp only[dV,jN,mN,hfv];simp only[zx,H.alloc]at zV;simp only[H.alloc,zV,uu];rfl
     ·cases hp
    ·exact absurd hw id
   | some l0=>
    simp only at hw;split at hw
    ·rename_i r hl0
     unfold AY at hw;split at hw
     ·rename_i g args h2 zV
      obtain⟨s0,hp,hl⟩:=hw (oP fn nt kd (some l0) ds tm (.inRangeFunc h.nx::k)) cs (fun v=>⟨_,rfl⟩);simp only[rf]at hp;split at hp
      ·rename_i fr uu
       cases hp;refine hG.fY (s':=⟨fr,oP fn nt kd (some l0) ds tm (.inRangeFunc h.nx::k)::cs,h2⟩) ?_ (hG _ _ hl (fun s' ⟨v,h',c',hx,mV,e'⟩=>by subst e';cases mV;exact P5 _ _ _ hx));simp only[dV,jN,mN,hfv,hl0];simp only[zx,H.alloc]at zV;simp only[H.alloc,zV,uu];rfl
      ·cases hp
     ·exact absurd hw id
    ·exact absurd hw id
  ·exact absurd hw id
end
end
end
end Go.AX
namespace Go.AX
noncomputable section
open Go.RowKit
section
variable(P:Program)
def undef(h:H):List Nat→Option H
 |[]=>some h
 |d::ds=>match h.t.get d with
  |some (.deferred (some []))=>undef {h with t:=h.t.set d (some (.deferred none))} ds
  |_=>none
def nc(fn:Func)(Q:AV→H→Prop):KQ:=fun o ds tm h=>
 match o with
 | .exit _=>False
 |_=>∃h2,undef h ds=some h2∧∃v,Fe P fn tm h2=some v∧Q v h2
@[simp] theorem undef_nil(h:H):undef h []=some h:=rfl
@[simp] theorem DL(fn:Func)(Q:AV→H→Prop)(i:Nat)(ds:List Nat)(tm:T AV)(h:H):nc P fn Q (.exit i) ds tm h=False:=rfl
theorem DM(fn:Func)(Q:AV→H→Prop)(ds:List Nat)(tm:T AV)(h:H):nc P fn Q .norm ds tm h=∃h2,undef h ds=some h2∧∃v,Fe P fn tm h2=some v∧Q v h2:=rfl
theorem HB(fn:Func)(Q:AV→H→Prop)(ds:List Nat)(tm:T AV)(h:H):nc P fn Q .ret ds tm h=∃h2,undef h ds=some h2∧∃v,Fe P fn tm h2=some v∧Q v h2:=rfl
def js(l:Nat)(Q:AV→H→Prop):KQ:=fun o _ _ h=>
 match h.t.get l with
 |some (.loop r)=>match o with
  | .norm=>Q (.bool true) {h with t:=h.t.set l (some (.loop {r with state:=.ready,pending:=none}))}
  | .exit i=>Q (.bool false) {h with t:=h.t.set l (some (.loop {r with state:=.done,pending:=some (.exit i)}))}
  | .ret=>Q (.bool false) {h with t:=h.t.set l (some (.loop {r with state:=.done,pending:=some .ret}))}
 |_=>False
def roundK(fn nt:Nat)(l:Nat)(Q:AV→H→Prop):KQ:=fun o ds tm h=>
 match o with
 | .norm=>match h.t.get l with
  |some (.loop r)=>match r.state with
   | .ready=>bB P fn nt (some l) r.body ds tm {h with t:=h.t.set l (some (.loop {r with state:=.busy}))} (js l Q)
   |_=>False
  |_=>False
 |_=>False
end
section
variable{P:Program}
theorem pC{G:S→Prop}(hG:wY P G){fn nt:Nat}{tm:T AV}{k:List iL}{cs:List bY}:∀{ds:List Nat}{h h2:H},undef h ds=some h2→
  G ⟨⟨fn,nt,tm,k,[],.returning,.normal,none,none⟩,cs,h2⟩→G ⟨⟨fn,nt,tm,k,ds.map .collected,.returning,.normal,none,none⟩,cs,h⟩
 |[],h,h2,hu,hg=>by cases hu;exact hg
 | d::ds,h,h2,hu,hg=>by
  simp only[undef]at hu;split at hu
  ·rename_i hd
   refine hG.fY ?_ (pC hG hu hg);simp only[dV,jN,uA,List.map_cons,hd,List.nil_append]
  ·cases hu
theorem DN{G:S→Prop}(hG:wY P G){f nt:Nat}{fn:Func}{Q:AV→H→Prop}{cs:List bY}(P5:∀tm k h2 v,Fe P fn tm h2=some v→Q v h2→G ⟨⟨f,nt,tm,k,[],.returning,.normal,none,none⟩,cs,h2⟩)
  {c:Code}{tm:T AV}{h:H}(hw:bB P f nt none c [] tm h (nc P fn Q)):G ⟨oP f nt .normal none [] tm [.code c],cs,h⟩:=by
 refine rh hG c _ _ _ _ hw [] (fun ds tm h hq=>?_) (fun i ds tm h k1 hq=>absurd hq id) (fun ds tm h k1 hq=>?_)
 ·obtain⟨h2,hu,v,hv,hq⟩:=hq
  exact hG.fY (s':=⟨⟨f,nt,tm,[],ds.map .collected,.returning,.normal,none,none⟩,cs,h⟩) rfl (pC hG hu (P5 _ _ _ _ hv hq))
 ·obtain⟨h2,hu,v,hv,hq⟩:=hq
  exact hG.fY (s':=⟨⟨f,nt,tm,.code .ret::k1,ds.map .collected,.returning,.normal,none,none⟩,cs,h⟩) rfl (pC hG hu (P5 _ _ _ _ hv hq))
theorem DO{f:FuncId}{fn:Func}{c:Code}{args:List AV}(hf:P.funcs[f]? =some fn)(hb:fn.body=some c):
  lX P f args .normal=some (oP f (Nat.max args.length fn.ntmps) .normal none [] (T.fill .e 0 args) [.code c]):=by
 simp only[lX,hf,hb];rfl
theorem bn{f:FuncId}{fn:Func}{c:Code}{args:List AV}{h:H}{Q:AV→H→Prop}(hf:P.funcs[f]? =some fn)(hb:fn.body=some c)
  (hw:bB P f (Nat.max args.length fn.ntmps) none c [] (T.fill .e 0 args) h (nc P fn Q)):bW P (.enter f args h) Q:=by
 intro b cs iu;have SY:=DN (cs:=b::cs) (tU (P:=P) (Ko b cs Q)) (fun tm k h2 v hv hq=>by
  obtain⟨c',hc⟩:=iu v;exact kK.oO P (oN (fB P) (by simp only[dV,jN,uA,hf,hv,sW,hc])) ⟨v,h2,c',hq,hc,rfl⟩) hw
 exact⟨_,by simp only[rf,DO hf hb],SY⟩
theorem HC{l:Nat}{args:List AV}{h:H}{r:fC}{tm:T AV}{Q:AV→H→Prop}(hl:h.t.get l=some (.loop r))(hp:iA r.nt r.tm r.params args=some tm)
  (hw:bB P r.fn r.nt (some l) r.assign [] tm h (fun o ds tm h=>match o with
   | .norm=>ds=[]∧∃r',h.t.get l=some (.loop r')∧r'.state= .ready∧bB P r.fn r.nt (some l) r.body [] tm {h with t:=h.t.set l (some (.loop {r' with state:=.busy}))} (js l Q)
   |_=>False)):bW P (.round l args h) Q:=by
 intro b cs iu;have hG:=tU (P:=P) (Ko b cs Q);refine⟨⟨oP r.fn r.nt .normal (some l) [] tm [.code r.assign,.beginRound,.code r.body],b::cs,h⟩,?_⟩;have SY:=rh (kd:=.normal) (cs:=b::cs) hG r.assign _ _ _ _ hw [.beginRound,.code r.body] (fun ds tm h hq=>?_) (fun i ds tm h k1 hq=>absurd hq id) (fun ds tm h k1 hq=>absurd hq id)
 ·exact⟨by simp only[rf,hl,hp];rfl,SY⟩
 ·simp only at hq
  obtain⟨rfl,r',Tg,jV,hbody⟩:=hq;refine hG.fY (s':=⟨oP r.fn r.nt .normal (some l) [] tm [.code r.body],b::cs,{h with t:=h.t.set l (some (.loop {r' with state:=.busy}))}⟩) (by simp only[dV,jN,Tg,jV]) ?_;refine rh (kd:=.normal) (cs:=b::cs) hG r.body _ _ _ _ hbody [] (fun ds tm h hq=>?_) (fun i ds tm h k1 hq hk1=>?_) (fun ds tm h k1 hq=>?_)
  ·unfold js at hq
   split at hq
   ·rename_i r2 Fl
    obtain⟨c',hc⟩:=iu _;exact kK.oO P (oN (fB P) (by simp only[dV,jN,mM,Fl,sW,ao,hc,Gz])) ⟨_,_,c',hq,hc,rfl⟩
   ·exact absurd hq id
  ·unfold js at hq
   split at hq
   ·rename_i r2 Fl
    have hx:j6 i k1=none:=hk1;obtain⟨c',hc⟩:=iu _;exact kK.oO P (oN (fB P) (by simp only[dV,jN,hx,mM,Fl,sW,ao,hc,Gz])) ⟨_,_,c',hq,hc,rfl⟩
   ·exact absurd hq id
  ·unfold js at hq
   split at hq
   ·rename_i r2 Fl
    obtain⟨c',hc⟩:=iu _;exact kK.oO P (oN (fB P) (by simp only[dV,jN,mM,Fl,sW,ao,hc,Gz])) ⟨_,_,c',hq,hc,rfl⟩
   ·exact absurd hq id
theorem AZ{f:FuncId}{fn:Func}{c:Code}{args:List AV}{h:H}{Q:AV→H→Prop}(hf:P.funcs[f]? =some fn)(hb:fn.body=some c)
  (hw:bB P f (Nat.max args.length fn.ntmps) none c [] (T.fill .e 0 args) h (nc P fn Q)){N:NN}{φ:cX}{w:World}{cargs:Array Value}(hr:HR N φ h w)(hN:N.n≤w.heap.size)(ha:bH (VR φ) args cargs.toList):
  Calls P f cargs w fun e w'=>∃N':NN,∃gA cv v h',N'.n=N.n∧e= .returned cv∧Q v h'∧φ.le gA∧VR gA v cv∧HR N' gA h' w'∧Below N.n w w':=by
 have SY:=DN (cs:=[]) (tU (P:=P) (fun s1=>∃v h',Q v h'∧No P jX f 1 s1=some (v,h'))) (fun tm k h2 v hv hq=>
  kK.oO P (Reach.refl _) ⟨v,h2,hq,by simp[No,Pb,hf,hv]⟩) hw
 intro bot;have uu:=DO (P:=P) (args:=args) hf hb;have hsr:SR N w φ {fr:=oP f (Nat.max args.length fn.ntmps) .normal none [] (T.fill .e 0 args) [.code c],cs:=[],h} (Frame.enter P f cargs .normal) [] w:=⟨.mk (mZ uu) (kZ ha uu),rfl,hr,Below.refl _ _,hN⟩;obtain⟨s1,⟨v,h',hq,hc⟩,N1,Ho,Xq,NT,w1,e1,l1,gh,sr1⟩:=SY N w bot φ _ _ w hsr;obtain⟨N',gA,tO,w',cv,e,l,st,OW,hl,hv,hh,hbl⟩:=FI (fB P) (bot:=bot) 1 N1 Ho _ _ _ w1 v h' sr1 hc;exact⟨.returned cv,w',tO,⟨N',gA,cv,v,h',e.trans e1,rfl,hq,cX.le_trans l1 l,hv,hh,by rw[←e1];exact hbl⟩,Steps.trans gh st,OW,hl⟩
end
end
end Go.AX
namespace Go.AX
noncomputable section
open Go.RowKit
def bD(fn:Func):Code:=
 match fn.body with
 |some c=>c
 |none=>.skip
def bL(c:Code)(rp:List Nat):Code:=gi c rp.reverse
def isSeq:Code→Bool
 | .seq _ _=>true
 |_=>false
def Xw:Code→Bool
 | .cond _ _ _=>true
 |_=>false
def Xx:Code→Operand
 | .cond c _ _=>c
 |_=>.const (.bool false)
def TD:Code→Bool
 | .block _ _=>true
 |_=>false
def TE:Code→Nat
 | .block i _=>i
 |_=>0
def Xy:Code→Bool
 | .loop _=>true
 |_=>false
def Xz:Code→Bool
 | .exit _=>true
 |_=>false
def XA:Code→Nat
 | .exit i=>i
 |_=>0
def XB:Code→Bool
 | .ret=>true
 |_=>false
def TF:Code→Bool
 | .skip=>true
 | .label _=>true
 |_=>false
def isReg:Code→Bool
 | .region _ _ false=>true
 |_=>false
def TG:Code→Bool
 | .scope _=>true
 |_=>false
theorem gj:∀(p q:List Nat)(c:Code),gi (gi c p) q=gi c (p++q)
 |[],q,c=>by cases c<;>rfl
 |i::p,q,c=>by
  cases c with
  |seq a b=>cases i<;>exact gj p q _
  |cond x a b=>cases i<;>exact gj p q _
  |rangeFunc f ps a b=>cases i<;>exact gj p q _
  |block j a=>exact gj p q a
  |loop a=>exact gj p q a
  |scope a=>exact gj p q a
  |_=>cases q<;>rfl
theorem ij(c:Code)(i:Nat)(rp:List Nat):bL c (i::rp)=gi (bL c rp) [i]:=by
 unfold bL;rw[gj,List.reverse_cons]
section
variable{P:Program}
def P6(P:Program)(fn nt:Nat)(ro:Option Nat)(c:Code)(Q:KQ)(ds:List Nat)(tm:T AV)(h:H):Prop:=bB P fn nt ro c ds tm h Q
theorem jK(c:Code):gi c []=c:=by cases c<;>rfl
variable{fn nt:Nat}{ro:Option Nat}{c:Code}{rp:List Nat}{ds:List Nat}{tm:T AV}{h:H}{Q:KQ}
theorem XC(hc:isSeq (bL c rp)=true)(hw:bB P fn nt ro (bL c (0::rp)) ds tm h (NV (P6 P fn nt ro (bL c (1::rp)) Q) Q)):bB P fn nt ro (bL c rp) ds tm h Q:=by
 rw[ij,ij]at hw;revert hc hw;generalize bL c rp=c;intro hc hw;cases c<;>first|(cases hc;done)|(simp only[gi,jK]at hw;exact hw)
theorem P7(hc:TD (bL c rp)=true){i:Nat}(hi:TE (bL c rp)=i)(hw:bB P fn nt ro (bL c (0::rp)) ds tm h (Kp i Q)):bB P fn nt ro (bL c rp) ds tm h Q:=by
 rw[ij]at hw;revert hc hi hw;generalize bL c rp=c;intro hc hi hw;cases c<;>first|(cases hc;done)|(simp only[gi,jK]at hw;cases hi;exact hw)
theorem P8(hc:TG (bL c rp)=true)(hw:bB P fn nt ro (bL c (0::rp)) ds tm h Q):bB P fn nt ro (bL c rp) ds tm h Q:=by
 rw[ij]at hw;revert hc hw;generalize bL c rp=c;intro hc hw;cases c<;>first|(cases hc;done)|(simp only[gi,jK]at hw;exact hw)
theorem TH(hc:Xw (bL c rp)=true){x:Operand}(hx:Xx (bL c rp)=x)
  (hw:Hy (bP tm x) (bB P fn nt ro (bL c (0::rp)) ds tm h Q) (bB P fn nt ro (bL c (1::rp)) ds tm h Q)):bB P fn nt ro (bL c rp) ds tm h Q:=by
 rw[ij,ij]at hw;revert hc hx hw;generalize bL c rp=c;intro hc hx hw;cases c<;>first|(cases hc;done)|(simp only[gi,jK]at hw;cases hx;exact hw)
theorem TI(hc:TF (bL c rp)=true)(hw:Q .norm ds tm h):bB P fn nt ro (bL c rp) ds tm h Q:=by
 revert hc;generalize bL c rp=c;intro hc;cases c<;>first|(cases hc;done)|exact hw
theorem TJ(hc:Xz (bL c rp)=true){i:Nat}(hi:XA (bL c rp)=i)(hw:Q (.exit i) ds tm h):bB P fn nt ro (bL c rp) ds tm h Q:=by
 revert hc hi;generalize bL c rp=c;intro hc hi;cases c<;>first|(cases hc;done)|(cases hi;exact hw)
theorem XD(hc:XB (bL c rp)=true)(hw:Q .ret ds tm h):bB P fn nt ro (bL c rp) ds tm h Q:=by
 revert hc;generalize bL c rp=c;intro hc;cases c<;>first|(cases hc;done)|exact hw
theorem XE(hc:isReg (bL c rp)=true){ops:Array Oper}{l:List Oper}(ho:eA (bL c rp)=ops)(hl:ops.toList=l)(hw:tT P nt ops l tm h (Q .norm ds)):bB P fn nt ro (bL c rp) ds tm h Q:=by
 revert hc ho;generalize bL c rp=c;intro hc ho;cases c with
 |region i TK d=>cases d with
  |false=>cases ho;cases hl;exact .inl hw
  |true=>cases hc
 |_=>cases hc
theorem cn(Inv:Nat→List Nat→T AV→H→Prop)(n:Nat)(hc:Xy (bL c rp)=true)(h0:Inv n ds tm h)
  (hw:∀n ds tm h,Inv n ds tm h→bB P fn nt ro (bL c (0::rp)) ds tm h (Hx Inv n Q)):bB P fn nt ro (bL c rp) ds tm h Q:=by
 simp only[ij]at hw;revert hc hw;generalize bL c rp=c;intro hc hw;cases c<;>first|(cases hc;done)|(simp only[gi,jK]at hw;exact⟨Inv,n,h0,hw⟩)
theorem bp(hw:bB P fn nt ro (bL c []) ds tm h Q):bB P fn nt ro c ds tm h Q:=by
 have e:bL c []=c:=jK c;rw[e]at hw;exact hw
theorem DP(f:List Nat→T AV→H→Prop)(Q:KQ):NV f Q .norm ds tm h=f ds tm h:=id rfl
theorem DQ(f:List Nat→T AV→H→Prop)(Q:KQ)(i:Nat):NV f Q (.exit i) ds tm h=Q (.exit i) ds tm h:=id rfl
theorem HD(f:List Nat→T AV→H→Prop)(Q:KQ):NV f Q .ret ds tm h=Q .ret ds tm h:=id rfl
theorem sA(i:Nat)(Q:KQ):Kp i Q .norm ds tm h=Q .norm ds tm h:=id rfl
theorem DS(i j:Nat)(Q:KQ):Kp i Q (.exit j) ds tm h=if j=i then Q .norm ds tm h else Q (.exit j) ds tm h:=by
 show(match au j i with|true=>_|false=>_)=_;by_cases e:j=i
 ·subst e;rw[an,if_pos rfl]
 ·have :au j i=false:=by
   cases hb:au j i with
   |false=>rfl
   |true=>exact absurd (al hb) e
  rw[this,if_neg e]
theorem HE(i:Nat)(Q:KQ):Kp i Q .ret ds tm h=Q .ret ds tm h:=id rfl
theorem A_(Inv:Nat→List Nat→T AV→H→Prop)(n:Nat)(Q:KQ):Hx Inv n Q .norm ds tm h=∃m,m<n∧Inv m ds tm h:=id rfl
theorem Ba(Inv:Nat→List Nat→T AV→H→Prop)(n:Nat)(Q:KQ)(i:Nat):Hx Inv n Q (.exit i) ds tm h=Q (.exit i) ds tm h:=id rfl
theorem DT(Inv:Nat→List Nat→T AV→H→Prop)(n:Nat)(Q:KQ):Hx Inv n Q .ret ds tm h=Q .ret ds tm h:=id rfl
theorem DU(c:Code):P6 P fn nt ro c Q ds tm h=bB P fn nt ro c ds tm h Q:=id rfl
def gJ(tm:T AV)(ops:Array Oper)(g:Nat×Bool):Option Bool:=
 match kJ ops g.1 with
 |some d=>match tm.get d with
  |some (.bool b)=>some (b==g.2)
  |some (.tuple [])=>some false
  |_=>none
 |none=>none
def gW(P:Program)(b:Option Bool)(nt:Nat)(ops:Array Oper)(o:Op)(d:Option Tmp)(l:List Oper)(tm:T AV)(h:H)(Q:T AV→H→Prop):Prop:=
 match b with
 |some true=>jf P (bF P tm h o) (LN P nt ops d l tm Q)
 |some false=>LN P nt ops d l tm Q jd h
 |none=>False
theorem LP(nt:Nat)(ops:Array Oper)(o:Op)(d:Option Tmp)(l:List Oper)(Q:T AV→H→Prop):gW P (some true) nt ops o d l tm h Q=jf P (bF P tm h o) (LN P nt ops d l tm Q):=id rfl
theorem HF(nt:Nat)(ops:Array Oper)(o:Op)(d:Option Tmp)(l:List Oper)(Q:T AV→H→Prop):gW P (some false) nt ops o d l tm h Q=LN P nt ops d l tm Q jd h:=id rfl
theorem DV(nt:Nat)(ops:Array Oper)(d:Option Tmp)(o:Op)(t:TypeId)(pos:String)(a:Array Edge)(l:List Oper)(Q:T AV→H→Prop):
  tT P nt ops ({dst:=d,op:=o,type:=t,pos:=pos,after:=a,guard:=none}::l) tm h Q=jf P (bF P tm h o) (LN P nt ops d l tm Q):=id rfl
theorem Bb(nt:Nat)(ops:Array Oper)(d:Option Tmp)(o:Op)(t:TypeId)(pos:String)(a:Array Edge)(g:Nat×Bool)(l:List Oper)(Q:T AV→H→Prop):
  tT P nt ops ({dst:=d,op:=o,type:=t,pos:=pos,after:=a,guard:=some g}::l) tm h Q↔gW P (gJ tm ops g) nt ops o d l tm h Q:=by
 rw[DK];obtain⟨j,want⟩:=g;unfold lN gJ gW;simp only;cases kJ ops j with
 |none=>exact Iff.rfl
 | some d=>
  simp only;cases tm.get d with
  |none=>exact Iff.rfl
  | some v=>
   cases v with
   |bool b=>
    simp only;cases hx:(b==want)<;>simp[TB]
   |tuple l=>cases l<;>exact Iff.rfl
   |_=>exact Iff.rfl
theorem LQ(nt:Nat)(ops:Array Oper)(d:Option Tmp)(l:List Oper)(Q:T AV→H→Prop)(v:AV):LN P nt ops d l tm Q v h=tT P nt ops l (m_ nt tm d v) h Q:=id rfl
theorem wZ(nt d:Nat)(v:AV):m_ nt tm (some d) v=if d<nt then tm.set d (some v)else tm:=by
 unfold m_;by_cases e:d<nt
 ·have :Nat.blt d nt=true:=by rw[aq];exact e
  simp only[this,if_pos e]
 ·have :Nat.blt d nt=false:=by rw[←Bool.not_eq_true,aq];exact e
  simp only[this,if_neg e]
theorem LR(nt:Nat)(v:AV):m_ nt tm none v=tm:=id rfl
end
def cellAt(h:H)(b o:Nat):Option AV:=
 match h.t.get b with
 |some (.cells _ cs _ _)=>cs.get o
 |_=>none
def cj(h:H)(b:Nat):Bool:=
 match h.t.get b with
 |some (.cells _ _ _ false)=>true
 |_=>false
def Bd(cs:T AV)(o:Nat):List AV→T AV
 |[]=>cs
 |v::l=>Bd (cs.set o (some v)) (o+1) l
def H.cm(h:H)(b o:Nat)(l:List AV):H:=
 match h.t.get b with
 |some (.cells n cs k false)=>{h with t:=h.t.set b (some (.cells n (Bd cs o l) k false))}
 |_=>h
def tV(h:H)(b o:Nat):Nat→Bool
 |0=>true
 |k+1=>(cellAt h b o).isSome&&tV h b (o+1) k
theorem yo(h:H)(b o:Nat):tV h b o 0=true:=id rfl
theorem nO(h:H)(b o k:Nat):tV h b o (k+1)=((cellAt h b o).isSome&&tV h b (o+1) k):=id rfl
theorem Be:∀(l:List AV)(cs:T AV)(o j:Nat),(Bd cs o l).get j=if o≤j∧j<o+l.length then l[j-o]? else cs.get j
 |[],cs,o,j=>by simp only[Bd,List.length_nil];rw[if_neg (by omega)]
 | v::l,cs,o,j=>by
  simp only[Bd,Be l,T.bS,List.length_cons];by_cases e:j=o
  ·subst e;rw[if_neg (by omega),if_pos rfl,if_pos (by omega)];simp
  ·by_cases q:o+1≤j∧j<o+1+l.length
   ·rw[if_pos q,if_pos (by omega),show j-o=(j-(o+1))+1 by omega];simp
   ·rw[if_neg q,if_neg e,if_neg (by omega)]
theorem tq:∀(l:List AV)(cs:T AV)(o:Nat),dN l=true→(∀i,i<l.length→cs.get (o+i)≠none)→H.putCells cs o l=some (Bd cs o l)
 |[],_,_,_,_=>rfl
 | v::l,cs,o,ho,hc=>by
  simp only[dN]at ho;split at ho
  ·rename_i hv
   have h0:=hc 0 (by simp);simp only[Nat.add_zero]at h0;cases hg:cs.get o with
   |none=>exact absurd hg h0
   |some x=>
    simp only[H.putCells,hv,hg,Bd];refine tq l _ _ ho (fun i hi=>?_);rw[T.bS,if_neg (by omega),show o+1+i=o+(i+1)by omega];exact hc _ (by simp only[List.length_cons];omega)
  ·cases ho
theorem FN{cs:T AV}{o:Nat}{l:List AV}(hl:oB 300 l=false):H.putRow cs o l=H.putCells cs o l:=by
 unfold H.putRow;split
 ·simp only[hl,Bool.false_and]
 ·rfl
theorem Bg{h:H}{b:Nat}:∀{k o:Nat},tV h b o k=true→∀i,i<k→cellAt h b (o+i)≠none
 |0,_,_,i,hi=>by omega
 |k+1,o,hh,i,hi=>by
  rw[nO,Bool.and_eq_true]at hh;cases i with
  |zero=>intro e;rw[Nat.add_zero]at e;rw[e]at hh;cases hh.1
  |succ i=>have:=Bg hh.2 i (by omega);rwa[show o+1+i=o+(i+1)by omega]at this
theorem uZ{h:H}{b o:Nat}{l:List AV}(hw:cj h b=true)(hc:tV h b o l.length=true)(ho:dN l=true)(hl:oB 300 l=false):h.put b o l=some (h.cm b o l):=by
 unfold cj at hw;split at hw
 ·rename_i n cs k hb
  have :H.putRow cs o l=some (Bd cs o l):=by
   rw[FN hl];refine tq l cs o ho (fun i hi=>?_);have:=Bg hc i hi;unfold cellAt at this;rwa[hb]at this
  unfold H.put H.cm;simp only[hb,this]
 ·cases hw
theorem b_{h:H}{b o:Nat}{l:List AV}(hw:cj h b=true)(b' o':Nat):cellAt (h.cm b o l) b' o'=if b'=b∧o≤o'∧o'<o+l.length then l[o'-o]? else cellAt h b' o':=by
 unfold cj at hw;split at hw
 ·rename_i n cs k hb
  unfold H.cm cellAt;simp only[hb,T.bS];by_cases e:b'=b
  ·subst e
   simp only[if_true,true_and,Be,hb]
  ·simp only[e,if_false,false_and]
 ·cases hw
theorem bN(h:H)(b o:Nat)(l:List AV)(b':Nat):cj (h.cm b o l) b'=cj h b':=by
 unfold H.cm;split
 ·rename_i n cs k hb
  unfold cj;simp only[T.bS];by_cases e:b'=b
  ·subst e;simp only[if_true,hb]
  ·simp only[e,if_false]
 ·rfl
theorem bI(h:H)(b o:Nat)(l:List AV):(h.cm b o l).nx=h.nx:=by
 unfold H.cm;split<;>rfl
theorem bT(h:H)(b o:Nat)(l:List AV){b':Nat}(hb:b'≠b):(h.cm b o l).t.get b'=h.t.get b':=by
 unfold H.cm;split
 ·simp only[T.bS,hb,if_false]
 ·rfl
theorem bJ(h:H)(t:TypeId)(l:List AV)(b o:Nat):cellAt (h.bq t l) b o=if b=h.nx then l[o]? else cellAt h b o:=by
 unfold cellAt H.bq H.alloc;simp only[T.bS];by_cases e:b=h.nx
 ·subst e;simp only[if_true,T.eG]
 ·simp only[e,if_false]
theorem cY(h:H)(t:TypeId)(l:List AV)(b:Nat):cj (h.bq t l) b=if b=h.nx then true else cj h b:=by
 unfold cj H.bq H.alloc;simp only[T.bS];by_cases e:b=h.nx
 ·subst e;simp only[if_true]
 ·simp only[e,if_false]
theorem dt(h:H)(t:TypeId)(l:List AV):(h.bq t l).nx=h.nx+1:=id rfl
theorem LS(h:H)(t:TypeId)(l:List AV){b:Nat}(hb:b≠h.nx):(h.bq t l).t.get b=h.t.get b:=by
 unfold H.bq H.alloc;simp only[T.bS,hb,if_false]
def ke:List (Option AV)→Option (List AV)
 |[]=>some []
 |some v::l=>match ke l with
  |some r=>some (v::r)
  |none=>none
 |none::_=>none
theorem HG(h:H)(b:Nat):∀(k o:Nat),H.row h b o (k+1)=ke ((aw o (k+1)).map (cellAt h b)):=by
 unfold H.row cellAt;cases hb:h.t.get b with
 |none=>intro k o;rfl
 | some x=>
  cases x with
  | cells n cs esz ro=>
   simp only[ie];have hz:∀(k o:Nat),H.loadCells cs o k=ke ((aw o k).map fun o=>cs.get o):=by
    intro k;induction k with
    |zero=>intro o;rfl
    |succ k ih=>
     intro o;simp only[H.loadCells,List.range'_succ,List.map_cons,ih (o+1)];cases cs.get o with
     |none=>rfl
     |some v=>simp only[ke];cases ke _<;>rfl
   exact fun k o=>hz (k+1) o
  |_=>intro k o;rfl
theorem c_{P:Program}{t:TypeId}(ht:Fb P t=false)(h:H)(b o:Nat):dJ P h t b o=cellAt h b o:=by
 unfold dJ cellAt;rw[ht];rfl
theorem NX{P:Program}{t:TypeId}{k:Nat}(ht:Fb P t=true)(hk:P.cellsOf t=k+1)(h:H)(b o:Nat):dJ P h t b o=(ke ((aw o (k+1)).map (cellAt h b))).map .agg:=by
 unfold dJ;rw[ht,hk,HG];cases ke _<;>rfl
end
end Go.AX
namespace Go.AX
noncomputable section
open Go.RowKit
section
variable{P:Program}{tm:T AV}{h:H}
theorem VO:(true==true)=true:=id rfl
theorem VP:(true==false)=false:=id rfl
theorem VQ:(false==true)=false:=id rfl
theorem VS:(false==false)=true:=id rfl
theorem DX(k:IntKind)(n:Nat):jY (.int k (no_index (@OfNat.ofNat Int n instOfNat)))=some (.int k (ak (@OfNat.ofNat Nat n (instOfNatNat n)))):=id rfl
theorem tu(k:IntKind)(n:Nat):jY (.int k (Int.negSucc n))=some (.int k (Int.negSucc n)):=id rfl
theorem DY(k:IntKind)(n:Nat):jY (.int k (-(no_index (@OfNat.ofNat Int n instOfNat))))=some (.int k (-(ak (@OfNat.ofNat Nat n (instOfNatNat n))))):=id rfl
theorem Bh(b:Bool):jY (.bool b)=some (.bool b):=id rfl
theorem DZ(s:ByteArray):jY (.string s)=some (.str (bytesOf s)):=id rfl
theorem u_:jY (.pointer none)=some .cN:=id rfl
theorem ri:jY (.slice none 0 0)=some .bh:=id rfl
theorem vd:jY (.map none)=some .dB:=id rfl
theorem tv:jY .nilFunc=some .nilFunc:=id rfl
theorem rj:jY .nilIface=some .nilIface:=id rfl
def P9:Option AV→Option AV
 |some v=>some v
 |none=>some jd
theorem Bi(v:AV):P9 (some v)=some v:=id rfl
def ob(x:Option AV)(k:AV→R):R:=
 match x with
 |some v=>k v
 |none=>.fail
theorem LU(v:AV)(k:AV→R):ob (some v) k=k v:=id rfl
def obs(x:Option (List AV))(k:List AV→R):R:=
 match x with
 |some v=>k v
 |none=>.fail
theorem HH(v:List AV)(k:List AV→R):obs (some v) k=k v:=id rfl
def obp(x:Option (List (Nat×AV)))(k:List (Nat×AV)→R):R:=
 match x with
 |some v=>k v
 |none=>.fail
theorem HI(v:List (Nat×AV))(k:List (Nat×AV)→R):obp (some v) k=k v:=id rfl
def obo(x:Option (Option AV))(k:Option AV→R):R:=
 match x with
 |some v=>k v
 |none=>.fail
theorem HJ(v:Option AV)(k:Option AV→R):obo (some v) k=k v:=id rfl
def obh(x:Option H):R:=
 match x with
 |some h=>.skip h
 |none=>.fail
theorem HK(h:H):obh (some h)= .skip h:=id rfl
def VT(x:Option AV)(l:Option (List AV)):Option (List AV):=
 match x with
 |none=>none
 |some v=>match l with
  |none=>none
  |some vs=>some (v::vs)
theorem Bj(v:AV)(l:List AV):VT (some v) (some l)=some (v::l):=id rfl
def VU(i:Nat)(x:Option AV)(l:Option (List (Nat×AV))):Option (List (Nat×AV)):=
 match x with
 |none=>none
 |some v=>match l with
  |none=>none
  |some vs=>some ((i,v)::vs)
theorem Bk(i:Nat)(v:AV)(l:List (Nat×AV)):VU i (some v) (some l)=some ((i,v)::l):=id rfl
def mapO(x:Option AV):Option (Option AV):=
 match x with
 |none=>none
 |some v=>some (some v)
theorem D9(v:AV):mapO (some v)=some (some v):=id rfl
theorem k_(t:Tmp):bP tm (.tmp t)=P9 (tm.get t):=by show(match tm.get t with|some v=>some v|none=>some jd)=_;cases tm.get t<;>rfl
theorem yp(v:Value):bP tm (.const v)=jY v:=id rfl
theorem Bl(f:FuncId):bP tm (.func f)=some (.func f [] []):=id rfl
theorem D_(t:Tmp):mg tm h (.tmp t)=P9 (tm.get t):=k_ t
theorem yq(v:Value):mg tm h (.const v)=jY v:=id rfl
theorem Bn:fD tm []=some []:=id rfl
theorem yr(x:Operand)(l:List Operand):fD tm (x::l)=VT (bP tm x) (fD tm l):=id rfl
theorem Ea:mh tm []=some []:=id rfl
theorem Bo(i:Nat)(x:Operand)(l:List (Nat×Operand)):mh tm ((i,x)::l)=VU i (bP tm x) (mh tm l):=id rfl
theorem Bp:kI tm none=some none:=id rfl
theorem Bq(x:Operand):kI tm (some x)=mapO (bP tm x):=id rfl
def Kr(c:AV)(a b:R):R:=
 match c with
 | .bool true=>a
 | .bool false=>b
 |_=>.fail
theorem Eb(a b:R):Kr (.bool true) a b=a:=id rfl
theorem Br(a b:R):Kr (.bool false) a b=b:=id rfl
theorem LV(x:Operand):bF P tm h (.move x)=ob (bP tm x) fun v=>.val v h:=by unfold bF eM ob;rfl
theorem Ec(x:Operand):bF P tm h (.assign x)=ob (bP tm x) fun v=>.val v h:=by unfold bF eM ob;rfl
theorem LW(c a b:Operand):bF P tm h (.pick c a b)=ob (bP tm c) fun c=>Kr c (ob (bP tm a) fun v=>.val v h) (ob (bP tm b) fun v=>.val v h):=by
 simp only[bF];cases bP tm c with
 |none=>rfl
 |some c=>cases c with
  |bool t=>cases t<;>rfl
  |_=>rfl
theorem vf(t:TypeId):bF P tm h (.alloc t)=ob (dv P t) fun z=>.val (.ptr h.nx 0) (h.bq t z.cells):=by unfold bF ob;rfl
def n_(h:H)(t:TypeId)(l:List AV):R:=
 match dN l with
 |true=>.val (.ptr h.nx 0) (h.bq t l)
 |false=>.fail
theorem jb{t:TypeId}{l:List AV}(ho:dN l=true):n_ h t l= .val (.ptr h.nx 0) (h.bq t l):=by unfold n_;rw[ho]
theorem P_(t:TypeId)(x:Operand):bF P tm h (.box t x)=ob (bP tm x) fun v=>n_ h t v.cells:=by unfold bF ob n_;rfl
theorem HL(t:TypeId)(parts:Array (Nat×Operand)):bF P tm h (.build t parts)=obp (mh tm parts.toList) fun l=>ob (wK P t l) fun v=>.val v h:=by unfold bF obp ob eM;rfl
theorem tA(t:TypeId)(n:Nat)(parts:Array (Nat×Operand)):bF P tm h (.buildSlice t n parts)=obp (mh tm parts.toList) fun l=>fV P t n l h:=by unfold bF obp;rfl
def XF(v:AV)(k:Nat→Nat→R):R:=
 match v with
 | .ptr b o=>k b o
 |_=>.fail
theorem HM(b o:Nat)(k:Nat→Nat→R):XF (.ptr b o) k=k b o:=id rfl
theorem LX{t:TypeId}(ht:eQ P t=true)(x:Operand):bF P tm h (.load t x)=ob (mg tm h x) fun v=>XF v fun b o=>ob (dJ P h t b o) fun v=>.val v h:=by
 simp only[bF,ht];cases mg tm h x with
 |none=>rfl
 |some v=>cases v<;>rfl
theorem HN{t:TypeId}(ht:eQ P t=true)(x y:Operand):bF P tm h (.store t x y)=ob (bP tm x) fun v=>ob (bP tm y) fun w=>XF v fun b o=>obh (eT P h t b o w):=by
 simp only[bF,ht];cases bP tm x with
 |none=>cases bP tm y<;>rfl
 |some v=>cases bP tm y with
  |none=>cases v<;>rfl
  |some w=>cases v<;>rfl
def XG(h:H)(v:AV):R:=
 match v with
 | .cN=>.fail
 | .nilIface=>.fail
 | .nilFunc=>.fail
 |v=>.val v h
theorem HO(b o:Nat):XG h (.ptr b o)= .val (.ptr b o) h:=id rfl
theorem Ed(f:FuncId)(a c:List AV):XG h (.func f a c)= .val (.func f a c) h:=id rfl
theorem yt(x:Operand):bF P tm h (.nilCheck x)=ob (bP tm x) fun v=>XG h v:=by
 simp only[bF];cases bP tm x with
 |none=>rfl
 |some v=>cases v<;>rfl
def ed(P:Program)(h:H)(op:BinOp)(t:TypeId)(x y:Operand)(a b:AV):R:=
 match d_ h a b with
 |true=>lW P op t h
 |false=>eM h (jR P op t x y a b)
theorem HP(op:BinOp)(t u:TypeId)(x y:Operand):bF P tm h (.binOp op t x y u)=ob (bP tm x) fun a=>ob (bP tm y) fun b=>ed P h op t x y a b:=by
 simp only[bF];cases bP tm x with
 |none=>cases bP tm y<;>rfl
 |some v=>cases bP tm y<;>rfl
def NY(h:H)(v:AV):R:=
 match v with
 | .bool b=>.val (.bool !b) h
 |_=>.fail
theorem Ee(b:Bool):NY h (.bool b)= .val (.bool !b) h:=id rfl
theorem HQ(t:TypeId)(x:Operand):bF P tm h (.unOp .not t x)=ob (bP tm x) fun v=>NY h v:=by
 simp only[bF];cases bP tm x with
 |none=>rfl
 |some v=>cases v<;>rfl
def Qa(f:FuncId)(a c:Option (List AV))(k:AV→R):R:=
 match a,c with
 |some a,some c=>k (.func f a c)
 |_,_=>.fail
theorem Bs(f:FuncId)(a c:List AV)(k:AV→R):Qa f (some a) (some c) k=k (.func f a c):=id rfl
theorem yu(f:FuncId)(first cap:Array Operand):bF P tm h (.makeFunc (.func f) first cap)=Qa f (fD tm first.toList) (fD tm cap.toList) fun v=>.val v h:=by
 simp only[bF,Qa];cases fD tm first.toList with
 |none=>cases fD tm cap.toList<;>rfl
 |some a=>cases fD tm cap.toList<;>rfl
theorem vg(t:TypeId)(x:Operand)(i:Nat):bF P tm h (.fieldAddr t x i)=ob (mg tm h x) fun v=>ob (bO P t v i) fun v=>.val v h:=by unfold bF ob eM;rfl
theorem HS(t:TypeId)(x:Operand)(i:Nat):bF P tm h (.field t x i)=ob (bP tm x) fun v=>ob (wL P t v i) fun v=>.val v h:=by unfold bF ob eM;rfl
theorem vh(t:TypeId)(x i:Operand):bF P tm h (.indexAddr t x i)=ob (mg tm h x) fun v=>ob (bP tm i) fun j=>ob (eu P t v j) fun v=>.val v h:=by
 simp only[bF];cases mg tm h x with
 |none=>cases bP tm i<;>rfl
 |some v=>cases bP tm i<;>rfl
theorem HT(t:TypeId)(x i:Operand):bF P tm h (.index t x i)=ob (bP tm x) fun v=>ob (bP tm i) fun j=>ob (nV P t v j) fun v=>.val v h:=by
 simp only[bF];cases bP tm x with
 |none=>cases bP tm i<;>rfl
 |some v=>cases bP tm i<;>rfl
def tupR(i:Nat)(v:AV)(k:AV→R):R:=
 match v with
 | .tuple vs=>ob vs[i]? k
 |_=>.fail
theorem Bt(i:Nat)(vs:List AV)(k:AV→R):tupR i (.tuple vs) k=ob vs[i]? k:=id rfl
theorem Bu(x:Operand)(i:Nat):bF P tm h (.extract x i)=ob (bP tm x) fun v=>tupR i v fun v=>.val v h:=by
 simp only[bF];cases bP tm x with
 |none=>rfl
 |some v=>cases v<;>rfl
theorem LY(f:Operand)(args:Array Operand)(Kg:Array TypeId):bF P tm h (.call ⟨.value f,args,Kg⟩)=obs (fD tm args.toList) fun vs=>ob (bP tm f) fun fv=>je P fv vs h:=by
 simp only[bF];cases fD tm args.toList with
 |none=>rfl
 |some vs=>cases bP tm f<;>rfl
theorem Bv(b:Builtin)(args:Array Operand)(Kg:Array TypeId):bF P tm h (.call ⟨.builtin b,args,Kg⟩)=obs (fD tm args.toList) fun vs=>bQ P b Kg.toList vs h:=by
 simp only[bF];cases fD tm args.toList<;>rfl
theorem bz(f:FuncId)(hf:nF P f=true)(first cap args:List AV):je P (.func f first cap) args h= .enter f (first ++args++cap) h:=by
 simp only[je,hf]
theorem yv(l:Nat)(args:List AV):je P (.yield l) args h= .round l args h:=id rfl
section
variable{t e:TypeId}{x y:Operand}
theorem fZ(k:IntKind):IntKind.Tf k k=true:=by cases k<;>rfl
theorem VV(k:IntKind)(m n:Int):ed P h .eql t x y (.int k m) (.int k n)= .val (.bool (m==n)) h:=by simp only[ed,d_,jR,fZ,qj,eM]
theorem VW(k:IntKind)(m n:Int):ed P h .neq t x y (.int k m) (.int k n)= .val (.bool (m != n)) h:=by simp only[ed,d_,jR,fZ,qj,eM]
theorem VX(k:IntKind)(m n:Int):ed P h .lss t x y (.int k m) (.int k n)= .val (.bool (decide (m<n))) h:=by simp only[ed,d_,jR,fZ,qj,eM]
theorem VY(k:IntKind)(m n:Int):ed P h .leq t x y (.int k m) (.int k n)= .val (.bool (decide (m≤n))) h:=by simp only[ed,d_,jR,fZ,qj,eM]
theorem VZ(k:IntKind)(m n:Int):ed P h .gtr t x y (.int k m) (.int k n)= .val (.bool (decide (n<m))) h:=by simp only[ed,d_,jR,fZ,qj,eM,gt_iff_lt]
theorem V0(k:IntKind)(m n:Int):ed P h .geq t x y (.int k m) (.int k n)= .val (.bool (decide (n≤m))) h:=by simp only[ed,d_,jR,fZ,qj,eM,ge_iff_le]
theorem V1(k:IntKind)(m n:Int):ed P h .add t x y (.int k m) (.int k n)= .val (.int k (bV k (m+n))) h:=by simp only[ed,d_,jR,fZ,qj,eM,cT]
theorem V2(k:IntKind)(m n:Int):ed P h .sub t x y (.int k m) (.int k n)= .val (.int k (bV k (m-n))) h:=by simp only[ed,d_,jR,fZ,qj,eM,cT]
theorem V3(k:IntKind)(m n:Int):ed P h .mul t x y (.int k m) (.int k n)= .val (.int k (bV k (m*n))) h:=by simp only[ed,d_,jR,fZ,qj,eM,cT]
theorem b_rem(k:IntKind)(m n:Int)(hn:(n==0)=false):ed P h .rem t x y (.int k m) (.int k n)= .val (.int k (m.tmod n)) h:=by simp only[ed,d_,jR,fZ,qj,eM,cT,hn];rfl
theorem b_quo(k:IntKind)(m n:Int)(hn:(n==0)=false):ed P h .quo t x y (.int k m) (.int k n)= .val (.int k (bV k (m.tdiv n))) h:=by simp only[ed,d_,jR,fZ,qj,eM,cT,hn];rfl
theorem XH(hu:P.underlying t=some .bool)(a b:Bool):ed P h .eql t x y (.bool a) (.bool b)= .val (.bool (a==b)) h:=by
 simp only[ed,d_,jR,jZ,sM,hu,eM]
theorem LZ(hu:P.underlying t=some (.pointer e))(b o:Nat):ed P h .eql t x y (.ptr b o) .cN= .val (.bool false) h:=by
 simp only[ed,d_,jR,jZ,sM,hu,eM]
theorem TL(hu:P.underlying t=some (.pointer e)):ed P h .eql t x y .cN .cN= .val (.bool true) h:=by
 simp only[ed,d_,jR,jZ,sM,hu,eM]
end
def Ks:List Oper→Nat→Option Tmp
 |[],_=>none
 |o::_,0=>o.dst
 |_::l,j+1=>Ks l j
theorem Ef(d:Option Tmp)(o:Op)(t:TypeId)(pos:String)(a:Array Edge)(g:Option (Nat×Bool))(l:List Oper):Ks ({dst:=d,op:=o,type:=t,pos:=pos,after:=a,guard:=g}::l) 0=d:=id rfl
theorem w9(o:Oper)(l:List Oper)(j:Nat):Ks (o::l) (j+1)=Ks l j:=id rfl
theorem Ku(ops:Array Oper)(j:Nat):kJ ops j=Ks ops.toList j:=by
 unfold kJ;generalize ops.toList=l;induction l generalizing j with
 |nil=>rfl
 |cons o l ih=>cases j with
  |zero=>rfl
  |succ j=>rw[w9,←ih j,List.getElem?_cons_succ]
def gB(x:Option AV)(w:Bool):Option Bool:=
 match x with
 |some (.bool b)=>some (b==w)
 |some (.tuple [])=>some false
 |_=>none
theorem Qb(w:Bool):gB (some jd) w=some false:=id rfl
theorem L3(b w:Bool):gB (some (.bool b)) w=some (b==w):=id rfl
def gD(d:Option Tmp)(tm:T AV)(w:Bool):Option Bool:=
 match d with
 |some d=>gB (tm.get d) w
 |none=>none
theorem L4(d:Tmp)(w:Bool):gD (some d) tm w=gB (tm.get d) w:=id rfl
theorem Eg(ops:Array Oper)(j:Nat)(w:Bool):gJ tm ops (j,w)=gD (Ks ops.toList j) tm w:=by
 unfold gJ;simp only[Ku];cases Ks ops.toList j with
 |none=>rfl
 |some d=>rfl
theorem Bw{α:Type}(n:Nat)(x:α)(l:List α):oB (n+1) (x::l)=oB n l:=id rfl
theorem Eh{α:Type}(n:Nat):oB (n+1) ([]:List α)=false:=id rfl
theorem dx{t:TypeId}(hk:P.cellsOf t=1){v:AV}(hv:v.cells=[v])(b o:Nat):eT P h t b o v=h.put b o [v]:=by
 unfold eT;rw[hv,hk];rfl
theorem ff{t:TypeId}{k:Nat}(hk:P.cellsOf t=k){l:List AV}(hl:l.length=k)(b o:Nat):eT P h t b o (.agg l)=h.put b o l:=by
 unfold eT;have e:(AV.agg l).cells=l:=rfl;rw[e,hk,hl,an]
theorem dG{t e:TypeId}{k:Nat}(hu:P.underlying t=some (.slice e))(he:eQ P e=true)(hk:P.cellsOf e=k)(b o len:Nat)(cap:ur)(kd:IntKind)(i:Nat):
  eu P t (.slice b o len cap) (.int kd (.ofNat i))=if i<len then some (.ptr b (o+i*k))else none:=by
 simp only[eu,hu,he,hk,Bool.and_true];by_cases q:i<len
 ·rw[if_pos q,show Nat.blt i len=true by rw[aq];exact q]
 ·rw[if_neg q,show Nat.blt i len=false by rw[←Bool.not_eq_true,aq];exact q]
theorem NZ{t e:TypeId}(hu:P.underlying t=some (.slice e))(b o len:Nat)(cap:ur):qE P t (.slice b o len cap) h=some len:=by simp only[qE,hu]
theorem len_nil{t e:TypeId}(hu:P.underlying t=some (.slice e)):qE P t .bh h=some 0:=by simp only[qE,hu]
theorem len_0{t e:TypeId}(hu:P.underlying t=some (.slice e)):qE P t .dq h=some 0:=by simp only[qE,hu]
theorem TN{t:TypeId}(hu:P.underlying t=some .string)(s:List Nat):qE P t (.str s) h=some s.length:=by simp only[qE,hu,dY]
theorem Qc(a b:Nat):decide (ak a<ak b)=decide (a<b):=by simp
theorem Qd(a b:Nat):decide (ak a≤ak b)=decide (a≤b):=by simp
theorem Kv(a b:Nat):(ak a==ak b)=decide (a=b):=by
 by_cases e:a=b
 ·subst e;simp
 ·have :¬ak a=ak b:=fun q=>e (Int.ofNat.inj q)
  rw[decide_eq_false e];exact beq_eq_false_iff_ne.2 this
theorem Qe(a b:Nat):(ak a != ak b)= !decide (a=b):=by
 show(!(ak a==ak b))=_;rw[Kv]
theorem sC{a b:Nat}(hs:a+b<18446744073709551616):bV .u64 (ak a+ak b)=ak (a+b):=by
 show(((a:Nat):Int)+((b:Nat):Int))%18446744073709551616=((a+b:Nat):Int);omega
theorem cq{a b:Nat}(hs:a+b<9223372036854775808):bV .i64 (ak a+ak b)=ak (a+b):=by
 have e:Int.emod (ak a+ak b) 18446744073709551616=ak (a+b):=by
  show(((a:Nat):Int)+((b:Nat):Int))%18446744073709551616=((a+b:Nat):Int);omega
 simp only[bV,e];rw[if_pos];show((a+b:Nat):Int)<9223372036854775808;omega
theorem sD{a b:Nat}(hb:b≤a)(ha:a<9223372036854775808):bV .i64 (ak a-ak b)=ak (a-b):=by
 have e:Int.emod (ak a-ak b) 18446744073709551616=ak (a-b):=by
  show(((a:Nat):Int)-((b:Nat):Int))%18446744073709551616=((a-b:Nat):Int);omega
 simp only[bV,e];rw[if_pos];show((a-b:Nat):Int)<9223372036854775808;omega
theorem HU(a b:Nat):Int.tmod (ak a) (ak b)=ak (a%b):=id rfl
theorem HV(a b:Nat):Int.tdiv (ak a) (ak b)=ak (a/b):=id rfl
theorem Bx(b:Bool):AV.cells (.bool b)=[.bool b]:=id rfl
theorem rm(b:Bool):AV.one (.bool b)=true:=id rfl
theorem Ei(k:IntKind)(n:Int):AV.cells (.int k n)=[.int k n]:=id rfl
theorem vi(k:IntKind)(n:Int):AV.one (.int k n)=true:=id rfl
theorem Ej(s:List Nat):AV.cells (.str s)=[.str s]:=id rfl
theorem L5(s:List Nat):AV.one (.str s)=true:=id rfl
theorem vj:AV.cells (.cN)=[.cN]:=id rfl
theorem By:AV.one (.cN)=true:=id rfl
theorem Ek(b o:Nat):AV.cells (.ptr b o)=[.ptr b o]:=id rfl
theorem L6(b o:Nat):AV.one (.ptr b o)=true:=id rfl
theorem rn:AV.cells (.bh)=[.bh]:=id rfl
theorem vk:AV.one (.bh)=true:=id rfl
theorem vm:AV.cells (.dq)=[.dq]:=id rfl
theorem Bz:AV.one (.dq)=true:=id rfl
theorem yw(b o l:Nat)(c:ur):AV.cells (.slice b o l c)=[.slice b o l c]:=id rfl
theorem El(b o l:Nat)(c:ur):AV.one (.slice b o l c)=true:=id rfl
theorem vn:AV.cells (.dB)=[.dB]:=id rfl
theorem BA:AV.one (.dB)=true:=id rfl
theorem Em(b:Nat):AV.cells (.map b)=[.map b]:=id rfl
theorem L7(b:Nat):AV.one (.map b)=true:=id rfl
theorem BB(f:FuncId)(a c:List AV):AV.cells (.func f a c)=[.func f a c]:=id rfl
theorem HW(f:FuncId)(a c:List AV):AV.one (.func f a c)=true:=id rfl
theorem yx(l:Nat):AV.cells (.yield l)=[.yield l]:=id rfl
theorem En(l:Nat):AV.one (.yield l)=true:=id rfl
theorem tB:AV.cells (.nilFunc)=[.nilFunc]:=id rfl
theorem yz:AV.one (.nilFunc)=true:=id rfl
theorem yA(t:TypeId)(v:AV):AV.cells (.iface t v)=[.iface t v]:=id rfl
theorem Eo(t:TypeId)(v:AV):AV.one (.iface t v)=true:=id rfl
theorem ru:AV.cells (.nilIface)=[.nilIface]:=id rfl
theorem vp:AV.one (.nilIface)=true:=id rfl
theorem Ep(l:List AV):AV.cells (.agg l)=l:=id rfl
def N0:List AV→AV
 |[v]=>v
 |vs=>.tuple vs
def Qf(P:Program)(l:List ResultVar)(tm:T AV)(h:H)(Q:AV→H→Prop):Prop:=
 match ic P tm h l with
 |some vs=>Q (N0 vs) h
 |none=>False
theorem bE{fn:Func}{l:List ResultVar}(hl:fn.results.toList=l){Q:AV→H→Prop}(hw:Qf P l tm h Q):nc P fn Q .ret [] tm h:=by
 unfold Qf at hw;split at hw
 ·rename_i vs hv
  refine⟨h,rfl,N0 vs,?_,hw⟩;unfold Fe;rw[hl,hv];cases vs with
  |nil=>rfl
  |cons v vs=>cases vs<;>rfl
 ·exact absurd hw id
theorem yB:ic P tm h []=some []:=id rfl
def V4(x:Option AV)(l:Option (List AV)):Option (List AV):=
 match l with
 |some vs=>some (x.getD jd::vs)
 |none=>none
theorem BC(v:AV)(l:List AV):V4 (some v) (some l)=some (v::l):=id rfl
theorem yC(t:Tmp)(l:List ResultVar):ic P tm h (.tmp t::l)=V4 (tm.get t) (ic P tm h l):=id rfl
theorem HX(v:AV):N0 [v]=v:=id rfl
theorem HY(v w:AV)(l:List AV):N0 (v::w::l)= .tuple (v::w::l):=id rfl
def qW(x:Option (List AV))(h:H)(Q:AV→H→Prop):Prop:=
 match x with
 |some vs=>Q (N0 vs) h
 |none=>False
theorem L8(vs:List AV)(Q:AV→H→Prop):qW (some vs) h Q=Q (N0 vs) h:=id rfl
theorem L9(l:List ResultVar)(Q:AV→H→Prop):Qf P l tm h Q=qW (ic P tm h l) h Q:=id rfl
theorem HZ(n k:Nat):(n=n+k)=(k=0):=by simp
theorem H_(n k:Nat):(n+k=n)=(k=0):=by simp
theorem BD(n a b:Nat):(n+a=n+b)=(a=b):=by simp
theorem bool_eq_self(b:Bool):(b==b)=true:=by cases b<;>rfl
def iw(h h':H)(S:List Nat):Prop:=h.nx≤h'.nx∧∀b,b<h.nx→b∉S→h'.t.get b=h.t.get b
theorem bo{h h':H}{b:Nat}(e:h'.t.get b=h.t.get b)(o:Nat):cellAt h' b o=cellAt h b o:=by unfold cellAt;rw[e]
theorem bC{h h':H}{b:Nat}(e:h'.t.get b=h.t.get b):cj h' b=cj h b:=by unfold cj;rw[e]
theorem iw.refl(h:H)(S:List Nat):iw h h S:=⟨Nat.le_refl _,fun _ _ _=>rfl⟩
theorem iw.cell{h h':H}{S:List Nat}(ho:iw h h' S){b:Nat}(hb:b<h.nx)(hs:b∉S)(o:Nat):cellAt h' b o=cellAt h b o:=bo (ho.2 b hb hs) o
theorem iw.wr{h h':H}{S:List Nat}(ho:iw h h' S){b:Nat}(hb:b<h.nx)(hs:b∉S):cj h' b=cj h b:=bC (ho.2 b hb hs)
theorem iw.cm{h h':H}{S:List Nat}(ho:iw h h' S){b o:Nat}{l:List AV}(hb:b∈S∨h.nx≤b):iw h (h'.cm b o l) S:=
 ⟨by rw[bI];exact ho.1,fun c hc hs=>by
  rw[bT _ _ _ _ (fun e=>by subst e;rcases hb with hb|hb<;>first|exact hs hb|omega)];exact ho.2 c hc hs⟩
theorem iw.new{h h':H}{S:List Nat}(ho:iw h h' S)(t:TypeId)(l:List AV):iw h (h'.bq t l) S:=
 ⟨by rw[dt];have:=ho.1;omega,fun c hc hs=>by rw[LS _ _ _ (by have:=ho.1;omega)];exact ho.2 c hc hs⟩
end
end
end Go.AX
