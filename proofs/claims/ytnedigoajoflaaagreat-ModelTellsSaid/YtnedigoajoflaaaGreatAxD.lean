/-
  AX: operations: entries of maps, walks; and all operations together.
-/
import Derived.Test.YtnedigoajoflaaaGreatAxC
import Derived.Recover
set_option linter.unusedSimpArgs false
set_option linter.unusedVariables false
set_option linter.unusedSectionVars false
set_option linter.defProp false
set_option maxHeartbeats 8000000
open Array renaming getElem?_toList→ak,toList_map→ao,toList_append→az
open Bool renaming false_eq_true→al,and_eq_true→aA
open Nat renaming le_of_ble_eq_true→an,eq_of_beq_eq_true→aq,add_zero→au,ne_of_beq_eq_false→aw
open List renaming foldlM_cons→aB,foldlM_nil→aC,findIdx?_cons→aD
namespace Go.AX
open Go.RowKit
section
variable{P:Program}{N:NN}{φ:cX}{h h':H}{w:World}
theorem uT{born:Int}:∀(es:List (AV×AV×Nat))(dc:List MapEntry)(i j:Nat),uz born es i=some j→bH (nA φ) es dc→
  i≤j∧dc.findIdx? (fun e=>(e.born:Int)==born)=some (j-i)
 |[],dc,i,j,h,he=>by cases h
 | e::es,dc,i,j,h,he=>by
  obtain⟨ce,cr,rfl,⟨h1,h2,h3⟩,hr⟩:=bH.bM.1 he;simp only[uz]at h;have hb:(Int.ofNat e.2.2==born)=((ce.born:Int)==born):=by rw[h3];rfl
  split at h
  ·rename_i q
   cases h;rw[hb]at q;exact⟨Nat.le_refl _,by rw[aD,if_pos q];simp⟩
  ·rename_i q
   rw[hb]at q;obtain⟨g1,g2⟩:=uT es cr (i+1) j h hr;refine⟨by omega,?_⟩;rw[aD,if_neg (by simp[q]),g2];simp;omega
theorem y_(hr:HR N φ h w){t:TypeId}{x s v:AV}{cx cs cv:Value}(hx:VR φ x cx)(hs:VR φ s cs)(hv:VR φ v cv)(hu:qF x s v h=some h'):
  UOk P N φ w (Instr.entryStore t cx cs cv) h':=by
 unfold qF at hu;split at hu
 ·rename_i r k born
  simp only[nX]at hx;obtain⟨L,hL,rfl⟩:=hx;simp only[db]at hs;subst hs;split at hu
  ·rename_i es clock hb
   split at hu
   ·rename_i i hf
    cases hu;obtain⟨hN,dc,g1,g2⟩:=hr.get hb hL;have dH:∀c t f,(Obj.map dc clock)≠.cells c t f:=fun _ _ _=>by simp
    obtain⟨_,OW⟩:=uT es dc.toList 0 i hf g2;have hf2:dc.findIdx? (fun e=>(e.born:Int)==born)=some i:=by
     have e:dc=dc.toList.toArray:=by simp
     rw[e,List.findIdx?_toArray];simpa using OW
    have hm:=jI hr hb hL (es':=jF v es i) (ces':=dc.modify i fun e=>{e with val:=cv}) clock (by
     rw[Array.toList_modify];have :∀(es:List (AV×AV×Nat))(dc:List MapEntry)(i:Nat),bH (nA φ) es dc→bH (nA φ) (jF v es i) (dc.modify i fun e=>{e with val:=cv}):=by
      intro es;induction es with
      |nil=>intro dc i he;rw[bH.ct]at he;subst he;simp[jF]
      |cons e es ih=>
       intro dc i he;obtain⟨ce,cr,rfl,⟨h1,h2,h3⟩,hr⟩:=bH.bM.1 he;cases i with
       |zero=>exact⟨⟨h1,hv,h3⟩,hr⟩
       |succ i=>exact⟨⟨h1,h2,h3⟩,ih cr i hr⟩
     exact this es dc.toList i g2)
    refine⟨φ,_,?_,φ.le_refl,hm.1,hm.2⟩;simp only[Instr.entryStore,Sem.run_bind,cP g1 dH,Result.andThen_ok,asInt,asIntOf,Sem.run_pure,hf2,ey g1 dH]
   ·cases hu
  ·cases hu
 ·cases hu
theorem mW(hr:HR N φ h w){o:iI}{O:Obj}(ho:∀ψ,φ.le ψ→OR ψ N ⟨w.heap.size,0,0⟩ {w with heap:=w.heap.push O} o):
  HR N (φ.ins h.nx ⟨w.heap.size,0,0⟩) (h.alloc o) {w with heap:=w.heap.push O}∧φ.le (φ.ins h.nx ⟨w.heap.size,0,0⟩):=
 hr.push O 0 0 o rfl (ho _ (cX.qK _ (hr.lt _ (Nat.le_refl _))))
theorem J2(hr:HR N φ h w)(hN:N≤w.heap.size){t:TypeId}{x v:AV}{cx:Value}(hx:VR φ x cx)(hu:nT P t x h= .val v h'):
  qD P N φ w (Instr.range t cx) v h':=by
 unfold nT at hu;split at hu
 ·rename_i s wO
  simp only[R.val.injEq]at hu;obtain⟨rfl,rfl⟩:=hu;simp only[fE]at hx;obtain⟨b,rfl,rfl⟩:=hx;have hp:=mW hr (o:=.jW (bytesOf b) 0) (O:=.stringIter b 0) (fun ψ _=>⟨⟨hN,rfl⟩,b,by simp,rfl⟩);refine⟨_,.pointer (some ⟨w.heap.size,0,none⟩),_,?_,?_,hp.2,hp.1,fc _ hN⟩
  ·simp only[Instr.range,Sem.run_bind,run_underlying wO,Result.andThen_ok,Sem.run_pure,run_newObj]
  ·rw[dS];exact⟨_,cX.cS _ _ _,by simp⟩
 ·rename_i k e wO
  simp only[R.val.injEq]at hu;obtain⟨rfl,rfl⟩:=hu;simp only[oE]at hx;subst hx;have hp:=mW hr (o:=.mapIter none 0 [] 0) (O:=.mapIter none 0 #[] 0) (fun ψ _=>⟨⟨hN,rfl⟩,none,by simp,rfl⟩);refine⟨_,.pointer (some ⟨w.heap.size,0,none⟩),_,?_,?_,hp.2,hp.1,fc _ hN⟩
  ·simp only[Instr.range,Sem.run_bind,run_underlying wO,Result.andThen_ok,Sem.run_pure,run_newObj]
  ·rw[dS];exact⟨_,cX.cS _ _ _,by simp⟩
 ·rename_i k e m wO
  simp only[nX]at hx;obtain⟨L,hL,rfl⟩:=hx;split at hu
  ·rename_i es clock hb
   simp only[R.val.injEq]at hu;obtain⟨rfl,rfl⟩:=hu;obtain⟨dc,g1,g2⟩:=hr.mapOf hb hL;have hp:=mW hr (o:=.mapIter (some m) clock [] clock) (O:=.mapIter (some L.B) clock #[] clock) (fun ψ hle=>⟨⟨hN,rfl⟩,some L.B,by simp,L,hle _ _ hL,rfl⟩);refine⟨_,.pointer (some ⟨w.heap.size,0,none⟩),_,?_,?_,hp.2,hp.1,fc _ hN⟩
   ·simp only[Instr.range,Sem.run_bind,run_underlying wO,Result.andThen_ok,cP g1 (fun _ _ _=>by simp),Sem.run_pure,run_newObj]
   ·rw[dS];exact⟨_,cX.cS _ _ _,by simp⟩
  ·cases hu
 ·cases hu
theorem qU(x:Nat):∀l:List Nat,iM l x= !l.contains x
 |[]=>rfl
 | y::l=>by
  simp only[iM,List.contains_cons];cases h:Nat.beq x y
  ·have:=aw h
   simp[this,qU x l]
  ·have:=aq h
   simp[this]
theorem tN(seen:List Nat):∀(es:List (AV×AV×Nat))(dc:List MapEntry),bH (nA φ) es dc→
  bH (nA φ) (es.filter fun e=>iM seen e.2.2) (dc.filter fun e=> !seen.toArray.contains e.born)
 |[],dc,he=>by rw[bH.ct]at he;subst he;simp
 |e::es,dc,he=>by
  obtain⟨ce,cr,rfl,⟨h1,h2,h3⟩,hr⟩:=bH.bM.1 he;have ih:=tN seen es cr hr;have hb:iM seen e.2.2= !seen.toArray.contains ce.born:=by rw[qU,h3];simp
  simp only[List.filter_cons,hb];cases seen.toArray.contains ce.born
  ·exact⟨⟨h1,h2,h3⟩,ih⟩
  ·exact ih
theorem Lv(last:Nat):∀(es:List (AV×AV×Nat))(dc:List MapEntry),bH (nA φ) es dc→(es.all fun e=>Nat.ble last e.2.2)=(dc.all fun e=>decide (e.born≥last))
 |[],dc,he=>by rw[bH.ct]at he;subst he;simp
 |e::es,dc,he=>by
  obtain⟨ce,cr,rfl,⟨h1,h2,h3⟩,hr⟩:=bH.bM.1 he;simp only[List.all_cons,Lv last es cr hr];congr 1;rw[h3,Bool.eq_iff_iff];simp
theorem NA(hr:HR N φ h w){t:TypeId}{x v:AV}{cx:Value}{isS:Bool}(hx:VR φ x cx)(hu:Dn x isS h= .val v h'):
  qD P N φ w (Instr.next cx isS t) v h':=by
 unfold Dn at hu;split at hu
 ·rename_i r
  simp only[dS]at hx;obtain⟨L,hL,rfl⟩:=hx;split at hu
  ·rename_i s pos hb
   obtain⟨⟨hN,Du⟩,ba,g1,g2⟩:=hr.get hb hL;have dH:∀c t f,(Obj.stringIter ba pos)≠.cells c t f:=fun _ _ _=>by simp
   split at hu
   ·rename_i x hx
    split at hu
    ·rename_i fW
     simp only[R.val.injEq]at hu;obtain⟨rfl,rfl⟩:=hu;have fW:x<128:=an fW;rw[←g2]at hx;simp only[bytesOf,List.getElem?_map]at hx;cases hq:ba.data.toList[pos]? with
     |none=>rw[hq]at hx;cases hx
     | some u=>
      rw[hq]at hx;simp only[Option.map_some,Option.some.injEq]at hx;have hps:=(List.getElem?_eq_some_iff.1 hq);obtain⟨CG,J3⟩:=hps;have PF:pos<ba.size:=by simpa using CG
      have Fg:ba.get! pos=u:=by
       have :pos<ba.data.size:=by simpa using CG
       show ba.data[pos]! =u;rw[getElem!_pos ba.data pos this];rw[←J3];simp
      have PG:Utf8.decode ba pos=(x,1):=by
       simp only[Utf8.decode,au,Fg,hx];rw[if_pos (by simpa using fW)]
      have Gt:OR φ N L (jg w L.B (.stringIter ba (pos+1))) (.jW s (pos+1)):=
       ⟨⟨hN,Du⟩,ba,by rw[eY (hr.get hb hL).lt,if_pos rfl],g2⟩
      refine⟨φ,.tuple #[.bool true,goInt pos,.int .i32 x],jg w L.B (.stringIter ba (pos+1)),?_,by simp[bH,goInt],φ.le_refl,
       hr.set hb hL _ (fun k hk=>by rw[eY (hr.get hb hL).lt,if_neg hk]) Gt,fF _ hN⟩
      simp only[Instr.next,Du,au,Sem.run_bind,cP g1 dH,Result.andThen_ok,PF,if_true,PG,ey g1 dH,Sem.run_pure]
    ·cases hu
   ·rename_i hx
    simp only[R.val.injEq]at hu;obtain⟨rfl,rfl⟩:=hu;refine Pu.pV hr ⟨.tuple #[.bool false],?_,by simp[bH]⟩;have PF:¬pos<ba.size:=by
     rw[←g2]at hx;simp only[bytesOf,List.getElem?_map,Option.map_eq_none_iff,List.getElem?_eq_none_iff]at hx;have :ba.data.toList.length=ba.size:=by simp
     omega
    simp only[Instr.next,Du,au,Sem.run_bind,cP g1 dH,Result.andThen_ok,PF,if_false,Sem.run_pure]
  ·rename_i since seen last hb
   simp only[R.val.injEq]at hu;obtain⟨rfl,rfl⟩:=hu;obtain⟨⟨hN,Du⟩,m',g1,g2⟩:=hr.get hb hL;simp only at g2;subst g2;refine Pu.pV hr ⟨.tuple #[.bool false],?_,by simp[bH]⟩;have dH:∀c t f,(Obj.mapIter none since seen.toArray last)≠.cells c t f:=fun _ _ _=>by simp
   simp only[Instr.next,Du,au,Sem.run_bind,cP g1 dH,Result.andThen_ok,Sem.run_pure]
  ·rename_i m since seen last hb
   split at hu
   ·rename_i es clock hm
    obtain⟨⟨hN,Du⟩,m',g1,M,hM,rfl⟩:=hr.get hb hL;obtain⟨hN',dc,g3,g4⟩:=hr.get hm hM;have dH:∀c t f,(Obj.mapIter (some M.B) since seen.toArray last)≠.cells c t f:=fun _ _ _=>by simp
    have To:∀c t f,(Obj.map dc clock)≠.cells c t f:=fun _ _ _=>by simp
    have GR:(!seen.toArray.isEmpty&& !dc.isEmpty&&dc.all fun e=>decide (e.born≥last))=(!seen.isEmpty&& !es.isEmpty&&es.all fun e=>Nat.ble last e.2.2):=by
     rw[Lv last es dc.toList g4];have e1:es.isEmpty=dc.isEmpty:=by
      have:=g4.length;rw[Bool.eq_iff_iff,List.isEmpty_iff,Array.isEmpty_iff,←List.length_eq_zero_iff,this];simp
     rw[e1];simp
    split at hu
    ·cases hu
    ·rename_i hcf
     rw[hcf]at GR;have zb:=tN seen es dc.toList g4;have SV:(dc.filter fun e=> !seen.toArray.contains e.born).toList=dc.toList.filter fun e=> !seen.toArray.contains e.born:=by simp
     split at hu
     ·rename_i hl
      simp only[R.val.injEq]at hu;obtain⟨rfl,rfl⟩:=hu;rw[hl,bH.ct,←SV]at zb;have PH:(dc.filter fun e=> !seen.toArray.contains e.born)= #[]:=Array.toList_eq_nil_iff.1 zb;refine Pu.pV hr ⟨.tuple #[.bool false],?_,by simp[bH]⟩;simp only[Instr.next,Du,au,Sem.run_bind,cP g1 dH,Result.andThen_ok,cP g3 To,GR,al,if_false,PH];simp[Question.forced]
     ·rename_i e hl
      split at hu
      ·rename_i hbl
       simp only[R.val.injEq]at hu;obtain⟨rfl,rfl⟩:=hu;rw[hl]at zb;obtain⟨ce,cr,ta,⟨e1,e2,e3⟩,qo⟩:=bH.bM.1 zb;rw[bH.ct]at qo;subst qo;rw[←SV]at ta;have PH:(dc.filter fun e=> !seen.toArray.contains e.born)= #[ce]:=Array.ext' ta;have fW:ce.born<since:=by
        rw[e3];have q:=an hbl;omega
       have Gt:OR φ N L (jg w L.B (.mapIter (some M.B) since (seen.toArray.push ce.born) clock)) (.mapIter (some m) since (seen++[e.2.2]) clock):=by
        refine⟨⟨hN,Du⟩,some M.B,?_,M,hM,rfl⟩;rw[eY (hr.get hb hL).lt,if_pos rfl,e3];simp
       refine⟨φ,.tuple #[.bool true,ce.key,ce.val],jg w L.B (.mapIter (some M.B) since (seen.toArray.push ce.born) clock),?_,by simp[bH,e1,e2],φ.le_refl,
        hr.set hb hL _ (fun k hk=>by rw[eY (hr.get hb hL).lt,if_neg hk]) Gt,fF _ hN⟩
       simp only[Instr.next,Du,au,Sem.run_bind,cP g1 dH,Result.andThen_ok,cP g3 To,GR,al,if_false,PH];have J4:¬(since≤ce.born):=by omega
       simp[fW,J4,Question.forced,ey g1 dH]
      ·cases hu
     ·cases hu
   ·cases hu
  ·cases hu
 ·cases hu
theorem ya:∀(l:List Nat)(b:Nat),wJ l=some b→l.toArray.back? =some b
 |[],_,h=>by cases h
 |[x],b,h=>by simp only[wJ,Option.some.injEq]at h;subst h;rfl
 |x::y::l,b,h=>by
  have:=ya (y::l) b (by simpa[wJ]using h);simpa using this
theorem tf(b:Nat):∀(es:List (AV×AV×Nat))(dc:List MapEntry)(v:AV),bH (nA φ) es dc→mF b es=some v→
  ∃ce,dc.find? (fun e=>e.born==b)=some ce∧VR φ v (.tuple #[ce.key,ce.val])
 |[],_,_,_,h=>by cases h
 | e::es,dc,v,he,h=>by
  obtain⟨ce,cr,rfl,⟨h1,h2,h3⟩,hr⟩:=bH.bM.1 he;simp only[mF]at h;split at h
  ·rename_i hb
   simp only[Option.some.injEq]at h;subst h;have:=aq hb;exact⟨ce,by simp[h3,this],by simp[bH,h1,h2]⟩
  ·rename_i hb
   have:=aw hb;obtain⟨c,q1,q2⟩:=tf b es cr v hr h;exact⟨c,by simp[h3,this,q1],q2⟩
theorem J5(hr:HR N φ h w){x v:AV}{cx:Value}(hx:VR φ x cx)(hu:nU x h=some v):∃cv,(Instr.entry cx).run P w= .ok cv w∧VR φ v cv:=by
 unfold nU at hu;split at hu
 ·rename_i r
  simp only[dS]at hx;obtain⟨L,hL,rfl⟩:=hx;split at hu
  ·rename_i m since seen uw hb
   split at hu
   ·rename_i Dm es clock hl hm
    split at hu
    ·rename_i hc
     have hc:=aq hc;subst hc;obtain⟨⟨hN,Du⟩,m',g1,M,hM,rfl⟩:=hr.get hb hL;obtain⟨dc,g3,g4⟩:=hr.mapOf hm hM;have dH:∀c t f,(Obj.mapIter (some M.B) since seen.toArray clock)≠.cells c t f:=fun _ _ _=>by simp
     have To:∀c t f,(Obj.map dc clock)≠.cells c t f:=fun _ _ _=>by simp
     obtain⟨ce,q1,q2⟩:=tf Dm es dc.toList v g4 hu;refine⟨_,?_,q2⟩;have hbk:=ya _ _ hl;have hf:dc.find? (fun e=>e.born==Dm)=some ce:=by rw[←Array.find?_toList];exact q1
     simp only[Instr.entry,Du,au,Sem.run_bind,cP g1 dH,Result.andThen_ok,hbk,cP g3 To,bne_self_eq_false,al,if_false,hf,Sem.run_pure]
    ·cases hu
   ·cases hu
  ·cases hu
 ·cases hu
end
end Go.AX
namespace Go.AX
open Go.RowKit
def ev(tmps:Array Value):Operand→Value
 | .tmp t=>tmps.getD t undef
 | .const v=>v
 | .global g=>.pointer (some ⟨g,0,none⟩)
 | .func f=>.func (.func f) #[] #[]
theorem Frame.Ft(fr:Frame):fr.eval=ev fr.tmps:=by
 funext x;cases x<;>rfl
section
variable{P:Program}{N:NN}{φ:cX}{h h':H}{w:World}{nt:Nat}{tm:T AV}{tmps:Array Value}
theorem bR(tr:TR φ nt tm tmps){x:Operand}{v:AV}(h:bP tm x=some v):VR φ v (ev tmps x):=by
 cases x with
 |tmp t=>
  have:=tr.2 t;simp only[bP]at h;split at h
  ·rename_i u hu;cases h;rw[hu]at this;exact this
  ·rename_i hu;cases h;rw[hu]at this;exact this
 |const v=>exact Dr h
 |global g=>cases h
 |func f=>cases h;rw[uD];exact⟨#[],#[],rfl,trivial,trivial⟩
theorem wP(tr:TR φ nt tm tmps)(hr:HR N φ h w){x:Operand}{v:AV}(e:mg tm h x=some v):VR φ v (ev tmps x):=by
 unfold mg at e;split at e
 ·rename_i g
  split at e
  ·rename_i hg
   cases e;rw[dS];exact⟨_,hr.CD g (an hg),rfl⟩
  ·cases e
 ·exact bR tr e
theorem mX(tr:TR φ nt tm tmps):∀{l:List Operand}{vs:List AV},fD tm l=some vs→bH (VR φ) vs (l.map (ev tmps))
 |[],vs,h=>by simp only[fD,Option.some.injEq]at h;subst h;trivial
 | x::l,vs,h=>by
  simp only[fD]at h;split at h
  ·cases h
  ·rename_i v hv
   split at h
   ·cases h
   ·rename_i vs' G7;cases h;exact⟨bR tr hv,mX tr G7⟩
theorem su(tr:TR φ nt tm tmps):∀{l:List (Nat×Operand)}{vs:List (Nat×AV)},mh tm l=some vs→
  bH (fun(a:Nat×AV)(b:Nat×Value)=>a.1=b.1∧VR φ a.2 b.2) vs (l.map fun p=>(p.1,ev tmps p.2))
 |[],vs,h=>by simp only[mh,Option.some.injEq]at h;subst h;trivial
 | (i,x)::l,vs,h=>by
  simp only[mh]at h;split at h
  ·cases h
  ·rename_i v hv
   split at h
   ·cases h
   ·rename_i vs' G7;cases h;exact⟨⟨rfl,bR tr hv⟩,su tr G7⟩
theorem oK(tr:TR φ nt tm tmps){x:Option Operand}{v:Option AV}(h:kI tm x=some v):mA φ v (x.map (ev tmps)):=by
 cases x with
 |none=>simp only[kI,Option.some.injEq]at h;subst h;rfl
 |some x=>
  simp only[kI]at h;split at h
  ·cases h
  ·rename_i u hu;cases h;exact⟨_,rfl,bR tr hu⟩
def RR(P:Program)(N:NN)(φ:cX)(w:World)(m:Result Next):R→Prop
 | .val v h'=>∃gA cv w',m= .ok (.value cv) w'∧VR gA v cv∧φ.le gA∧HR N gA h' w'∧Below N w w'
 | .skip h'=>∃gA w',m= .ok .skip w'∧φ.le gA∧HR N gA h' w'∧Below N w w'
 | .enter f args h'=>∃cargs,m= .ok (.enter f cargs) w∧bH (VR φ) args cargs.toList∧HR N φ h' w
 | .ext f args h'=>∃cargs,m=(callFunc f cargs).run P w∧bH (VR φ) args cargs.toList∧HR N φ h' w
 | .round l args h'=>∃L cargs,φ l=some L∧m=(Instr.yield L.B cargs).run P w∧bH (VR φ) args cargs.toList∧HR N φ h' w
 | .defer d h'=>∃cd,m= .ok (.defer cd) w∧DR φ d cd∧HR N φ h' w
 | .recover h'=>m= .ok .recover w∧HR N φ h' w
 | .panic v h'=>∃cv,m= .halt (.panic cv) w∧VR φ v cv∧HR N φ h' w
 | .fail=>True
theorem qD.rr{m:Sem Value}{v:AV}(x:qD P N φ w m v h'):RR P N φ w ((do pure (Next.value (←m)):Sem Next).run P w) (.val v h'):=by
 obtain⟨gA,cv,w',h1,h2⟩:=x;exact⟨gA,cv,w',by simp only[Sem.run_bind,h1,Result.andThen_ok,Sem.run_pure],h2⟩
theorem UOk.rr{m:Sem Unit}(x:UOk P N φ w m h'):RR P N φ w ((do m;pure Next.skip:Sem Next).run P w) (.skip h'):=by
 obtain⟨gA,w',h1,h2⟩:=x;exact⟨gA,w',by simp only[Sem.run_bind,h1,Result.andThen_ok,Sem.run_pure],h2⟩
theorem gE{m:Sem Value}{o:Option AV}(hr:HR N φ h w)(x:∀v,o=some v→Pu P φ w m v):RR P N φ w ((do pure (Next.value (←m)):Sem Next).run P w) (eM h o):=by
 cases o with
 |none=>trivial
 |some v=>exact((x v rfl).pV hr).rr
theorem zq{m:Sem Unit}{o:Option H}(x:∀h',o=some h'→UOk P N φ w m h'):RR P N φ w ((do m;pure Next.skip:Sem Next).run P w) (O9 o):=by
 cases o with
 |none=>trivial
 |some h'=>exact(x h' rfl).rr
theorem i_{m:Sem Value}{r:R}(hs:(∃v h',r= .val v h')∨r= .fail)(x:∀v h',r= .val v h'→qD P N φ w m v h'):RR P N φ w ((do pure (Next.value (←m)):Sem Next).run P w) r:=by
 rcases hs with⟨v,h',rfl⟩|rfl
 ·exact(x v h' rfl).rr
 ·trivial
theorem uU{f:FuncId}(h:nF P f=true)(args:Array Value):(callFunc f args).run P w= .ok (.enter f args) w:=by
 unfold nF at h;split at h
 ·rename_i fn hf
  simp only[aA,Bool.not_eq_true']at h;have hb:fn.body.isNone=false:=by cases hx:fn.body<;>simp_all
  simp only[callFunc,Sem.run_bind,run_program,Result.andThen_ok,hf,h.2,al,if_false,hb,Sem.run_pure]
 ·cases h
theorem Dv(hr:HR N φ h w){f:AV}{cf:Value}{args:List AV}{cargs:Array Value}(hf:VR φ f cf)(ha:bH (VR φ) args cargs.toList):
  RR P N φ w ((do let d ←Deferred.ofValue cf cargs;invoke d.target d.args).run P w) (je P f args h):=by
 unfold je;split
 ·rename_i g first cap
  simp only[uD]at hf;obtain⟨a,b,rfl,h1,h2⟩:=hf;split
  ·rename_i he
   refine⟨a++cargs++b,?_,by simp only[az];exact(h1.append ha).append h2,hr⟩;simp only[Deferred.ofValue,Sem.run_bind,Sem.run_pure,Result.andThen_ok,invoke,uU he]
  ·refine⟨a++cargs++b,?_,by simp only[az];exact(h1.append ha).append h2,hr⟩
   simp only[Deferred.ofValue,Sem.run_bind,Sem.run_pure,Result.andThen_ok,invoke]
 ·simp only[GL]at hf;obtain⟨L,hL,rfl⟩:=hf
  refine⟨L,cargs,hL,?_,ha,hr⟩;simp only[Deferred.ofValue,Sem.run_bind,Sem.run_pure,Result.andThen_ok,invoke,Array.empty_append]
 ·trivial
theorem tg{e:TypeId}{size n:Nat}{s:AV}{new:List AV}{h:H}:(∃v h',du e size s n new h= .val v h')∨du e size s n new h= .fail:=by
 unfold du;repeat' (first|(exact .inr rfl)|(exact .inl ⟨_,_,rfl⟩)|split|simp only[])
theorem Fu{e:TypeId}{s x:AV}{h:H}:(∃v h',lz P e s x h= .val v h')∨lz P e s x h= .fail:=by
 unfold lz;repeat' (first|(exact .inr rfl)|(exact .inl ⟨_,_,rfl⟩)|exact tg|split|simp only[])
theorem CL{e:TypeId}{s x:AV}{h:H}:(∃v h',r9 P e s x h= .val v h')∨r9 P e s x h= .fail:=by
 unfold r9;repeat' (first|(exact .inr rfl)|(exact .inl ⟨_,_,rfl⟩)|exact tg|split|simp only[])
theorem zd{t:TypeId}{p:AV}{n:Nat}{h:H}:(∃v h',iN P t p n h= .val v h')∨iN P t p n h= .fail:=by
 unfold iN;repeat' (first|(exact .inr rfl)|(exact .inl ⟨_,_,rfl⟩)|split|simp only[])
theorem J6{e:TypeId}{s x:AV}{h:H}:(∃v h',zN P e s x h= .val v h')∨zN P e s x h= .fail:=by
 unfold zN;repeat' (first|(exact .inr rfl)|(exact .inl ⟨_,_,rfl⟩)|split|simp only[])
theorem wQ{t:TypeId}{len:Nat}{l:List (Nat×AV)}{h:H}:(∃v h',fV P t len l h= .val v h')∨fV P t len l h= .fail:=by
 unfold fV;repeat' (first|(exact .inr rfl)|(exact .inl ⟨_,_,rfl⟩)|split|simp only[])
theorem zf{t:TypeId}{a b:AV}{h:H}:(∃v h',jG P t a b h= .val v h')∨jG P t a b h= .fail:=by
 unfold jG;repeat' (first|(exact .inr rfl)|(exact .inl ⟨_,_,rfl⟩)|split|simp only[])
theorem Aj{t:TypeId}{x:AV}{h:H}:(∃v h',iz P t x h= .val v h')∨iz P t x h= .fail:=by
 unfold iz;repeat' (first|(exact .inr rfl)|(exact .inl ⟨_,_,rfl⟩)|split|simp only[])
theorem wR{t:TypeId}{x:AV}{h:H}:(∃v h',fA P t x h= .val v h')∨fA P t x h= .fail:=by
 unfold fA;repeat' (first|(exact .inr rfl)|(exact .inl ⟨_,_,rfl⟩)|split|simp only[])
theorem CM{a b:TypeId}{x:AV}{h:H}:(∃v h',gF P a b x h= .val v h')∨gF P a b x h= .fail:=by
 unfold gF;repeat' (first|(exact .inr rfl)|(exact .inl ⟨_,_,rfl⟩)|(simp only[cT];exact .inl ⟨_,_,rfl⟩)|split|simp only[])
theorem Ak{t:TypeId}{a b:AV}{h:H}:(∃v h',mE P t a b h= .val v h')∨mE P t a b h= .fail:=by
 unfold mE;repeat' (first|(exact .inr rfl)|(exact .inl ⟨_,_,rfl⟩)|split|simp only[])
theorem G8{t:TypeId}{a:AV}{h:H}:(∃v h',nT P t a h= .val v h')∨nT P t a h= .fail:=by
 unfold nT;repeat' (first|(exact .inr rfl)|(exact .inl ⟨_,_,rfl⟩)|split|simp only[])
theorem J7{a:AV}{b:Bool}{h:H}:(∃v h',Dn a b h= .val v h')∨Dn a b h= .fail:=by
 unfold Dn;repeat' (first|(exact .inr rfl)|(exact .inl ⟨_,_,rfl⟩)|split|simp only[])
end
end Go.AX
namespace Go.AX
open Go.RowKit
section
variable{P:Program}{N:NN}{φ:cX}{h h':H}{w:World}{nt:Nat}{tm:T AV}{tmps:Array Value}
theorem Lw{k k':IntKind}{x y:Int}{ts:Array TypeId}{ty:TypeId}{args:Array Value}(ha:args.toList=[.int k x,.int k' y]):
  (Builtin.max_ ts ty args).run P w= .ok (.int k (if y>x then y else x)) w∧(Builtin.min_ ts ty args).run P w= .ok (.int k (if y<x then y else x)) w:=by
 constructor
 ·simp only[Builtin.max_,ha,aB,aC,Builtin.max2,Sem.run_bind,Sem.run_pure,Result.andThen_ok]
 ·simp only[Builtin.min_,ha,aB,aC,Builtin.min2,Sem.run_bind,Sem.run_pure,Result.andThen_ok]
theorem Fv(hr:HR N φ h w)(hN:N≤w.heap.size){b:Builtin}{ts:Array TypeId}{ty:TypeId}{consts:Array Bool}{args:List AV}{cargs:Array Value}(ha:bH (VR φ) args cargs.toList):
  RR P N φ w ((builtin b ts ty consts cargs).run P w) (bQ P b ts.toList args h):=by
 unfold bQ;split
 ·rename_i t tr x xr Lx
  have t0:ts[0]? =some t:=by rw[←ak,Lx];rfl
  obtain⟨cx,cr,hc,hx,_⟩:=bH.bM.1 ha;have a0:cargs[0]? =some cx:=by rw[←ak,hc];rfl
  split
  ·rename_i n hl
   have:=PA (P:=P) (ty:=ty) hr t0 a0 hx hl;exact(Pu.pV hr ⟨_,this,db.2 rfl⟩).rr
  ·trivial
 ·rename_i t tr x xr Lx
  have t0:ts[0]? =some t:=by rw[←ak,Lx];rfl
  obtain⟨cx,cr,hc,hx,_⟩:=bH.bM.1 ha;have a0:cargs[0]? =some cx:=by rw[←ak,hc];rfl
  split
  ·rename_i n hl
   have:=PB (P:=P) (w:=w) (ty:=ty) t0 a0 hx hl;exact(Pu.pV hr ⟨_,this,db.2 rfl⟩).rr
  ·trivial
 ·rename_i t u tr s x xr Lx
  have t0:ts[0]? =some t:=by rw[←ak,Lx];rfl
  have t1:ts[1]? =some u:=by rw[←ak,Lx];rfl
  obtain⟨cs,cr,hc,hs,Ly⟩:=bH.bM.1 ha;obtain⟨cx,VI,mV,hx,_⟩:=bH.bM.1 Ly;subst mV;have a0:cargs[0]? =some cs:=by rw[←ak,hc];rfl
  have a1:cargs[1]? =some cx:=by rw[←ak,hc];rfl
  split
  ·rename_i e k ht hd
   exact i_ CL fun v h' hv=>G2 hr hN t0 t1 a0 a1 ht hd hs hx hv
  ·rename_i e d dH ht hd
   exact i_ Fu fun v h' hv=>G1 hr hN t0 t1 a0 a1 ht hd (fun k e=>dH k e) hs hx hv
  ·trivial
 ·rename_i t tr s x xr Lx
  have t0:ts[0]? =some t:=by rw[←ak,Lx];rfl
  obtain⟨cs,cr,hc,hs,Ly⟩:=bH.bM.1 ha;obtain⟨cx,VI,mV,hx,_⟩:=bH.bM.1 Ly;subst mV;have a0:cargs[0]? =some cs:=by rw[←ak,hc];rfl
  have a1:cargs[1]? =some cx:=by rw[←ak,hc];rfl
  split
  ·rename_i e ht
   exact i_ J6 fun v h' hv=>Nz hr t0 a0 a1 ht hs hx hv
  ·trivial
 ·rename_i t tr m k kr Lx
  have t0:ts[0]? =some t:=by rw[←ak,Lx];rfl
  obtain⟨cs,cr,hc,hs,Ly⟩:=bH.bM.1 ha;obtain⟨cx,VI,mV,hx,_⟩:=bH.bM.1 Ly;subst mV;have a0:cargs[0]? =some cs:=by rw[←ak,hc];rfl
  have a1:cargs[1]? =some cx:=by rw[←ak,hc];rfl
  split
  ·rename_i h1 hd
   exact(G6 hr t0 a0 a1 hs hx hd).rr
  ·trivial
 ·rename_i t tr x Lx
  have t0:ts[0]? =some t:=by rw[←ak,Lx];rfl
  obtain⟨cs,cr,hc,hs,Ly⟩:=bH.bM.1 ha;have a0:cargs[0]? =some cs:=by rw[←ak,hc];rfl
  split
  ·rename_i h1 hd
   exact(J1 hr t0 a0 hs hd).rr
  ·trivial
 ·rename_i k x k' y
  obtain⟨cs,cr,hc,hs,Ly⟩:=bH.bM.1 ha;obtain⟨cx,VI,mV,hx,qo⟩:=bH.bM.1 Ly;rw[bH.ct]at qo;subst qo;subst mV;simp only[db]at hs hx;subst hs;subst hx;have:=(Lw (P:=P) (w:=w) (ts:=ts) (ty:=ty) hc).1;refine(Pu.pV hr ⟨_,this,?_⟩).rr;rw[db];cases Int.decLt x y with
  |isTrue q=>simp[q]
  |isFalse q=>simp[q]
 ·rename_i k x k' y
  obtain⟨cs,cr,hc,hs,Ly⟩:=bH.bM.1 ha;obtain⟨cx,VI,mV,hx,qo⟩:=bH.bM.1 Ly;rw[bH.ct]at qo;subst qo;subst mV;simp only[db]at hs hx;subst hs;subst hx;have:=(Lw (P:=P) (w:=w) (ts:=ts) (ty:=ty) hc).2;refine(Pu.pV hr ⟨_,this,?_⟩).rr;rw[db];cases Int.decLt y x with
  |isTrue q=>simp[q]
  |isFalse q=>simp[q]
 ·rename_i k x k' y k'' z
  obtain⟨cs,cr,hc,hs,Ly⟩:=bH.bM.1 ha;obtain⟨cx,VI,mV,hx,har'⟩:=bH.bM.1 Ly;obtain⟨cz,cr'',hc'',hz,qo⟩:=bH.bM.1 har';rw[bH.ct]at qo;subst qo;subst hc'';subst mV;simp only[db]at hs hx hz;subst hs;subst hx;subst hz;refine(Pu.pV hr (m:=Builtin.min_ ts ty cargs) ⟨.int k (Nn (Nn x y) z),?_,db.2 rfl⟩).rr;have e:∀a b:Int,Nn a b=if b<a then b else a:=fun a b=>by
   unfold Nn;cases Int.decLt b a with
   |isTrue q=>simp[q]
   |isFalse q=>simp[q]
  simp only[Builtin.min_,hc,aB,aC,Builtin.min2,Sem.run_bind,Sem.run_pure,Result.andThen_ok,e]
 ·exact⟨rfl,hr⟩
 ·rename_i t v
  obtain⟨cs,cr,hc,hs,qo⟩:=bH.bM.1 ha;rw[bH.ct]at qo;subst qo;have qL:=hs;simp only[uE]at hs;obtain⟨y,rfl,hy⟩:=hs;refine⟨.iface t y,?_,qL,hr⟩;have a0:cargs.getD 0 .nilIface= .iface t y:=by
   rw[Array.getD_eq_getD_getElem?,←ak,hc];rfl
  simp only[builtin,Sem.run_bind,a0,Instr.panic,run_goPanic,Result.andThen_halt]
 ·rename_i x
  obtain⟨cx,cr,hc,hx,hn⟩:=bH.bM.1 ha;have:=bH.ct.1 hn;subst this;have Lz:cargs= #[cx]:=by cases cargs;simp_all
  subst Lz;cases hs:kT x with
  |none=>trivial
  |some v=>exact(Pu.pV hr (Ae hx hs)).rr
 ·rename_i pt tr p n Lx
  have t0:ts[0]? =some pt:=by rw[←ak,Lx];rfl
  obtain⟨cp,cr,hc,hp,Ly⟩:=bH.bM.1 ha;obtain⟨ck,VI,mV,hk,hn⟩:=bH.bM.1 Ly;have:=bH.ct.1 hn;subst this;subst mV;simp only[db]at hk;subst hk;have Lz:cargs= #[cp,.int .i64 (Int.ofNat n)]:=by cases cargs;simp_all
  subst Lz;exact i_ zd fun v h' hv=>Af hr t0 hp hv
 ·trivial
theorem uV{a:Addr}:(Instr.sureAddr (.pointer (some a))).run P w= .ok a w:=rfl
theorem Fw{v:AV}{c:Value}(n1:v≠.cN)(n2:v≠.nilIface)(n3:v≠.nilFunc)(hc:VR φ v c){x:Operand}(hx:ev tmps x=c){dst:Option Tmp}{ty:TypeId}{pos:String}{after:Array Edge}{guard:Option (Nat×Bool)}:
  (execOp (ev tmps) {dst,op:=.nilCheck x,type:=ty,pos,after,guard}).run P w= .ok (.value c) w:=by
 simp only[execOp,hx];cases v with
 |cN=>exact absurd rfl n1
 |nilIface=>exact absurd rfl n2
 |nilFunc=>exact absurd rfl n3
 |slice b o len cp=>obtain⟨a,cc,rfl⟩:=cR hc;rfl
 |bool b=>simp at hc;subst hc;rfl
 |int k n=>simp at hc;subst hc;rfl
 |str s=>simp at hc;obtain⟨b,rfl,_⟩:=hc;rfl
 |ptr b o=>simp at hc;obtain⟨L,_,rfl⟩:=hc;rfl
 |bh=>simp at hc;subst hc;rfl
 |dq=>simp at hc;obtain⟨a,c,rfl⟩:=hc;rfl
 |dB=>simp at hc;subst hc;rfl
 |map b=>simp at hc;obtain⟨L,_,rfl⟩:=hc;rfl
 |func f a b=>simp at hc;obtain⟨x,y,rfl,_⟩:=hc;rfl
 |yield l=>simp at hc;obtain⟨L,_,rfl⟩:=hc;rfl
 |iface t x=>simp at hc;obtain⟨y,rfl,_⟩:=hc;rfl
 |agg c=>simp at hc;obtain⟨y,rfl,_⟩:=hc;rfl
 |tuple c=>simp at hc;obtain⟨y,rfl,_⟩:=hc;rfl
theorem yb(hr:HR N φ h w)(hN:N≤w.heap.size){t k e:TypeId}(ht:P.underlying t=some (.map k e)){r:Option Value}(hx:r=none∨∃k n,r=some (.int k n)):
  qD P N φ w (Instr.makeMap t r) (.map h.nx) (h.alloc (.map [] 0)):=by
 have hp:=mW hr (o:=.map [] 0) (O:=.map #[] 0) (fun ψ _=>⟨hN,#[],by simp,trivial⟩);refine⟨_,.map (some w.heap.size),_,?_,?_,hp.2,hp.1,fc _ hN⟩
 ·rcases hx with rfl|⟨k',n,rfl⟩
  ·simp only[Instr.makeMap,Sem.run_bind,Sem.run_pure,Result.andThen_ok,run_newObj]
  ·simp only[Instr.makeMap,Sem.run_bind,Sem.run_pure,Result.andThen_ok,run_newObj,run_underlying ht,asInt,asIntOf]
 ·rw[nX];exact⟨_,cX.cS _ _ _,rfl⟩
theorem Al{a:Addr}{c:Array Value}{t:TypeId}{frz:Nat×Nat}(hb:w.heap[a.block]? =some (.cells c t frz)):(noView a).run P w= .ok () w:=by
 have CH:w.shape? a.block=some (t,c.size):=by simp[World.shape?,hb]
 simp only[noView,viewAt,Sem.run_bind,run_shape,CH,Result.andThen_ok,Option.isSome_some,if_true,Sem.run_pure,Option.isSome_none,al,if_false]
theorem CN{a:Addr}{c:Array Value}{t:TypeId}{frz:Nat×Nat}(hb:w.heap[a.block]? =some (.cells c t frz)):∃b,(stringish a).run P w= .ok b w:=by
 have CH:w.shape? a.block=some (t,c.size):=by simp[World.shape?,hb]
 simp only[stringish,Sem.run_bind,run_frozen,Result.andThen_ok,run_shape,CH];cases w.frozen? a with
 |true=>exact⟨true,by simp⟩
 |false=>exact⟨w.frozen? {block:=a.block,off:=c.size},by simp[CH]⟩
theorem CO{a:Addr}{c:Array Value}{t:TypeId}(hb:w.heap[a.block]? =some (.cells c t (0,0))):(stringish a).run P w= .ok false w:=by
 have CH:w.shape? a.block=some (t,c.size):=by simp[World.shape?,hb]
 have h1:∀n sp,w.frozen? ⟨a.block,n,sp⟩=false:=fun n sp=>by simp[World.frozen?,hb]
 have h2:w.frozen? a=false:=h1 a.off a.spot;simp only[stringish,Sem.run_bind,run_frozen,Result.andThen_ok,run_shape,CH,h2,h1,al,if_false,Sem.run_pure]
theorem Am{a b:Addr}{c c':Array Value}{t t':TypeId}{frz:Nat×Nat}(NB:a.block≠b.block)(ha:w.heap[a.block]? =some (.cells c t (0,0)))(hb:w.heap[b.block]? =some (.cells c' t' frz))
  (hc:0<c.size)(mV:0<c'.size):(sameAddr a b).run P w= .ok false w:=by
 have CH:w.shape? a.block=some (t,c.size):=by simp[World.shape?,ha]
 have hsh':w.shape? b.block=some (t',c'.size):=by simp[World.shape?,hb]
 have h2:w.frozen? a=false:=by simp[World.frozen?,ha]
 obtain⟨sb,hsb⟩:=CN (P:=P) (w:=w) (a:=b) hb;have hsa:=CO (P:=P) (w:=w) (a:=a) ha;obtain⟨k,hk⟩:∃k,c.size=k+1:=⟨c.size-1,by omega⟩;obtain⟨k',CC⟩:∃k,c'.size=k+1:=⟨c'.size-1,by omega⟩;rw[hk]at CH;rw[CC]at hsh';simp only[sameAddr,beq_eq_false_iff_ne.2 NB,al,if_false,Sem.run_bind,run_frozen,Result.andThen_ok,h2,Bool.false_and,Al ha,Al hb,mayBeOne,hsa,hsb,run_shape,CH,hsh',Sem.run_pure,Bool.and_false,Bool.or_false]
theorem CP(D:Nat){t e:TypeId}{a b:Addr}(hu:P.underlying t=some (.pointer e))(eH:eQ P e=true)(h2:P.cellsOf e≠0)(hs:(sameAddr a b).run P w= .ok false w):
  (Op.equalIn (D+1) t (.pointer (some a)) (.pointer (some b))).run P w= .ok false w:=by
 simp only[Op.equalIn,Sem.run_bind,run_underlying hu,Result.andThen_ok,cA e eH,ne_eq,h2,not_false_eq_true,if_true,hs]
theorem NC(hr:HR N φ h w){op:BinOp}{t:TypeId}{x y:Operand}{a b v:AV}{ca cb:Value}(ha:VR φ a ca)(hb:VR φ b cb)(yY:d_ h a b=true)(hv:lW P op t h= .val v h'):
  qD P N φ w (do eqGuard op t x y ca cb;binOp op t ca cb) v h':=by
 unfold d_ at yY;split at yY
 ·rename_i p o
  split at yY
  ·rename_i q r
   simp only[dS]at ha hb;obtain⟨L,hL,rfl⟩:=ha;obtain⟨M,hM,rfl⟩:=hb;split at yY
   ·cases yY
   ·rename_i dH
    have dH:=aw dH;split at yY
    ·rename_i n cs k m mS k' hp hq
     simp only[aA]at yY;obtain⟨⟨a1,a2⟩,a3⟩:=yY;have a1:o<n:=an a1;have a2:r<m:=an a2;have a3:=aq a3;obtain⟨c,t1,frz,g1,g2,g3,g4,g5⟩:=hr.get hp hL;obtain⟨c',t2,Tn,j1,j2,j3,j4,j5⟩:=hr.get hq hM;have hf:=g5.2.2.2 a3 rfl;subst hf;have hB:L.B≠M.B:=fun e=>dH (hr.inj p _ q _ L M hp hq hL hM e);have hs:=Am (P:=P) (w:=w) (a:=⟨L.B,L.base+o,none⟩) (b:=⟨M.B,M.base+r,none⟩) hB g1 j1 (by omega) (by omega);unfold lW at hv;split at hv
     ·rename_i e hu
      obtain⟨e1,e2⟩:=s9 t (.pointer (some ⟨L.B,L.base+o,none⟩)) (.pointer (some ⟨M.B,M.base+r,none⟩)) (fun⟨_,_,_,_,x,_⟩=>by cases x) (fun⟨_,_,x,_⟩=>by cases x) (fun⟨_,_,x⟩=>by cases x) (fun⟨_,_,_,x⟩=>by cases x);have heq:∀(eH:(eQ P e&&Nat.ble 1 (P.cellsOf e))=true),(Op.equal t (.pointer (some ⟨L.B,L.base+o,none⟩)) (.pointer (some ⟨M.B,M.base+r,none⟩))).run P w= .ok false w:=fun eH=>by
       simp only[aA]at eH;have h1:=an eH.2;have h2:P.cellsOf e≠0:=by omega
       exact CP 9999 hu eH.1 h2 hs
      split at hv
      ·rename_i eH
       cases hv;refine Pu.pV hr ⟨.bool false,?_,fa.2 rfl⟩;have hg:eqGuard .eql t x y (.pointer (some ⟨L.B,L.base+o,none⟩)) (.pointer (some ⟨M.B,M.base+r,none⟩))=pure ():=rfl;simp only[Sem.run_bind,hg,Sem.run_pure,Result.andThen_ok,e1,heq eH]
      ·rename_i eH
       cases hv;refine Pu.pV hr ⟨.bool true,?_,fa.2 rfl⟩;have hg:eqGuard .neq t x y (.pointer (some ⟨L.B,L.base+o,none⟩)) (.pointer (some ⟨M.B,M.base+r,none⟩))=pure ():=rfl;simp only[Sem.run_bind,hg,Sem.run_pure,Result.andThen_ok,e2,heq eH,Bool.not_false]
      ·cases hv
     ·cases hv
    ·cases yY
  ·cases yY
 ·cases yY
theorem G9{op:BinOp}{t:TypeId}{h:H}:(∃v h',lW P op t h= .val v h')∨lW P op t h= .fail:=by
 unfold lW;repeat' (first|(exact .inr rfl)|(exact .inl ⟨_,_,rfl⟩)|split|simp only[])
theorem Dw(hr:HR N φ h w)(hN:N≤w.heap.size)(tr:TR φ nt tm tmps)(o:Oper):RR P N φ w ((execOp (ev tmps) o).run P w) (bF P tm h o.op):=by
 obtain⟨dst,op,ty,pos,after,guard⟩:=o;cases op with
 |move x=>exact gE hr (m:=pure (ev tmps _)) fun v hv=>⟨_,rfl,bR tr hv⟩
 |assign x=>exact gE hr (m:=pure (ev tmps _)) fun v hv=>⟨_,rfl,bR tr hv⟩
 | pick c a b=>
  simp only[bF];split
  ·rename_i hc
   have:=bR tr hc;simp only[fa]at this;simp only[execOp,this,asBool,Sem.run_bind,Sem.run_pure,Result.andThen_ok,if_true];exact gE hr (m:=pure (ev tmps _)) fun v hv=>⟨_,rfl,bR tr hv⟩
  ·rename_i hc
   have:=bR tr hc;simp only[fa]at this;simp only[execOp,this,asBool,Sem.run_bind,Sem.run_pure,Result.andThen_ok,al,if_false];exact gE hr (m:=pure (ev tmps _)) fun v hv=>⟨_,rfl,bR tr hv⟩
  ·trivial
 |alloc t=>
  simp only[bF];split
  ·rename_i z hz;exact(GQ hr hN hz).rr
  ·trivial
 | box t x=>
  simp only[bF];split
  ·rename_i v hv
   split
   ·rename_i ho;exact(Nu hr hN (bR tr hv) ho).rr
   ·trivial
  ·trivial
 | build t parts=>
  simp only[bF];split
  ·rename_i l hl
   have:=su tr hl;refine gE hr fun v hv=>JP hv ?_;rw[ao];exact this
  ·trivial
 | buildSlice t len parts=>
  simp only[bF];split
  ·rename_i l hl
   have:=su tr hl;refine i_ wQ fun v h' hv=>yX hr hN hv ?_;rw[ao];exact this
  ·trivial
 | load t x=>
  simp only[bF];split
  ·rename_i b o ht hx
   have:=wP tr hr hx;simp only[dS]at this;obtain⟨L,hL,he⟩:=this;refine gE hr fun v hv=>?_;obtain⟨L',tc,hp⟩:=Ds (P:=P) hr hL ht hv;rw[hL]at tc;cases tc;obtain⟨cv,h1,h2⟩:=hp;exact⟨cv,by simp only[Instr.loadAt,he,Sem.run_bind,uV,Result.andThen_ok,h1],h2⟩
  ·trivial
 | store t x y=>
  simp only[bF];split
  ·rename_i b o v ht hx hy
   have:=bR tr hx;simp only[dS]at this;obtain⟨L,hL,he⟩:=this;refine zq fun h' hv=>?_;obtain⟨L',tc,hp,_⟩:=JN (P:=P) hr hL ht (bR tr hy) hv;rw[hL]at tc;cases tc;obtain⟨gA,w',h1,h2⟩:=hp;exact⟨gA,w',by simp only[Instr.storeAt,he,Sem.run_bind,uV,Result.andThen_ok,h1],h2⟩
  ·trivial
 | nilCheck x=>
  simp only[bF];split
  ·trivial
  ·trivial
  ·trivial
  ·rename_i v n1 n2 n3 hv
   have hx:=bR tr hv;exact⟨φ,_,w,Fw (fun e=>n1 e) (fun e=>n2 e) (fun e=>n3 e) hx rfl,hx,φ.le_refl,hr,Below.refl _ _⟩
  ·trivial
 | binOp op t x y ty=>
  simp only[bF];split
  ·rename_i a b ha hb
   split
   ·rename_i yY
    exact i_ G9 fun v h' hv=>NC hr (bR tr ha) (bR tr hb) yY hv
   ·exact gE hr fun v hv=>Po hv (bR tr ha) (bR tr hb)
  ·trivial
 |unOp op t x=>
  simp only[bF];split
  ·rename_i v hv;exact gE hr fun u hu=>Th hu (bR tr hv)
  ·trivial
 | convert s d x=>
  simp only[bF];split
  ·rename_i v hv
   split
   ·rename_i t0 hs hd;exact i_ Aj fun u h' hu=>CI hr hs hd (bR tr hv) hu
   ·rename_i u0 hs hd;exact i_ wR fun u h' hu=>yZ hr hs hd (bR tr hv) hu
   ·exact i_ CM fun u h' hu=>Fp hr hN (bR tr hv) hu
  ·trivial
 | makeInterface t x=>
  simp only[bF];split
  ·trivial
  ·rename_i d v dH hd hv
   have hx:=bR tr hv;refine(Pu.pV hr ⟨.iface t (ev tmps x),?_,uE.2 ⟨_,rfl,hx⟩⟩).rr;simp only[Instr.makeInterface,Sem.run_bind,run_underlying hd,Result.andThen_ok];cases d<;>first|rfl|exact absurd rfl (dH _)
  ·trivial
 | makeFunc fn first cap=>
  cases fn with
  | func f=>
   simp only[bF];split
   ·rename_i a b ha hb
    refine(Pu.pV hr ⟨_,rfl,?_⟩).rr;rw[uD];exact⟨_,_,rfl,by rw[ao];exact mX tr ha,by rw[ao];exact mX tr hb⟩
   ·trivial
  |_=>trivial
 | makeMap t r=>
  simp only[bF];split
  ·rename_i ht Ny
   have:=oK tr Ny;exact(yb hr hN ht (.inl this)).rr
  ·rename_i ht Ny
   obtain⟨c,hc,hv⟩:=oK tr Ny;simp only[db]at hv;subst hv;exact(yb hr hN ht (.inr ⟨_,_,hc⟩)).rr
  ·trivial
 | makeSlice t l c=>
  simp only[bF];split
  ·rename_i l c hl hc
   exact i_ zf fun v h' hv=>zZ hr hN hv (bR tr hl) (bR tr hc)
  ·trivial
 | slice t x lo hi mx=>
  simp only[bF];split
  ·rename_i x lo hi mx h1 h2 h3 h4
   exact gE hr fun v hv=>JM (bR tr h1) hv (oK tr h2) (oK tr h3) (oK tr h4)
  ·trivial
 |fieldAddr t x i=>
  simp only[bF];split
  ·rename_i v hv;exact gE hr fun u hu=>z_ (wP tr hr hv) hu
  ·trivial
 |field t x i=>
  simp only[bF];split
  ·rename_i v hv;exact gE hr fun u hu=>JS (bR tr hv) hu
  ·trivial
 |indexAddr t x i=>
  simp only[bF];split
  ·rename_i a b ha hb;exact gE hr fun u hu=>Aa (wP tr hr ha) (bR tr hb) hu
  ·trivial
 |index t x i=>
  simp only[bF];split
  ·rename_i a b ha hb;exact gE hr fun u hu=>JT (bR tr ha) (bR tr hb) hu
  ·trivial
 |lookup t x i ok=>
  simp only[bF];split
  ·rename_i a b ha hb;exact gE hr fun u hu=>G3 hr (bR tr ha) (bR tr hb) hu
  ·trivial
 |mapUpdate t m k x=>
  simp only[bF];split
  ·rename_i a b c ha hb hc;exact zq fun h' hv=>x_ hr (bR tr ha) (bR tr hb) (bR tr hc) hv
  ·trivial
 |insert t m k x=>
  simp only[bF];split
  ·rename_i a b c ha hb hc;exact zq fun h' hv=>x_ hr (bR tr ha) (bR tr hb) (bR tr hc) hv
  ·trivial
 |mapEntry t m k=>
  simp only[bF];split
  ·rename_i a b ha hb;exact i_ Ak fun v h' hv=>CK hr (bR tr ha) (bR tr hb) hv
  ·trivial
 |entryStore t m s x=>
  simp only[bF];split
  ·rename_i a b c ha hb hc;exact zq fun h' hv=>y_ hr (bR tr ha) (bR tr hb) (bR tr hc) hv
  ·trivial
 |range t x=>
  simp only[bF];split
  ·rename_i v hv;exact i_ G8 fun u h' hu=>J2 hr hN (bR tr hv) hu
  ·trivial
 |next x s=>
  simp only[bF];split
  ·rename_i v hv;exact i_ J7 fun u h' hu=>NA hr (bR tr hv) hu
  ·trivial
 |entry x=>
  simp only[bF];split
  ·rename_i v hv;exact gE hr fun u hu=>J5 hr (bR tr hv) hu
  ·trivial
 | extract x i=>
  simp only[bF];split
  ·rename_i vs hv
   have:=bR tr hv;simp only[mP]at this;obtain⟨a,he,ha⟩:=this;refine gE hr fun v hvi=>?_;obtain⟨c,hc,hR⟩:=ha.get hvi;rw[ak]at hc;exact⟨c,by simp only[Instr.extract,he,hc,Sem.run_pure],hR⟩
  ·trivial
 | call c=>
  obtain⟨callee,args,argTypes⟩:=c;simp only[bF];split
  ·trivial
  ·rename_i vs G7
   have G_:bH (VR φ) vs (args.map (ev tmps)).toList:=by rw[ao];exact mX tr G7
   cases callee with
   | value f=>
    simp only;split
    ·rename_i f' hf
     have:=Dv (P:=P) hr (bR tr hf) G_;simpa only[execOp,resolve,Sem.run_bind]using this
    ·trivial
   |builtin b=>
    simp only[execOp,resolve,Sem.run_bind,Sem.run_pure,Result.andThen_ok,invoke];exact Fv (P:=P) hr hN G_
   |invoke r m=>trivial
 | defer c=>
  obtain⟨callee,args,argTypes⟩:=c;cases callee with
  | value f=>
   simp only[bF];split
   ·rename_i g first cap vs hf G7
    split
    ·rename_i he
     have G_:bH (VR φ) vs (args.map (ev tmps)).toList:=by rw[ao];exact mX tr G7
     have:=bR tr hf;simp only[uD]at this;obtain⟨a,b,hfe,h1,h2⟩:=this;refine⟨{target:=.fn (.func g) b,args:=a++args.map (ev tmps)},?_,⟨_,_,rfl,by rw[az];exact h1.append G_,h2⟩,hr⟩;simp only[execOp,resolve,hfe,Deferred.ofValue,Sem.run_bind,Sem.run_pure,Result.andThen_ok]
    ·trivial
   ·trivial
  |builtin b=>trivial
  |invoke r m=>trivial
 | panic x=>
  simp only[bF];split
  ·rename_i t v hv
   have hx:=bR tr hv;have Nv:=hx;simp only[uE]at hx;obtain⟨y,he,hy⟩:=hx;refine⟨ev tmps x,?_,Nv,hr⟩;simp only[execOp,he,Instr.panic,Sem.run_bind,run_goPanic,Result.andThen_halt]
  ·trivial
 |_=>trivial
end
end Go.AX
namespace Go.AX
open Go.RowKit
theorem st{P:Program}{fr tO:Frame}{cs mS:List Frame}{w w':World}
  (h:(stepG P true {frame:=fr,callers:=cs,status:=.running,dying:=none} w).bare= .go {frame:=tO,callers:=mS,status:=.running,dying:=none} w'):
  Steps P (lone fr cs w) (lone tO mS w'):=.one (step_lone_go h)
section
variable{P:Program}{fn:FuncId}{tmps:Array Value}{k:List Item}{ds:List Deferred}{kd:CallKind}{ro:Option Nat}{cs:List Frame}{w:World}
theorem Xf:Steps P (lone ⟨fn,tmps,.code .skip::k,ds,.run,kd,ro⟩ cs w) (lone ⟨fn,tmps,k,ds,.run,kd,ro⟩ cs w):=st (by simp[stepG,stepG.exec])
theorem Tp{l:Nat}:Steps P (lone ⟨fn,tmps,.code (.label l)::k,ds,.run,kd,ro⟩ cs w) (lone ⟨fn,tmps,k,ds,.run,kd,ro⟩ cs w):=st (by simp[stepG,stepG.exec])
theorem ND{l:Nat}:Steps P (lone ⟨fn,tmps,.inBlock l::k,ds,.run,kd,ro⟩ cs w) (lone ⟨fn,tmps,k,ds,.run,kd,ro⟩ cs w):=st (by simp[stepG,stepG.exec])
theorem NF{c:Code}:Steps P (lone ⟨fn,tmps,.inScope c::k,ds,.run,kd,ro⟩ cs w) (lone ⟨fn,tmps,k,ds,.run,kd,ro⟩ cs w):=st (by simp[stepG,stepG.exec])
theorem m_seq{a b:Code}:Steps P (lone ⟨fn,tmps,.code (.seq a b)::k,ds,.run,kd,ro⟩ cs w) (lone ⟨fn,tmps,.code a:: .code b::k,ds,.run,kd,ro⟩ cs w):=st (by simp[stepG,stepG.exec])
theorem PI{c:Operand}{a b:Code}{t:Bool}(h:ev tmps c= .bool t):Steps P (lone ⟨fn,tmps,.code (.cond c a b)::k,ds,.run,kd,ro⟩ cs w) (lone ⟨fn,tmps,.code (if t then a else b)::k,ds,.run,kd,ro⟩ cs w):=
 st (by simp[stepG,stepG.exec,Frame.Ft,h])
theorem Tq{l:Nat}{c:Code}:Steps P (lone ⟨fn,tmps,.code (.block l c)::k,ds,.run,kd,ro⟩ cs w) (lone ⟨fn,tmps,.code c:: .inBlock l::k,ds,.run,kd,ro⟩ cs w):=st (by simp[stepG,stepG.exec])
theorem Xg{c:Code}:Steps P (lone ⟨fn,tmps,.code (.loop c)::k,ds,.run,kd,ro⟩ cs w) (lone ⟨fn,tmps,.code c:: .inLoop c::k,ds,.run,kd,ro⟩ cs w):=st (by simp[stepG,stepG.exec])
theorem PJ{c:Code}:Steps P (lone ⟨fn,tmps,.inLoop c::k,ds,.run,kd,ro⟩ cs w) (lone ⟨fn,tmps,.code c:: .inLoop c::k,ds,.run,kd,ro⟩ cs w):=st (by simp[stepG,stepG.exec])
theorem Tr{c:Code}:Steps P (lone ⟨fn,tmps,.code (.scope c)::k,ds,.run,kd,ro⟩ cs w) (lone ⟨fn,tmps,.code c:: .inScope c::k,ds,.run,kd,ro⟩ cs w):=st (by simp[stepG,stepG.exec])
theorem Xh{l:Nat}{k':List Item}(h:exitTo l k=some k'):Steps P (lone ⟨fn,tmps,.code (.exit l)::k,ds,.run,kd,ro⟩ cs w) (lone ⟨fn,tmps,k',ds,.run,kd,ro⟩ cs w):=st (by simp[stepG,stepG.exec,h])
theorem Xi{l:Nat}{k':List Item}(h:gotoIn l k=some k'):Steps P (lone ⟨fn,tmps,.code (.goto l)::k,ds,.run,kd,ro⟩ cs w) (lone ⟨fn,tmps,k',ds,.run,kd,ro⟩ cs w):=st (by simp[stepG,stepG.exec,h])
theorem PK{id:Nat}{ops:Array Oper}:Steps P (lone ⟨fn,tmps,.code (.region id ops false)::k,ds,.run,kd,ro⟩ cs w) (lone ⟨fn,tmps,.inRegion ops (List.range ops.size)::k,ds,.run,kd,ro⟩ cs w):=st (by simp[stepG,stepG.exec])
theorem yc{ops:Array Oper}:Steps P (lone ⟨fn,tmps,.inRegion ops []::k,ds,.run,kd,ro⟩ cs w) (lone ⟨fn,tmps,k,ds,.run,kd,ro⟩ cs w):=st (by simp[stepG,stepG.exec])
theorem m_end:Steps P (lone ⟨fn,tmps,[],ds,.run,kd,none⟩ cs w) (lone ⟨fn,tmps,[],ds,.returning,kd,none⟩ cs w):=st (by simp[stepG,stepG.exec])
theorem m_ret:Steps P (lone ⟨fn,tmps,.code .ret::k,ds,.run,kd,none⟩ cs w) (lone ⟨fn,tmps,.code .ret::k,ds,.returning,kd,none⟩ cs w):=st (by simp[stepG,stepG.exec])
theorem An{ops:Array Oper}{i:Nat}{rest:List Nat}(h:((ops[i]?).map (Region.wanted · (yielded ops tmps))).getD false=false):
  Steps P (lone ⟨fn,tmps,.inRegion ops (i::rest)::k,ds,.run,kd,ro⟩ cs w) (lone ((⟨fn,tmps,.inRegion ops (i::rest)::k,ds,.run,kd,ro⟩:Frame).finish undef) cs w):=
 st (by simp[stepG,stepG.exec,h])
theorem Ha{ops:Array Oper}{i:Nat}{rest:List Nat}{o:Oper}(ho:ops[i]? =some o)(hw:Region.wanted o (yielded ops tmps)=true)(hd:ro=none∨∀c,o.op≠.defer c):
  (stepG P true {frame:=⟨fn,tmps,.inRegion ops (i::rest)::k,ds,.run,kd,ro⟩,callers:=cs,status:=.running,dying:=none} w)=
   stepG.apply P true ⟨fn,tmps,.inRegion ops (i::rest)::k,ds,.run,kd,ro⟩ cs none (execOp (ev tmps) o) w:=by
 have he:(⟨fn,tmps,.inRegion ops (i::rest)::k,ds,.run,kd,ro⟩:Frame).eval=ev tmps:=Frame.Ft _;simp only[stepG,stepG.exec,ho,Option.map_some,Option.getD_some,hw,if_true,stepG.oper,Frame.oper?,he];rcases hd with rfl|hd
 ·rfl
 ·cases ro with
  |none=>rfl
  |some l=>cases Ao:o.op<;>first|rfl|exact absurd Ao (hd _)
theorem nJ{ops:Array Oper}{i:Nat}{rest:List Nat}{o:Oper}(ho:ops[i]? =some o)(hw:Region.wanted o (yielded ops tmps)=true)(hd:ro=none∨∀c,o.op≠.defer c){v:Value}{w':World}
  (h:(execOp (ev tmps) o).run P w= .ok (.value v) w'):
  Steps P (lone ⟨fn,tmps,.inRegion ops (i::rest)::k,ds,.run,kd,ro⟩ cs w) (lone ((⟨fn,tmps,.inRegion ops (i::rest)::k,ds,.run,kd,ro⟩:Frame).finish v) cs w'):=
 st (by rw[Ha ho hw hd];simp[stepG.apply,h])
theorem Dx{ops:Array Oper}{i:Nat}{rest:List Nat}{o:Oper}(ho:ops[i]? =some o)(hw:Region.wanted o (yielded ops tmps)=true)(hd:ro=none∨∀c,o.op≠.defer c){w':World}
  (h:(execOp (ev tmps) o).run P w= .ok .skip w'):
  Steps P (lone ⟨fn,tmps,.inRegion ops (i::rest)::k,ds,.run,kd,ro⟩ cs w) (lone ((⟨fn,tmps,.inRegion ops (i::rest)::k,ds,.run,kd,ro⟩:Frame).finish undef) cs w'):=
 st (by rw[Ha ho hw hd];simp[stepG.apply,h])
theorem zr{ops:Array Oper}{i:Nat}{rest:List Nat}{o:Oper}(ho:ops[i]? =some o)(hw:Region.wanted o (yielded ops tmps)=true)(hd:ro=none∨∀c,o.op≠.defer c){f:FuncId}{args:Array Value}{w':World}
  (h:(execOp (ev tmps) o).run P w= .ok (.enter f args) w'):
  Steps P (lone ⟨fn,tmps,.inRegion ops (i::rest)::k,ds,.run,kd,ro⟩ cs w) (lone (Frame.enter P f args .normal) (⟨fn,tmps,.inRegion ops (i::rest)::k,ds,.run,kd,ro⟩::cs) w'):=
 st (by rw[Ha ho hw hd];simp[stepG.apply,h])
theorem LA{ops:Array Oper}{i:Nat}{rest:List Nat}{o:Oper}(ho:ops[i]? =some o)(hw:Region.wanted o (yielded ops tmps)=true)(hd:ro=none∨∀c,o.op≠.defer c){l f:Nat}{t:Array Value}{a b:Code}{w':World}
  (h:(execOp (ev tmps) o).run P w= .ok (.round l f t a b) w'):
  Steps P (lone ⟨fn,tmps,.inRegion ops (i::rest)::k,ds,.run,kd,ro⟩ cs w) (lone (Frame.round l f t a b .normal) (⟨fn,tmps,.inRegion ops (i::rest)::k,ds,.run,kd,ro⟩::cs) w'):=
 st (by rw[Ha ho hw hd];simp[stepG.apply,h])
theorem Ts{ops:Array Oper}{i:Nat}{rest:List Nat}{o:Oper}(ho:ops[i]? =some o)(hw:Region.wanted o (yielded ops tmps)=true){d:Deferred}{w':World}
  (h:(execOp (ev tmps) o).run P w= .ok (.defer d) w'):
  Steps P (lone ⟨fn,tmps,.inRegion ops (i::rest)::k,ds,.run,kd,none⟩ cs w) (lone ((⟨fn,tmps,.inRegion ops (i::rest)::k,d::ds,.run,kd,none⟩:Frame).finish undef) cs w'):=
 st (by rw[Ha ho hw (.inl rfl)];simp[stepG.apply,h])
theorem NG{ops:Array Oper}{i:Nat}{rest:List Nat}{o:Oper}(ho:ops[i]? =some o)(hw:Region.wanted o (yielded ops tmps)=true){w':World}
  (h:(execOp (ev tmps) o).run P w= .ok .recover w'):
  Steps P (lone ⟨fn,tmps,.inRegion ops (i::rest)::k,ds,.run,kd,none⟩ cs w)
   (match tryRecover (⟨fn,tmps,.inRegion ops (i::rest)::k,ds,.run,kd,none⟩:Frame) cs with
    |some (v,mS)=>lone ((⟨fn,tmps,.inRegion ops (i::rest)::k,ds,.run,kd,none⟩:Frame).finish v) mS w'
    |none=>lone ((⟨fn,tmps,.inRegion ops (i::rest)::k,ds,.run,kd,none⟩:Frame).finish .nilIface) cs w'):=by
 cases ht:tryRecover (⟨fn,tmps,.inRegion ops (i::rest)::k,ds,.run,kd,none⟩:Frame) cs with
 |none=>exact st (by rw[Ha ho hw (.inl rfl)];simp[stepG.apply,h,ht])
 |some x=>obtain⟨v,mS⟩:=x;exact st (by rw[Ha ho hw (.inl rfl)];simp[stepG.apply,h,ht])
theorem Tt{ops:Array Oper}{i:Nat}{rest:List Nat}{o:Oper}(ho:ops[i]? =some o)(hw:Region.wanted o (yielded ops tmps)=true)(hd:ro=none∨∀c,o.op≠.defer c){v:Value}{w':World}
  (h:(execOp (ev tmps) o).run P w= .halt (.panic v) w'):
  Steps P (lone ⟨fn,tmps,.inRegion ops (i::rest)::k,ds,.run,kd,ro⟩ cs w) (lone ((⟨fn,tmps,.inRegion ops (i::rest)::k,ds,.run,kd,ro⟩:Frame).raise [{v,recovered:=false}]) cs w'):=
 st (by rw[Ha ho hw hd];simp[stepG.apply,h])
theorem J8{l:Nat}{c:Frame}{jump:Option Code}{todo:List Item}(ht:todo=[]∧jump=none∨(∃k,todo= .code .ret::k)∧jump=some .ret∨(∃id k,todo= .code (.exit id)::k∧exitTo id k=none∧jump=some (.exit id))∨∃id k,todo= .code (.goto id)::k∧gotoIn id k=none∧jump=some (.goto id))
  {v:Value}{w':World}(h:(Instr.endRound l jump).run P w= .ok v w'):
  Steps P (lone ⟨fn,tmps,todo,ds,.run,.normal,some l⟩ (c::cs) w) (lone (c.finish v) cs w'):=by
 rcases ht with⟨rfl,rfl⟩|⟨⟨k,rfl⟩,rfl⟩|⟨id,k,rfl,hk,rfl⟩|⟨id,k,rfl,hk,rfl⟩
 ·exact st (by simp[stepG,stepG.exec,h,doReturn])
 ·exact st (by simp[stepG,stepG.exec,h,doReturn])
 ·exact st (by simp[stepG,stepG.exec,h,hk,doReturn])
 ·exact st (by simp[stepG,stepG.exec,h,hk,doReturn])
theorem Fx{l:Nat}{w':World}(h:(Instr.beginRound l).run P w= .ok () w'):
  Steps P (lone ⟨fn,tmps,.beginRound::k,ds,.run,kd,some l⟩ cs w) (lone ⟨fn,tmps,k,ds,.run,kd,some l⟩ cs w'):=
 st (by simp[stepG,stepG.exec,stepG.apply,h,Frame.finish])
theorem J9{l:Nat}{j:Option Code}{w':World}(h:(Instr.endLoop l).run P w= .ok j w'):
  Steps P (lone ⟨fn,tmps,.endRangeFunc l::k,ds,.run,kd,ro⟩ cs w) (lone ⟨fn,tmps,(j.map Item.code).toList++k,ds,.run,kd,ro⟩ cs w'):=
 st (by simp[stepG,stepG.exec,h])
theorem yd{f:Operand}{ps:Array Tmp}{a b:Code}{l:Nat}{mark:List Deferred}{w' w'':World}{g:FuncId}{args:Array Value}
  (h:(Instr.enterLoop fn tmps ps a b ro).run P w= .ok (l,mark) w')
  (h2:((do let d ←resolve (ev tmps) {callee:=.value f,args:= #[.const (.func (.yield l) #[] #[])],argTypes:= #[]} 0;invoke d.target d.args):Sem Next).run P w'= .ok (.enter g args) w''):
  Steps P (lone ⟨fn,tmps,.code (.rangeFunc f ps a b)::k,ds,.run,kd,ro⟩ cs w) (lone (Frame.enter P g args .normal) (⟨fn,tmps,.inRangeFunc l::k,mark++ds,.run,kd,ro⟩::cs) w''):=by
 refine st ?_;simp only[stepG,stepG.exec,h,Sem.runT_eq,GStep.bare_after];have he:(⟨fn,tmps,.inRangeFunc l::k,mark++ds,.run,kd,ro⟩:Frame).eval=ev tmps:=Frame.Ft _;simp only[he];simp[stepG.apply,h2]
theorem Hb{u:FrameMode}(hu:u≠.run){r:Nat}{args:Array Value}{calls:List Deferred}{todo:List Item}{w':World}(h:(Instr.takeDeferred r).run P w= .ok calls w'):
  Steps P (lone ⟨fn,tmps,todo,{target:=.collected r,args}::ds,u,kd,ro⟩ cs w) (lone ⟨fn,tmps,todo,calls++ds,u,kd,ro⟩ cs w'):=by
 cases u with
 |run=>exact absurd rfl hu
 |returning=>exact st (by simp[stepG,unwind,h])
 |panicking l=>exact st (by simp[stepG,unwind,h])
theorem J_{u:FrameMode}(hu:u≠.run){g:Fn}{cap args:Array Value}{f:FuncId}{VK:Array Value}{todo:List Item}{w':World}(h:(invoke (.fn g cap) args).run P w= .ok (.enter f VK) w'):
  Steps P (lone ⟨fn,tmps,todo,{target:=.fn g cap,args}::ds,u,kd,ro⟩ cs w) (lone (Frame.enter P f VK .deferred) (⟨fn,tmps,todo,ds,u,kd,ro⟩::cs) w'):=by
 cases u with
 |run=>exact absurd rfl hu
 |returning=>exact st (by simp[stepG,unwind,callDeferred,h])
 |panicking l=>exact st (by simp[stepG,unwind,callDeferred,h])
theorem PL{f:Func}(hf:P.funcs[fn]? =some f){v:Value}{c:Frame}{todo:List Item}(h:(results f tmps).run P w= .ok v w):
  Steps P (lone ⟨fn,tmps,todo,[],.returning,.normal,ro⟩ (c::cs) w) (lone (c.finish v) cs w):=
 st (by simp[stepG,unwind,doReturn,hf,h])
theorem Dy{f:Func}(hf:P.funcs[fn]? =some f){v:Value}{c:Frame}{todo:List Item}(h:(results f tmps).run P w= .ok v w):
  Steps P (lone ⟨fn,tmps,todo,[],.returning,.deferred,ro⟩ (c::cs) w) (lone {c with mode:=settle c.mode} cs w):=by
 refine st ?_;simp only[stepG,unwind,doReturn,hf,Sem.runT_eq,h,GStep.bare_after,GStep.bare_go];unfold settle;split<;>(try split)<;>simp_all
theorem LB{f:Func}(hf:P.funcs[fn]? =some f){c:Frame}{chain:List PanicEntry}{todo:List Item}:
  Steps P (lone ⟨fn,tmps,todo,[],.panicking chain,kd,ro⟩ (c::cs) w) (lone (c.raise chain) cs w):=
 st (by simp[stepG,unwind,Frame.catches,hf])
end
end Go.AX
