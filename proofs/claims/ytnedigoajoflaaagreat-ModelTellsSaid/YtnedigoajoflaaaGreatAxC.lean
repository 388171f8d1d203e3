/-
  AX: operations: append, copy, conversions.
-/
import Derived.Test.YtnedigoajoflaaaGreatAxB
set_option linter.unusedSimpArgs false
set_option linter.unusedVariables false
set_option linter.unusedSectionVars false
set_option linter.defProp false
set_option maxHeartbeats 8000000
open Int renaming ofNat→ak
open Nat renaming le_of_ble_eq_true→al,eq_of_beq_eq_true→an,add_mul→au,ne_of_beq_eq_false→aw,mul_le_mul→aF,add_assoc→aH,le_refl→aM
open Bool renaming and_eq_true→ao,false_eq_true→aq
open Array renaming getElem?_modify→az,getElem?_push→aD,getElem?_toList→aE,toList_modify→aG,toList_push→aJ
open Option renaming map_some→aA,map_eq_map→aK,getD_some→aL
open List renaming length_append→aB,mem_of_getElem?→aC
namespace Go.AX
open Go.RowKit
theorem lK{n:Nat}(h:small n=true):n≤4194304:=al h
section
variable{P:Program}{N:NN}{φ:cX}{h h':H}{w:World}
theorem run_typeInfo{t:TypeId}{i:TypeInfo}(hi:P.info? t=some i):(typeInfo t).run P w= .ok i w:=by
 simp only[typeInfo,Sem.run_bind,run_program,Result.andThen_ok,hi,Sem.run_pure]
theorem j9(z:Array Value)(n:Nat):(Builtin.zeroCells z n).size=n*z.size:=by simp[Builtin.zeroCells]
theorem Ac{k:EK}{size:Nat}{e:TypeId}:(kG k size e).sz=size:=by
 unfold kG;split<;>rfl
theorem Pv{k:EK}{size:Nat}{e:TypeId}:(kG k size e).ty≠0→e+1=(kG k size e).ty:=by
 unfold kG;split
 ·intro _;rfl
 ·intro h;exact absurd rfl h
theorem Nw{k:EK}{size:Nat}{e:TypeId}:(kG k size e).ty≠0→k.ty=(kG k size e).ty:=by
 unfold kG;split
 ·rename_i h;intro _;exact an h
 ·intro h;exact absurd rfl h
theorem sn(hr:HR N φ h w)(hN:N≤w.heap.size){l:List AV}{cl:List Value}{rest:Array Value}{t:TypeId}{K:Nat}{esz:EK}
  (hl:bH (VR φ) l cl)(ho:∀a,a∈l→a.one=true)(mH:cl.length+rest.size=K*esz.sz)(hty:esz.ty≠0→t+1=esz.ty)(sq:esz.sz≠0)(hK63:K≤9223372036854775807)(frz:Nat×Nat)(hf:frz=(0,0)∨frz=(K*esz.sz,K*esz.sz+1))
  (w':World)(hw:w'.heap=w.heap.push (.cells (cl.toArray++rest) t frz))(old:Option Nat):
  HR N (φ.ins h.nx ⟨w.heap.size,0,K⟩) (h.grown old esz l) w'∧φ.le (φ.ins h.nx ⟨w.heap.size,0,K⟩):=by
 have hle:φ.le (φ.ins h.nx ⟨w.heap.size,0,K⟩):=cX.qK _ (hr.lt _ (aM _));have Gt:OR (φ.ins h.nx ⟨w.heap.size,0,K⟩) N ⟨w.heap.size,0,K⟩ w' (.cells (kQ l) (T.ofRow l) esz false):=by
  rw[dY];have gI:(cl.toArray++rest).size=K*esz.sz:=by simp;exact mH
  refine⟨cl.toArray++rest,t,frz,by rw[hw];simp,?_,fun i v hi=>?_,fun _=>⟨hN,fun i hi=>?_⟩,⟨fun _=>⟨by rw[gI];simp,hK63⟩,fun _=>rfl,hty,fun e _=>absurd e sq⟩⟩
  ·rw[gI,hl.length];simp only[Nat.zero_add];omega
  ·rw[T.eG]at hi
   obtain⟨cv,zV,hR⟩:=hl.get hi;have OU:=(List.getElem?_eq_some_iff.1 hi).1;refine⟨OU,ho v (aC hi),cv,?_,hR.le hle⟩;have hi2:i<cl.length:=by rw[←hl.length];exact OU
   rw[Nat.zero_add,Array.getElem?_append_left (by simpa using hi2)];simpa using zV
  ·rw[gI]at hi
   rcases hf with rfl|rfl
   ·simp
   ·simp;omega
 cases old with
 |none=>exact hr.push _ 0 K _ hw Gt
 |some b=>exact(hr.drop b).push _ 0 K _ hw Gt
section
variable{ts:Array TypeId}{args:Array Value}{ty t u e:TypeId}{cx:Value}{d:TypeDesc}{base:Option Addr}{eS ir n:Nat}{new:Array Value}
theorem GX(t0:ts[0]? =some t)(t1:ts[1]? =some u)(a0:args[0]? =some (.slice base eS ir))(a1:args[1]? =some cx)
    (ht:P.underlying t=some (.slice e))(hu:P.underlying u=some d)(hd:∀k,d≠.int k)(eH:eQ P e=true)(hn:(Builtin.lenOf cx).run P w= .ok n w)
    (hf:eS+n≤ir)(tM:(Builtin.firstCells (P.cellsOf e) n cx).run P w= .ok new w):
    (Builtin.append_ ts ty args).run P w=match base with
      |some a=>((storeCells (a.add (eS*P.cellsOf e)) new.toList).run P w).andThen fun _ w'=>.ok (.slice base (eS+n) ir) w'
      |none=>.ok (.slice base (eS+n) ir) w:=by
  cases d<;>first
    |exact absurd rfl (hd _)
    | (simp only[Builtin.append_,t0,t1,a0,a1,Sem.run_bind,run_underlying ht,run_underlying hu,Result.andThen_ok,cA e eH,Sem.run_pure,aq,if_false,hn,hf,if_true,Bool.not_false,tM]
       cases base with
       |none=>simp only[Sem.run_pure]
       |some a=>simp only[Sem.run_pure,Sem.run_bind])
theorem Fm(t0:ts[0]? =some t)(t1:ts[1]? =some u)(a0:args[0]? =some (.slice base eS ir))(a1:args[1]? =some cx)
    (ht:P.underlying t=some (.slice e))(hu:P.underlying u=some d)(hd:∀k,d≠.int k)(eH:eQ P e=true)(hn:(Builtin.lenOf cx).run P w= .ok n w)
    (hf:¬eS+n≤ir){info:TypeInfo}(hi:P.info? e=some info)(hb:info.bytes≤4194304)(Du:info.bytes≠0)(hs:eS+n≤4194304){z:Value}(VG:∀w,(zeroValue e).run P w= .ok z w)
    {old:Array Value}(hold:(Builtin.firstCells (P.cellsOf e) eS (.slice base eS ir)).run P {w with drawn:=w.drawn+1}= .ok old {w with drawn:=w.drawn+1})
    (tM:(Builtin.firstCells (P.cellsOf e) n cx).run P {w with drawn:=w.drawn+1}= .ok new {w with drawn:=w.drawn+1}):
    ∃ cap w',(eS+n≤cap∧cap≤9223372036854775807)∧(Builtin.append_ ts ty args).run P w= .ok (.slice (some ⟨w.heap.size,0,none⟩) (eS+n) cap) w'∧
      w'.heap=w.heap.push (.cells (old++new++Builtin.zeroCells z.cells (cap-(eS+n))) e)∧w'.os=w.os∧w'.tape=w.tape∧w'.output=w.output:=by
  have g1:¬(((eS+n:Nat):Int)>IntKind.i64.max∧(False∨info.bytes=0)):=fun x=>by
    rcases x.2 with x|x
    ·exact x
    ·exact Du x
  have g2:¬(Builtin.nextslicecap (eS+n) ir*info.bytes>2^48):=by
    have:=nextslicecap_le (need:=eS+n) (old:=ir) (by omega);have h2:Builtin.nextslicecap (eS+n) ir*info.bytes≤8388608*4194304:=aF (by omega) hb;omega
  have hq:(Question.appendCap (eS+n) ir e).forced=false:=rfl;refine⟨(Question.appendCap (eS+n) ir e).cut (w.tape w.drawn (.appendCap (eS+n) ir e)),
    {w with heap:=w.heap.push (.cells (old++new++Builtin.zeroCells z.cells ((Question.appendCap (eS+n) ir e).cut (w.tape w.drawn (.appendCap (eS+n) ir e))-(eS+n))) e),drawn:=w.drawn+1},?_,?_,rfl,rfl,rfl,rfl⟩
  · simp only[Question.cut];have hp:0<2^63-(eS+n):=by omega
    have:=Nat.mod_lt (w.tape w.drawn (Question.appendCap (eS+n) ir e)) hp;omega
  · cases d<;>first
      |exact absurd rfl (hd _)
      | (simp only[Builtin.append_,t0,t1,a0,a1,Sem.run_bind,run_underlying ht,run_underlying hu,Result.andThen_ok,cA e eH,Sem.run_pure,aq,if_false,hn,hf,run_typeInfo hi,g1,g2,run_choose,hq,run_askRoom,
          Bool.not_false,if_true]
         rw[hold];simp only[Result.andThen_ok];rw[tM];simp only[Result.andThen_ok,VG,newRow,Sem.run_bind,run_newObj,Sem.run_pure])
end
theorem JU{e:TypeId}{i:TypeInfo}(hi:P.info? e=some i):P.cellsOf e=i.size:=by simp[Program.cellsOf,hi]
theorem uO{w':World}(hN:N≤w.heap.size){O:Obj}(hw:w'.heap=w.heap.push O)(h1:w'.os=w.os)(h2:w'.tape=w.tape)(h3:w'.output=w.output):Below N w w':=
 ⟨h1,h2,h3,by rw[hw];simp,fun k hk=>by rw[hw,aD,if_neg (by omega)]⟩
theorem Pw(cl:List Value)(a:Array Value):(cl++a.toList).toArray=cl.toArray++a:=by simp
theorem qP{a b:List AV}(ha:∀x,x∈a→x.one=true)(hb:∀x,x∈b→x.one=true):∀x,x∈a++b→x.one=true:=fun x hx=>by
 rcases List.mem_append.1 hx with q|q
 ·exact ha x q
 ·exact hb x q
theorem td{cs:T AV}:∀{k o:Nat}{l:List AV},H.loadCells cs o k=some l→∀j a,l[j]? =some a→cs.get (o+j)=some a
 |0,_,_,h,j,a,hj=>by simp only[H.loadCells,Option.some.injEq]at h;subst h;simp at hj
 | k +1,o,l,h,j,a,hj=>by
  simp only[H.loadCells]at h;split at h
  ·cases h
  ·rename_i v hv
   split at h
   ·cases h
   ·rename_i l' Tg
    cases h;cases j with
    |zero=>simp only[List.getElem?_cons_zero,Option.some.injEq]at hj;subst hj;exact hv
    |succ j=>
     simp only[List.getElem?_cons_succ]at hj;have:=td Tg j a hj;rwa[show o+1+j=o+(j+1)by omega]at this
theorem JV(hr:HR N φ h w){b o i len n size Px:Nat}{cs:T AV}{L:Loc}{k k':EK}(hb:h.t.get b=some (.cells Px cs k false))(OV:k.sz=size)(Xc:k'.sz=size)(hkt:k'.ty≠0→k.ty=k'.ty)(hL:φ b=some L)(sq:size≠0)(ho:o=i*size)
  {old new:List AV}{cl:List Value}(hold:H.loadCells cs o (len*size)=some old)(hn:bH (VR φ) new cl)(j7:∀a,a∈new→a.one=true)(hlen:new.length=n*size)(uP:i+(len+n)≤L.K):
  ∃w',(storeCells ⟨L.B,L.base+o+len*size,none⟩ cl).run P w= .ok () w'∧HR N (φ.ins h.nx ⟨L.B,L.base+o,L.K-i⟩) (h.grown (some b) k' (old++new)) w'∧
   φ.le (φ.ins h.nx ⟨L.B,L.base+o,L.K-i⟩)∧Below N w w':=by
 have Gt:=hr.get hb hL;have fW:=Gt.lt;obtain⟨c,t,frz,g1,g2,g3,g4,g5⟩:=Gt;obtain⟨hN,Ph⟩:=g4 rfl;obtain⟨gI,hk63⟩:=g5.1 (by rw[OV];exact sq);rw[OV]at gI;have GY:cl.length=n*size:=by rw[←hn.length];exact hlen
 have hle:φ.le (φ.ins h.nx ⟨L.B,L.base+o,L.K-i⟩):=cX.qK _ (hr.lt _ (aM _));have hmul:i*size+(len*size+n*size)≤L.K*size:=by
  rw[←au,←au];exact Nat.mul_le_mul_right _ uP
 have JW:L.K*size=i*size+(L.K-i)*size:=by rw[←au];congr 1;omega
 have hol:=oF hold;obtain⟨c',r1,r2,r3⟩:=mT P (B:=L.B) (base:=L.base+o+len*size) (t:=t) (frz:=frz) cl 0 w c g1
  (fun j hj=>by rw[GY]at hj;exact⟨by omega,Ph _ (by omega)⟩)
  (fun v hv=>by
   obtain⟨j,hj⟩:=List.getElem?_of_mem hv;obtain⟨a,ha,hR⟩:=hn.get' hj;exact hR.one (j7 a (aC ha)))
 refine⟨_,r1,?_,hle,fF _ hN⟩;have hd:=hr.drop b;refine(hd.add (w':=jg w L.B (.cells c' t frz)) ⟨L.B,L.base+o,L.K-i⟩ (.cells (kQ (old++new)) (T.ofRow (old++new)) k' false) ?_ ?_ ?_).1
 ·intro x ox L0 hx Fh e
  have Nv:x≠b∧h.t.get x=some ox:=by
   simp only[T.bS]at hx;split at hx
   ·cases hx
   ·rename_i q;exact⟨q,hx⟩
  exact Nv.1 (hr.inj x ox b _ L0 L Nv.2 hb Fh hL e)
 ·intro x ox L0 hx Fh
  have Nv:x≠b∧h.t.get x=some ox:=by
   simp only[T.bS]at hx;split at hx
   ·cases hx
   ·rename_i q;exact⟨q,hx⟩
  rw[eY fW,if_neg (fun e=>Nv.1 (hr.inj x ox b _ L0 L Nv.2 hb Fh hL e))]
 ·rw[dY]
  refine⟨c',t,frz,by rw[eY fW,if_pos rfl],?_,fun j v hj=>?_,fun _=>⟨hN,by rw[r2];exact Ph⟩,⟨fun _=>?_,fun e=>absurd (Xc.symm.trans e) sq,fun e=>by rw[←hkt e];exact g5.2.2.1 (by rw[hkt e];exact e),fun e _=>absurd (Xc.symm.trans e) sq⟩⟩
  ·rw[r2,aB,hol,hlen];show L.base+o+_≤_;omega
  ·rw[T.eG]at hj
   have hjl:=(List.getElem?_eq_some_iff.1 hj).1;have hj2:j<len*size+n*size:=by rw[aB,hol,hlen]at hjl;exact hjl
   refine⟨hjl,?_⟩;show v.one=true∧∃cv,c'[L.base+o+j]? =some cv∧VR _ v cv;by_cases q:j<len*size
   ·rw[List.getElem?_append_left (by omega)]at hj
    obtain⟨u1,u2,cv,u3,u4⟩:=g3 _ _ (td hold j v hj);refine⟨u2,cv,?_,u4.le hle⟩;rw[r3,if_neg (by omega),aH];exact u3
   ·rw[List.getElem?_append_right (by omega),hol]at hj
    obtain⟨cv,zV,hR⟩:=hn.get hj;refine⟨j7 v (aC hj),cv,?_,hR.le hle⟩;rw[r3,if_pos (by omega),show L.base+o+j-(L.base+o+len*size+0)=j-len*size by omega];exact zV
  ·refine⟨?_,Nat.le_trans (Nat.sub_le _ _) hk63⟩
   rw[r2,gI,JW,ho,Xc];show _=L.base+i*size+(L.K-i)*size;omega
theorem GZ{l:List AV}(hl:∀a,a∈l→a.one=true):∀n a,a∈kS l n→a.one=true
 |0,_,h=>by simp[kS]at h
 |n+1,a,h=>by
  simp only[kS,List.mem_append]at h;rcases h with h1|h1
  ·exact hl a h1
  ·exact GZ hl n a h1
theorem uQ{e:TypeId}{info:TypeInfo}(hi:P.info? e=some info)(h:lJ P e info=true):
  P.cellsOf e=info.size∧info.bytes≤4194304∧info.bytes≠0∧info.size≠0∧eQ P e=true∧∃z,z.cells.size=info.size∧∀w,(zeroValue e).run P w= .ok z w:=by
 unfold lJ at h;simp only[ao,Bool.not_eq_true',Bool.or_eq_false_iff]at h;obtain⟨⟨hb,eH⟩,⟨hz1,Lu⟩,hz3⟩:=h;obtain⟨z,hz4,hz5⟩:∃z,info.zero=some z∧z.cells.size=info.size:=by
  cases hzz:info.zero with
  |none=>rw[hzz]at hz3;simp at hz3
  |some z=>rw[hzz]at hz3;simp at hz3;exact⟨z,rfl,hz3⟩
 refine⟨JU hi,by have:=lK hb;omega,aw hz1,aw Lu,eH,z,hz5,fun w=>?_⟩;simp only[zeroValue,Sem.run_bind,run_typeInfo hi,Result.andThen_ok,hz4,Sem.run_pure]
theorem xV(hr:HR N φ h w)(hN:N≤w.heap.size){ts:Array TypeId}{args:Array Value}{ty e:TypeId}{size n:Nat}{s v:AV}{new:List AV}{cs z:Value}{arr Nx:Array Value}
  (ta:P.cellsOf e=size)(sq:size≠0)(Lu:z.cells.size=size)(SS:bH (VR φ) new arr.toList)(ha3:∀a,a∈new→a.one=true)(sP:bH (VR φ) new Nx.toList)
  (F:∀base eS ir,cs= .slice base eS ir→eS+n≤ir→(Builtin.append_ ts ty args).run P w=match base with
   |some a=>((storeCells (a.add (eS*P.cellsOf e)) arr.toList).run P w).andThen fun _ w'=>.ok (.slice base (eS+n) ir) w'
   |none=>.ok (.slice base (eS+n) ir) w)
  (G:∀base eS ir old,cs= .slice base eS ir→¬eS+n≤ir→eS+n≤4194304→(Builtin.firstCells (P.cellsOf e) eS (.slice base eS ir)).run P {w with drawn:=w.drawn+1}= .ok old {w with drawn:=w.drawn+1}→
   ∃cap w',(eS+n≤cap∧cap≤9223372036854775807)∧(Builtin.append_ ts ty args).run P w= .ok (.slice (some ⟨w.heap.size,0,none⟩) (eS+n) cap) w'∧
    w'.heap=w.heap.push (.cells (old++Nx++Builtin.zeroCells z.cells (cap-(eS+n))) e)∧w'.os=w.os∧w'.tape=w.tape∧w'.output=w.output)
  (hs:VR φ s cs)(ha:du e size s n new h= .val v h'):qD P N φ w (Builtin.append_ ts ty args) v h':=by
 have hb3:=ha3;unfold du at ha;split at ha
 ·cases ha
 ·rename_i hlen
  have hlen:=an hlen;rw[dY]at hlen;have G0:HR N φ h {w with drawn:=w.drawn+1}:=hr.zm rfl;split at ha
  ·-- nil
   simp only[eX]at hs;subst hs;split at ha
   ·cases ha
    refine⟨φ,.slice none 0 0,w,?_,eX.2 rfl,φ.le_refl,hr,Below.refl _ _⟩;rw[F _ _ _ rfl (by omega)]
   ·rename_i n0
    split at ha
    ·rename_i s_
     cases ha;have s_:=lK s_;have hold:(Builtin.firstCells (P.cellsOf e) 0 (.slice none 0 0)).run P {w with drawn:=w.drawn+1}= .ok #[] {w with drawn:=w.drawn+1}:=rfl;have npos:n≠0:=fun e0=>n0 e0;obtain⟨cap,w',⟨wC,JX⟩,nI,Jt,Tk,Ju,hc6⟩:=G _ _ _ _ rfl (by omega) (by omega) hold;have mH:Nx.toList.length+(Builtin.zeroCells z.cells (cap-(0+n))).size=cap*size:=by
      rw[j9,Lu,←sP.length,hlen,←au];congr 1;omega
     have hg:=sn hr hN (t:=e) (esz:=⟨size,e+1⟩) sP hb3 mH (fun _=>rfl) sq JX (0,0) (.inl rfl) w' (by rw[Jt];simp) none;refine⟨_,_,w',nI,?_,hg.2,hg.1,uO hN Jt Tk Ju hc6⟩;rw[dU];exact⟨_,cX.cS _ _ _,by simp,by simpa using wC⟩
    ·cases ha
  ·-- no elements, no place
   simp only[iZ]at hs;obtain⟨a,c,rfl⟩:=hs;split at ha
   ·cases ha
    refine⟨φ,.slice (some a) 0 c,w,?_,iZ.2 ⟨_,_,rfl⟩,φ.le_refl,hr,Below.refl _ _⟩;have he:arr.toList=[]:=by
     have :new=[]:=by
      have:=hlen;simp at this;exact this
     subst this;exact bH.ct.1 SS
    rw[F _ _ _ rfl (by omega),he];simp[storeCells]
   ·cases ha
  ·-- an exact capacity
   rename_i b o len c;have qL:=hs;rw[dT]at qL;obtain⟨L,hL,rfl⟩:=qL;split at ha
   ·rename_i uP
    have uP:=al uP;split at ha
    ·rename_i h1 Fo
     cases ha;obtain⟨L',w',tc,p1,p2,p3,_,_⟩:=uI (P:=P) hr hL Fo SS;rw[hL]at tc;cases tc;refine⟨φ,.slice (some ⟨L.B,L.base+o,none⟩) (len+n) c,w',?_,by rw[dT];exact⟨L,hL,rfl⟩,φ.le_refl,p2,p3⟩;rw[F _ _ _ rfl uP];simp only[iP,ta,aH];rw[p1];rfl
    ·cases ha
   ·rename_i uP
    have uP:¬(len+n≤c):=fun x=>by rw[Nat.ble_eq_true_of_le x]at uP;cases uP
    split at ha
    ·rename_i old s_ eZ
     cases ha;have s_:=lK s_;obtain⟨L',cl,tc,r1,r2,r3,r4⟩:=uH (P:=P) G0 hL eZ;rw[hL]at tc;cases tc;have hold:(Builtin.firstCells (P.cellsOf e) len (.slice (some ⟨L.B,L.base+o,none⟩) len c)).run P {w with drawn:=w.drawn+1}= .ok cl.toArray {w with drawn:=w.drawn+1}:=by
      rw[ta];exact r1
     obtain⟨cap,w',⟨wC,JX⟩,nI,Jt,Tk,Ju,hc6⟩:=G _ _ _ _ rfl uP s_ hold;have mH:(cl++Nx.toList).length+(Builtin.zeroCells z.cells (cap-(len+n))).size=cap*size:=by
      rw[j9,Lu,aB,←sP.length,hlen,r3,←au,←au];congr 1;omega
     have hg:=sn hr hN (t:=e) (esz:=⟨size,e+1⟩) (r2.append sP) (qP r4 hb3) mH (fun _=>rfl) sq JX (0,0) (.inl rfl) w' (by rw[Jt,Pw]) none;refine⟨_,_,w',nI,?_,hg.2,hg.1,uO hN Jt Tk Ju hc6⟩;rw[dU];exact⟨_,cX.cS _ _ _,by simp,by simpa using wC⟩
    ·cases ha
  ·-- a capacity that is not known
   rename_i b o len i;have qL:=hs;rw[dU]at qL;obtain⟨L,hL,rfl,hK⟩:=qL;split at ha
   ·cases ha
    refine⟨φ,.slice (some ⟨L.B,L.base+o,none⟩) len (L.K-i),w,?_,hs,φ.le_refl,hr,Below.refl _ _⟩;have he:arr.toList=[]:=by
     have :new=[]:=by
      have:=hlen;simp at this;exact this
     subst this;exact bH.ct.1 SS
    rw[F _ _ _ rfl (by omega),he];simp[storeCells]
   ·split at ha
    ·rename_i Px cs esz Tl ho
     have ho:=an ho;split at ha
     ·cases ha
     ·rename_i Py
      have Py:=an Py;split at ha
      ·rename_i tI
       have tI:=al tI;split at ha
       ·rename_i h1 Fo
        cases ha;obtain⟨L',w',tc,p1,p2,p3,_,_⟩:=uI (P:=P) hr hL Fo SS;rw[hL]at tc;cases tc;obtain⟨c,t',frz,g1,g2,g3,g4,g5⟩:=hr.get Tl hL;obtain⟨gI,hk63⟩:=g5.1 (by rw[Py];exact sq);rw[Py]at gI;have hle:i+(len+n)≤L.K:=by
         have :(i+(len+n))*size≤L.K*size:=by rw[au,←ho];omega
         exact Nat.le_of_mul_le_mul_right this (by omega)
        refine⟨φ,.slice (some ⟨L.B,L.base+o,none⟩) (len+n) (L.K-i),w',?_,by rw[dU];exact⟨L,hL,rfl,hle⟩,φ.le_refl,p2,p3⟩;rw[F _ _ _ rfl (by omega)];simp only[iP,ta,aH];rw[p1];rfl
       ·cases ha
      ·split at ha
       ·rename_i old s_ eZ
        rw[ie]at eZ;cases ha;have s_:=lK s_;by_cases uP:i+(len+n)≤L.K
        ·obtain⟨w',p1,p2,p3,p4⟩:=JV (P:=P) (k':=kG esz size e) hr Tl Py Ac Nw hL sq ho eZ SS ha3 hlen uP
         refine⟨_,.slice (some ⟨L.B,L.base+o,none⟩) (len+n) (L.K-i),w',?_,?_,p3,p2,p4⟩
         ·rw[F _ _ _ rfl (by omega)]
          simp only[iP,ta];rw[p1];rfl
         ·rw[dU]
          exact⟨_,cX.cS _ _ _,by simp,by show 0+(len+n)≤L.K-i;omega⟩
        ·obtain⟨cl,r2,r3,_,r4⟩:=lC (G0.get Tl hL) _ _ _ eZ
         have hrow':h.row b o (len*size)=some old:=by unfold H.row;rw[Tl];exact(ie _ _ _).trans eZ
         obtain⟨L',cl,tc,r1,r2,r3,r4⟩:=uH (P:=P) G0 hL hrow';rw[hL]at tc;cases tc;have hold:(Builtin.firstCells (P.cellsOf e) len (.slice (some ⟨L.B,L.base+o,none⟩) len (L.K-i))).run P {w with drawn:=w.drawn+1}= .ok cl.toArray {w with drawn:=w.drawn+1}:=by
          rw[ta];exact r1
         obtain⟨cap,w',⟨wC,JX⟩,nI,Jt,Tk,Ju,hc6⟩:=G _ _ _ _ rfl (by omega) s_ hold;have mH:(cl++Nx.toList).length+(Builtin.zeroCells z.cells (cap-(len+n))).size=cap*size:=by
          rw[j9,Lu,aB,←sP.length,hlen,r3,←au,←au];congr 1;omega
         have hg:=sn hr hN (t:=e) (esz:=kG esz size e) (r2.append sP) (qP r4 hb3) (by rw[Ac];exact mH) Pv (by rw[Ac];exact sq) JX (0,0) (.inl rfl) w' (by rw[Jt,Pw]) (some b);refine⟨_,_,w',nI,?_,hg.2,hg.1,uO hN Jt Tk Ju hc6⟩;rw[dU];exact⟨_,cX.cS _ _ _,by simp,by simpa using wC⟩
       ·cases ha
    ·cases ha
  ·cases ha
theorem G1(hr:HR N φ h w)(hN:N≤w.heap.size){ts:Array TypeId}{args:Array Value}{ty t u e:TypeId}{d:TypeDesc}{s x v:AV}{cs cx:Value}
  (t0:ts[0]? =some t)(t1:ts[1]? =some u)(a0:args[0]? =some cs)(a1:args[1]? =some cx)
  (ht:P.underlying t=some (.slice e))(hu:P.underlying u=some d)(hd:∀k,d≠.int k)(hs:VR φ s cs)(hx:VR φ x cx)(ha:lz P e s x h= .val v h'):
  qD P N φ w (Builtin.append_ ts ty args) v h':=by
 unfold lz at ha;split at ha
 ·cases ha
 ·rename_i info hi
  split at ha
  ·rename_i n hn yY
   obtain⟨ta,qQ,Du,sq,eH,z,Lu,VG⟩:=uQ hi yY;split at ha
   ·cases ha
   ·rename_i new tM
    have zo:=fun w=>Ab (P:=P) (w:=w) hx hn;have src:∀w',HR N φ h w'→∃arr,(Builtin.firstCells (P.cellsOf e) n cx).run P w'= .ok arr w'∧bH (VR φ) new arr.toList∧∀a,a∈new→a.one=true:=fun w' Ny=>by
     rw[ta];exact uN Ny hx hn (aM _) tM
    obtain⟨arr,ha1,SS,ha3⟩:=src w hr;obtain⟨Nx,wD,sP,hb3⟩:=src {w with drawn:=w.drawn+1} (hr.zm rfl);refine xV hr hN ta sq Lu SS ha3 sP (fun base eS ir e1 hf=>?_) (fun base eS ir old e1 hf s_ hold=>?_) hs ha
    ·subst e1;exact GX t0 t1 a0 a1 ht hu hd eH (zo w) hf ha1
    ·subst e1;exact Fm t0 t1 a0 a1 ht hu hd eH (zo w) hf hi qQ Du s_ VG hold wD
  ·cases ha
theorem G2(hr:HR N φ h w)(hN:N≤w.heap.size){ts:Array TypeId}{args:Array Value}{ty t u e:TypeId}{k:IntKind}{s x v:AV}{cs cx:Value}
  (t0:ts[0]? =some t)(t1:ts[1]? =some u)(a0:args[0]? =some cs)(a1:args[1]? =some cx)
  (ht:P.underlying t=some (.slice e))(hu:P.underlying u=some (.int k))(hs:VR φ s cs)(hx:VR φ x cx)(ha:r9 P e s x h= .val v h'):
  qD P N φ w (Builtin.append_ ts ty args) v h':=by
 unfold r9 at ha;split at ha
 ·rename_i info j n hi
  simp only[db]at hx;subst hx;split at ha
  ·rename_i za hza yY
   simp only[ao]at yY;obtain⟨ta,qQ,Du,sq,eH,z,Lu,VG⟩:=uQ hi yY.1;have hn:=lK yY.2;obtain⟨cz,q1,q2,q3,_⟩:=fQ (w:=w) (φ:=φ) hza;have hcz:cz=z:=by have:=VG w;rw[q1]at this;cases this;rfl
   subst hcz;have hrep:bH (VR φ) (kS za.cells n) (Builtin.zeroCells cz.cells n).toList:=kW q2.cells n;have j7:∀a,a∈kS za.cells n→a.one=true:=GZ q3 n;have VH:IntKind.i64.wrap (ak n)=ak n:=by
    have:=oG .i64 (ak n);rw[←this];simp only[bV];have e1:Int.emod (ak n) 18446744073709551616=ak n:=by
     show(ak n)%18446744073709551616=_;exact Int.emod_eq_of_lt (by simp) (by show((n:Nat):Int)<_;omega)
    rw[e1,if_pos (by show((n:Nat):Int)<_;omega)]
   have mH:(Builtin.zeroCells cz.cells n).size=n*info.size:=by rw[j9,Lu]
   have Pz:n*info.size=0→Builtin.zeroCells cz.cells n= #[]:=fun e0=>by
    rw[e0]at mH;exact Array.size_eq_zero_iff.1 mH
   have hneg:¬(ak n)<0:=by simp
   have h4:(ak n).toNat=n:=rfl;have hbig:¬(ak n*(info.bytes:Int)>2^48):=by
    have :n*info.bytes≤4194304*4194304:=aF hn qQ;have :((n*info.bytes:Nat):Int)≤((4194304*4194304:Nat):Int):=by exact_mod_cast this
    simp only[Int.ofNat_eq_natCast,Int.natCast_mul]at this ⊢;omega
   refine xV hr hN ta sq Lu hrep j7 hrep (fun base eS ir e1 hf=>?_) (fun base eS ir old e1 hf s_ hold=>?_) hs ha
   ·subst e1
    simp only[Builtin.append_,t0,t1,a0,a1,Sem.run_bind,run_underlying ht,run_underlying hu,Result.andThen_ok,cA e eH,Sem.run_pure];simp only[if_true,Sem.run_bind,asInt,asIntOf,Sem.run_pure,Result.andThen_ok,VH,hneg,if_false,run_typeInfo hi,hbig,h4,hf,Bool.not_true,aq];by_cases e0:n*P.cellsOf e=0
    ·simp only[e0,if_true,Sem.run_pure,Result.andThen_ok]
     rw[Pz (by rw[←ta];exact e0)];cases base with
     |none=>simp only[Sem.run_pure]
     |some a=>simp only[Sem.run_pure,Sem.run_bind]
    ·simp only[e0,if_false,Sem.run_bind,VG,Sem.run_pure,Result.andThen_ok]
     cases base with
     |none=>simp only[Sem.run_pure]
     |some a=>simp only[Sem.run_pure,Sem.run_bind]
   ·subst e1
    have g1:¬(((eS+n:Nat):Int)>IntKind.i64.max∧(True∨info.bytes=0)):=fun x=>by
     have:=x.1;have wN:IntKind.i64.max=9223372036854775807:=rfl;rw[wN]at this;omega
    have g2:¬(Builtin.nextslicecap (eS+n) ir*info.bytes>2^48):=by
     have:=nextslicecap_le (need:=eS+n) (old:=ir) (by omega);have h2:Builtin.nextslicecap (eS+n) ir*info.bytes≤8388608*4194304:=aF (by omega) qQ;omega
    have hq:(Question.appendCap (eS+n) ir e).forced=false:=rfl;refine⟨(Question.appendCap (eS+n) ir e).cut (w.tape w.drawn (.appendCap (eS+n) ir e)),
     {w with heap:=w.heap.push (.cells (old++Builtin.zeroCells cz.cells n++Builtin.zeroCells cz.cells ((Question.appendCap (eS+n) ir e).cut (w.tape w.drawn (.appendCap (eS+n) ir e))-(eS+n))) e),drawn:=w.drawn+1},?_,?_,rfl,rfl,rfl,rfl⟩
    ·simp only[Question.cut];have hp:0<2^63-(eS+n):=by omega
     have:=Nat.mod_lt (w.tape w.drawn (Question.appendCap (eS+n) ir e)) hp;omega
    ·simp only[Builtin.append_,t0,t1,a0,a1,Sem.run_bind,run_underlying ht,run_underlying hu,Result.andThen_ok,cA e eH,Sem.run_pure]
     simp only[if_true,Sem.run_bind,asInt,asIntOf,Sem.run_pure,Result.andThen_ok,VH,hneg,if_false,run_typeInfo hi,hbig,h4,hf,Bool.not_true,aq,g1,g2,run_choose,hq,run_askRoom];rw[hold];simp only[Result.andThen_ok];by_cases e0:n*P.cellsOf e=0
     ·simp only[e0,if_true,Sem.run_pure,Result.andThen_ok,VG,newRow,Sem.run_bind,run_newObj]
      rw[Pz (by rw[←ta];exact e0)]
     ·simp only[e0,if_false,Sem.run_bind,VG,Sem.run_pure,Result.andThen_ok,newRow,run_newObj]
  ·cases ha
 ·cases ha
end
end Go.AX
namespace Go.AX
open Go.RowKit
section
variable{P:Program}{N:NN}{φ:cX}{h h':H}{w:World}
theorem Nz(hr:HR N φ h w){ts:Array TypeId}{args:Array Value}{ty t e:TypeId}{s x v:AV}{cs cx:Value}
  (t0:ts[0]? =some t)(a0:args[0]? =some cs)(a1:args[1]? =some cx)
  (ht:P.underlying t=some (.slice e))(hs:VR φ s cs)(hx:VR φ x cx)(ha:zN P e s x h= .val v h'):
  qD P N φ w (Builtin.copy_ ts ty args) v h':=by
 unfold zN at ha;split at ha
 ·rename_i dl n Tm hn
  simp only at ha;split at ha
  ·cases ha
  ·rename_i l hl
   have hle:Nat.min n dl≤n:=Nat.min_le_left _ _;have zo:=Ab (P:=P) (w:=w) hx hn;split at ha
   ·rename_i eH
    simp only[eX]at hs;subst hs;simp only[hZ,Option.some.injEq]at Tm;subst Tm;obtain⟨arr,r1,r2,r3⟩:=uN (P:=P) hr hx hn hle hl;simp only[R.val.injEq]at ha;obtain⟨rfl,rfl⟩:=ha;refine⟨φ,_,w,?_,db.2 rfl,φ.le_refl,hr,Below.refl _ _⟩;simp only[Builtin.copy_,t0,a0,a1,Sem.run_bind,run_underlying ht,Result.andThen_ok,zo,cA e eH,r1,Sem.run_pure];rfl
   ·rename_i eH
    simp only[iZ]at hs;obtain⟨a,c,rfl⟩:=hs;simp only[hZ,Option.some.injEq]at Tm;subst Tm;obtain⟨arr,r1,r2,r3⟩:=uN (P:=P) hr hx hn hle hl;have h0:Nat.min n 0=0:=Nat.min_eq_right (Nat.zero_le _);have he:arr.toList=[]:=by
     have Tg:l=[]:=by
      rw[h0]at hl;cases x with
      |bh=>simp only[qm,Option.some.injEq]at hl;exact hl.symm
      |dq=>simp only[qm,Option.some.injEq]at hl;exact hl.symm
      |slice b o len c=>
       simp only[qm,Nat.zero_mul,H.row]at hl;split at hl
       ·simp only[ie,H.loadCells,Option.some.injEq]at hl;exact hl.symm
       ·cases hl
      |str s=>simp only[qm,List.take_zero,List.map_nil,Option.some.injEq]at hl;exact hl.symm
      |_=>simp[qm]at hl
     subst Tg;exact bH.ct.1 r2
    simp only[R.val.injEq]at ha;obtain⟨rfl,rfl⟩:=ha;refine⟨φ,_,w,?_,db.2 rfl,φ.le_refl,hr,Below.refl _ _⟩;simp only[Builtin.copy_,t0,a0,a1,Sem.run_bind,run_underlying ht,Result.andThen_ok,zo,cA e eH,r1,he,storeCells,Sem.run_pure];rfl
   ·rename_i b o len c eH
    obtain⟨L,cap,hL,rfl⟩:=pn hs;simp only[hZ,Option.some.injEq]at Tm;subst Tm;obtain⟨arr,r1,r2,r3⟩:=uN (P:=P) hr hx hn hle hl;split at ha
    ·rename_i h1 Fo
     cases ha;obtain⟨L',w',tc,p1,p2,p3,_,_⟩:=uI (P:=P) hr hL Fo r2;rw[hL]at tc;cases tc;refine⟨φ,_,w',?_,db.2 rfl,φ.le_refl,p2,p3⟩;simp only[Builtin.copy_,t0,a0,a1,Sem.run_bind,run_underlying ht,Result.andThen_ok,zo,cA e eH,r1,p1,Sem.run_pure];rfl
    ·cases ha
   ·cases ha
 ·cases ha
theorem xW:∀{l:List AV}{s:List Nat}{cl:List Value},nH l=some s→bH (VR φ) l cl→
  ∃ns:List Int,cl=ns.map (Value.int .u8)∧s=ns.map (fun n=>(UInt8.ofNat n.toNat).toNat)
 |[],s,cl,hb,hl=>by
  rw[bH.ct]at hl;subst hl;simp only[nH,Option.some.injEq]at hb;subst hb;exact⟨[],rfl,rfl⟩
 | a::l,s,cl,hb,hl=>by
  obtain⟨c,cr,rfl,h1,h2⟩:=bH.bM.1 hl;unfold nH at hb;split at hb
  ·rename_i e;cases e
  ·rename_i n l' e
   cases e;split at hb
   ·rename_i s' qL
    cases hb;obtain⟨ns,rfl,rfl⟩:=xW qL h2;simp only[db]at h1;subst h1;exact⟨(n:Int)::ns,rfl,by simp⟩
   ·cases hb
  ·cases hb
theorem Ad{l:List AV}{s:List Nat}{cl:List Value}(hb:o_ l=some s)(hl:bH (VR φ) l cl):
  ∃ns:List Int,cl=ns.map (Value.int .u8)∧s=ns.map (fun n=>(UInt8.ofNat n.toNat).toNat):=xW ((Dp l).symm.trans hb) hl
theorem foldl_push_bytes:∀(ns:List Int)(s:ByteArray),bytesOf (ns.foldl (fun r n=>r.push (UInt8.ofNat n.toNat)) s)=bytesOf s++ns.map (fun n=>(UInt8.ofNat n.toNat).toNat)
 |[],s=>by simp
 |n::ns,s=>by
  simp only[List.foldl_cons,foldl_push_bytes ns,List.map_cons];simp[bytesOf,ByteArray.push]
theorem uR(hr:HR N φ h w)(hN:N≤w.heap.size){e:TypeId}{s:ByteArray}(hs63:s.size<9223372036854775808):
  qD P N φ w (Conv.stringToBytes e s) (.slice h.nx 0 (bytesOf s).length (.iK 0)) (h.grown none ⟨1,e+1⟩ ((bytesOf s).map fun b=>.int .u8 (ak b))):=by
 have ls:(bytesOf s).length=s.size:=by simp[bytesOf]
 have hq:(Question.appendCap s.size 0 e).forced=false:=rfl;obtain⟨cap,Xd⟩:∃cap,cap=(Question.appendCap s.size 0 e).cut (w.tape w.drawn (.appendCap s.size 0 e)):=⟨_,rfl⟩;have hle:s.size≤cap:=by rw[Xd];simp[Question.cut]
 have JX:cap≤9223372036854775807:=by
  rw[Xd];simp only[Question.cut];have hp:0<2^63-s.size:=by omega
  have:=Nat.mod_lt (w.tape w.drawn (Question.appendCap s.size 0 e)) hp;omega
 obtain⟨c,hc⟩:∃c:Array Value,c=(s.data.map fun b=>Value.int .u8 b.toNat)++Array.replicate (cap-s.size) (.int .u8 0):=⟨_,rfl⟩;have gI:c.size=cap:=by rw[hc];simp;exact Nat.add_sub_cancel' (by simpa using hle)
 obtain⟨w',hw'⟩:∃w':World,w'={w with heap:=w.heap.push (.cells c e (cap,cap+1)),drawn:=w.drawn+1}:=⟨_,rfl⟩;have nB:(Conv.stringToBytes e s).run P w= .ok (.slice (some ⟨w.heap.size,0,none⟩) s.size cap) w':=by
  simp only[Conv.stringToBytes,Sem.run_bind,run_choose,hq,aq,if_false,Result.andThen_ok,←Xd,←hc,newRow,run_newObj,Sem.run_pure,markStringish,run_shape];have Xe:({w with heap:=w.heap.push (.cells c e),drawn:=w.drawn+1}:World).shape? w.heap.size=some (e,cap):=by
   simp[World.shape?,gI]
  simp only[Xe,run_freeze,Result.andThen_ok];congr 1;rw[hw'];unfold World.freeze;simp only[Nat.add_one_ne_zero,if_false];congr 1;apply Array.ext_getElem?;intro k;rw[az];by_cases q:w.heap.size=k
  ·subst q;simp
  ·rw[if_neg q,aD,aD,if_neg (fun x=>q x.symm),if_neg (fun x=>q x.symm)]
 have hl:bH (VR φ) ((bytesOf s).map fun b=>AV.int .u8 (ak b)) (s.data.map fun b=>Value.int .u8 b.toNat).toList:=by
  rw[Array.toList_map,bH.qJ,bH.wM,bytesOf,bH.qJ];exact bH.same (fun a=>by simp) _
 have hg:=sn hr hN (t:=e) (esz:=⟨1,e+1⟩) (K:=cap) (rest:=Array.replicate (cap-s.size) (.int .u8 0)) hl
  (by intro a ha;simp only[List.mem_map]at ha;obtain⟨_,_,rfl⟩:=ha;rfl) (by simp;omega) (fun _=>rfl) (by simp) JX (cap,cap+1) (.inr (by rw[Nat.mul_one])) w' (by rw[hw',hc]) none
 refine⟨_,_,w',nB,?_,hg.2,hg.1,?_⟩
 ·rw[dU]
  exact⟨_,cX.cS _ _ _,by rw[ls];simp,by rw[ls];simpa using hle⟩
 ·rw[hw'];exact uO hN rfl rfl rfl rfl
theorem Fp(hr:HR N φ h w)(hN:N≤w.heap.size){src dst:TypeId}{x v:AV}{cx:Value}(hx:VR φ x cx)(hc:gF P src dst x h= .val v h'):
  qD P N φ w (convert src dst cx) v h':=by
 unfold gF at hc;split at hc
 ·rename_i d k k' n hs hd
  simp only[db]at hx;subst hx;simp only[cT,oG]at hc;cases hc;refine Pu.pV hr ⟨_,?_,db.2 rfl⟩;simp only[convert,Sem.run_bind,run_underlying hs,run_underlying hd,Result.andThen_ok];cases d<;>rfl
 ·rename_i d s hs hd
  cases hc;simp only[fE]at hx;obtain⟨b,rfl,rfl⟩:=hx;refine Pu.pV hr ⟨.string b,?_,fE.2 ⟨_,rfl,rfl⟩⟩;simp only[convert,Sem.run_bind,run_underlying hs,run_underlying hd,Result.andThen_ok];cases d<;>rfl
 ·rename_i d e s hs hd
  simp only[fE]at hx;obtain⟨b,rfl,rfl⟩:=hx;split at hc
  ·rename_i he s_
   cases hc;have hb63:b.size<9223372036854775808:=by
    have h1:=lK s_;rw[dY]at h1;have :(bytesOf b).length=b.size:=by simp[bytesOf]
    omega
   have:=uR (P:=P) hr hN (e:=e) (s:=b) hb63;obtain⟨gA,cv,w',h1,h2⟩:=this;refine⟨gA,cv,w',?_,by rw[dY];exact h2⟩;simp only[convert,Sem.run_bind,run_underlying hs,run_underlying hd,Result.andThen_ok];cases d<;>simp only[run_underlying he,Result.andThen_ok,h1]
  ·cases hc
 ·rename_i e hs hd
  split at hc
  ·rename_i he
   cases hc;simp only[eX]at hx;subst hx;refine Pu.pV hr ⟨.string .empty,?_,fE.2 ⟨_,rfl,rfl⟩⟩;simp only[convert,Sem.run_bind,run_underlying hs,run_underlying hd,Result.andThen_ok,run_underlying he,Conv.bytesToString,Sem.run_pure]
  ·cases hc
 ·rename_i e hs hd
  split at hc
  ·rename_i he
   cases hc;simp only[iZ]at hx;obtain⟨a,c,rfl⟩:=hx;refine Pu.pV hr ⟨.string .empty,?_,fE.2 ⟨_,rfl,rfl⟩⟩;rw[run_convert_bytes_string w src dst e _ _ _ hs he hd];exact run_bytesToString w a 0 c [] rfl
  ·cases hc
 ·rename_i e b o len c hs hd
  split at hc
  ·rename_i he
   split at hc
   ·rename_i l eZ
    split at hc
    ·rename_i s hby
     cases hc;obtain⟨L,cap,hL,rfl⟩:=pn hx;obtain⟨L',cl,tc,r1,r2,r3,r4⟩:=uH (P:=P) hr hL eZ;rw[hL]at tc;cases tc;obtain⟨ns,rfl,rfl⟩:=Ad hby r2;refine Pu.pV hr ⟨.string (ns.foldl (fun r n=>r.push (UInt8.ofNat n.toNat)) ByteArray.empty),?_,fE.2 ⟨_,rfl,?_⟩⟩
     ·rw[run_convert_bytes_string w src dst e _ _ _ hs he hd]
      exact run_bytesToString w _ len cap ns r1
     ·rw[foldl_push_bytes];rfl
    ·cases hc
   ·cases hc
  ·cases hc
 ·cases hc
theorem PA(hr:HR N φ h w){ts:Array TypeId}{args:Array Value}{ty t:TypeId}{x:AV}{cx:Value}{n:Nat}(t0:ts[0]? =some t)(a0:args[0]? =some cx)
  (hx:VR φ x cx)(hl:qE P t x h=some n):(Builtin.len_ ts ty args).run P w= .ok (.int .i64 (ak n)) w:=by
 unfold qE at hl;split at hl
 ·rename_i s hu
  simp only[fE]at hx;obtain⟨b,rfl,rfl⟩:=hx;simp only[Option.some.injEq]at hl;subst hl;have ls:(bytesOf b).length=b.size:=by simp[bytesOf]
  simp only[Builtin.len_,t0,a0,Sem.run_bind,run_underlying hu,Result.andThen_ok,Sem.run_pure];rw[dY,ls];rfl
 ·rename_i k e _ hu
  simp only[Option.some.injEq]at hl;subst hl;simp only[Builtin.len_,t0,a0,Sem.run_bind,run_underlying hu,Result.andThen_ok,Sem.run_pure];rfl
 ·rename_i a _ hu
  split at hl
  ·rename_i k e ha
   simp only[Option.some.injEq]at hl;subst hl;simp only[Builtin.len_,t0,a0,Sem.run_bind,run_underlying hu,Result.andThen_ok,Sem.run_pure,run_underlying ha];rfl
  ·cases hl
 ·rename_i e hu
  simp only[eX]at hx;subst hx;simp only[Option.some.injEq]at hl;subst hl;simp only[Builtin.len_,t0,a0,Sem.run_bind,run_underlying hu,Result.andThen_ok,Sem.run_pure];rfl
 ·rename_i e hu
  simp only[iZ]at hx;obtain⟨a,c,rfl⟩:=hx;simp only[Option.some.injEq]at hl;subst hl;simp only[Builtin.len_,t0,a0,Sem.run_bind,run_underlying hu,Result.andThen_ok,Sem.run_pure];rfl
 ·rename_i e b o len c hu
  obtain⟨a,cap,rfl⟩:=cR hx;simp only[Option.some.injEq]at hl;subst hl;simp only[Builtin.len_,t0,a0,Sem.run_bind,run_underlying hu,Result.andThen_ok,Sem.run_pure];rfl
 ·rename_i k e hu
  simp only[oE]at hx;subst hx;simp only[Option.some.injEq]at hl;subst hl;simp only[Builtin.len_,t0,a0,Sem.run_bind,run_underlying hu,Result.andThen_ok,Sem.run_pure];rfl
 ·rename_i k e r hu
  split at hl
  ·rename_i es clock hb
   simp only[Option.some.injEq]at hl;subst hl;simp only[nX]at hx;obtain⟨L,hL,rfl⟩:=hx;obtain⟨hN,dc,g1,g2⟩:=hr.get hb hL;have :es.length=dc.size:=by rw[g2.length];simp
   simp only[Builtin.len_,t0,a0,Sem.run_bind,run_underlying hu,Result.andThen_ok,getObj,Sem.run,g1,Sem.run_pure,this];rfl
  ·cases hl
 ·cases hl
theorem PB{ts:Array TypeId}{args:Array Value}{ty t:TypeId}{x:AV}{cx:Value}{n:Nat}(t0:ts[0]? =some t)(a0:args[0]? =some cx)
  (hx:VR φ x cx)(hl:O7 P t x=some n):(Builtin.cap_ ts ty args).run P w= .ok (.int .i64 (ak n)) w:=by
 unfold O7 at hl;split at hl
 ·rename_i k e _ hu
  simp only[Option.some.injEq]at hl;subst hl;simp only[Builtin.cap_,t0,a0,Sem.run_bind,run_underlying hu,Result.andThen_ok,Sem.run_pure];rfl
 ·rename_i e hu
  simp only[eX]at hx;subst hx;simp only[Option.some.injEq]at hl;subst hl;simp only[Builtin.cap_,t0,a0,Sem.run_bind,run_underlying hu,Result.andThen_ok,Sem.run_pure];rfl
 ·rename_i e b o len c hu
  simp only[dT]at hx;obtain⟨L,hL,rfl⟩:=hx;simp only[Option.some.injEq]at hl;subst hl;simp only[Builtin.cap_,t0,a0,Sem.run_bind,run_underlying hu,Result.andThen_ok,Sem.run_pure];rfl
 ·cases hl
theorem cP{r:Nat}{o:Obj}(hg:w.heap[r]? =some o)(hc:∀c t f,o≠.cells c t f):(getObj r).run P w= .ok o w:=by
 cases o<;>first|exact absurd rfl (hc _ _ _)|simp only[getObj,Sem.run,hg]
theorem ey{r:Nat}{o o':Obj}(hg:w.heap[r]? =some o)(hc:∀c t f,o≠.cells c t f):(setObj r o').run P w= .ok () (jg w r o'):=by
 cases o<;>first|exact absurd rfl (hc _ _ _)|(simp only[setObj,Sem.run,hg];rfl)
theorem JY{e:TypeId}(hc:P.cellsOf e=1)(count off n:Nat)(hn:off+n≤count):liesAt P P.depth e count off e n=true:=by
 have hd:P.depth=(2*(P.types.size+Made.depth)+1)+1:=rfl;rw[hd];simp only[liesAt,Bool.or_eq_true];left;rw[hd];simp[rowAt,hc,hn,sameLayout];exact .inl (Nat.mod_one off)
theorem qS:∀(l:List Int)(a:Addr)(acc:ByteArray),(∀j x,l[j]? =some x→w.cell? (a.add j)=some (.int .u8 x))→
  (loadBytes a acc l.length).run P w= .ok ⟨acc.data++(l.map fun n=>UInt8.ofNat n.toNat).toArray⟩ w
 |[],a,acc,_=>by simp[loadBytes]
 | x::l,a,acc,h=>by
  have h0:w.cell? a=some (.int .u8 x):=by
   have:=h 0 x rfl;simpa[Addr.add]using this
  have ih:=qS l (a.add 1) (acc.push x.toNat.toUInt8) (fun j y hy=>by
   have:=h (j+1) y (by simpa using hy);have e:(a.add 1).add j=a.add (j+1):=by
    unfold Addr.add;by_cases hj:j=0
    ·subst hj;simp
    ·simp[hj];omega
   rw[e];exact this)
  simp only[List.length_cons,loadBytes,Sem.run_bind,run_load,h0,Result.andThen];rw[ih];congr 1;apply ByteArray.ext;simp[ByteArray.push]
theorem Ae{x v:AV}{cx:Value}{ts:Array TypeId}{ty:TypeId}(hx:VR φ x cx)(hu:kT x=some v):Pu P φ w (Builtin.unsafeSliceData_ ts ty #[cx]) v:=by
 unfold kT at hu;split at hu
 ·simp only[eX]at hx;subst hx
  cases hu;exact⟨.pointer none,rfl,mG.2 rfl⟩
 ·rename_i b o len c
  split at hu
  ·rename_i c'
   split at hu
   ·cases hu
   ·rename_i h0
    cases hu;have h0:=aw h0;simp only[dT]at hx;obtain⟨L,hL,rfl⟩:=hx;obtain⟨k,rfl⟩:∃k,c'=k+1:=⟨c'-1,by omega⟩;exact⟨_,rfl,dS.2 ⟨L,hL,rfl⟩⟩
  ·rename_i i
   split at hu
   ·cases hu
   ·rename_i h0
    cases hu;have h0:=aw h0;simp only[dU]at hx;obtain⟨L,hL,rfl,hK⟩:=hx;obtain⟨k,hk⟩:∃k,L.K-i=k+1:=⟨L.K-i-1,by omega⟩;rw[hk];exact⟨_,rfl,dS.2 ⟨L,hL,rfl⟩⟩
 ·cases hu
theorem JZ{a:Addr}{n:Nat}{c:Array Value}{t:TypeId}{frz:Nat×Nat}(hb:w.heap[a.block]? =some (.cells c t frz)):∃Tn,(w.freeze a n).heap[a.block]? =some (.cells c t Tn):=by
 unfold World.freeze;split
 ·exact⟨_,hb⟩
 ·simp only[az,if_true,hb,aA]
  exact⟨_,rfl⟩
theorem Fq{a:Addr}{n k:Nat}(hk:k≠a.block):(w.freeze a n).heap[k]? =w.heap[k]? :=by
 unfold World.freeze;split
 ·rfl
 ·simp only[az];rw[if_neg (fun e=>hk e.symm)]
theorem Fs{a:Addr}{n:Nat}{B:Nat}(h:B≤a.block):Below B w (w.freeze a n):=by
 unfold World.freeze;split
 ·exact Below.refl B w
 ·exact⟨rfl,rfl,rfl,by simp,fun k hk=>by
   simp only[az];rw[if_neg (by omega)]⟩
theorem Af(hr:HR N φ h w){p v:AV}{cp:Value}{n:Nat}{ts:Array TypeId}{pt ty:TypeId}(t0:ts[0]? =some pt)(hp:VR φ p cp)(hu:iN P pt p n h= .val v h'):
  qD P N φ w (Builtin.unsafeString_ ts ty #[cp,.int .i64 (ak n)]) v h':=by
 unfold iN at hu;split at hu
 ·split at hu
  ·cases hu
   simp only[mG]at hp;subst hp;refine Pu.pV hr ⟨.string .empty,?_,by rw[fE];exact⟨_,rfl,rfl⟩⟩;have nY:Builtin.unsafeString_ ts ty #[.pointer none,.int .i64 (ak 0)]=
     (do
      let n ←asInt (.int .i64 0)
      let some pt:=ts[0]? |stuck "unsafe.String: no argument types"
      if n<0 then runtimePanic (.error "unsafe.String: len out of range")
      if n>IntKind.i64.max then unsupported (.unsafePointer "String: a length above the largest int")
      if n=0 then pure (.string .empty)
      else runtimePanic (.error "unsafe.String: ptr is nil and len is not zero")):=rfl
   rw[nY];have wN:IntKind.i64.max=9223372036854775807:=rfl;simp[asInt,asIntOf,wN,t0]
  ·cases hu
   simp only[dS]at hp;obtain⟨L,hL,rfl⟩:=hp;refine Pu.pV hr ⟨.string .empty,?_,by rw[fE];exact⟨_,rfl,rfl⟩⟩;rename_i b o;have nY:Builtin.unsafeString_ ts ty #[.pointer (some ⟨L.B,L.base+o,none⟩),.int .i64 (ak 0)]=
     (do
      let n ←asInt (.int .i64 0)
      let some pt:=ts[0]? |stuck "unsafe.String: no argument types"
      if n<0 then runtimePanic (.error "unsafe.String: len out of range")
      if n>IntKind.i64.max then unsupported (.unsafePointer "String: a length above the largest int")
      if n=0 then pure (.string .empty)
      else if ←variablesAt ⟨L.B,L.base+o,none⟩ (←elemOf pt) n.toNat then do
       let s ←loadBytes ⟨L.B,L.base+o,none⟩ .empty n.toNat
       freeze ⟨L.B,L.base+o,none⟩ n.toNat
       pure (.string s)
      else unsupported (.unsafePointer "String: not so many bytes at ptr")):=rfl
   rw[nY];have wN:IntKind.i64.max=9223372036854775807:=rfl;simp[asInt,asIntOf,wN,t0]
  ·cases hu
 ·rename_i m
  split at hu
  ·rename_i b o e hpt
   simp only[dS]at hp;obtain⟨L,hL,rfl⟩:=hp;split at hu
   ·rename_i mm cs esz hb
    split at hu
    ·rename_i l hchk hl
     split at hu
     ·rename_i s hs
      cases hu;simp only[ao]at hchk;obtain⟨⟨⟨k1,k2⟩,k3⟩,k4⟩:=hchk;have k1:=an k1;have k2:=an k2;have k4:=lK k4;have Gt:=hr.get hb hL;have hor':=Gt;rw[ie]at hl;obtain⟨cl,q1,q2,q3,q4⟩:=lC Gt _ _ _ hl;obtain⟨ns,rfl,rfl⟩:=Ad hs q1;obtain⟨c,t,frz,g1,g2,g3,g4,g5⟩:=Gt;obtain⟨hN,_⟩:=g4 rfl;have ht:t=e:=by
       have:=g5.2.2.1 (by rw[k1];exact Nat.succ_ne_zero _);rw[k1]at this;exact Nat.succ.inj this
      subst ht;have hlen:ns.length=m+1:=by simpa using q2
      have hbd:L.base+o+(m+1)≤c.size:=by
       have:=q3 m;have hm:m<ns.length:=by omega
       have:=this (.int .u8 ns[m]) (by rw[List.getElem?_map,List.getElem?_eq_getElem hm];rfl);rw[uG g1]at this;have:=(Array.getElem?_eq_some_iff.1 this).1;omega
      have PC:=JY (P:=P) k2 (c.size/P.cellsOf t) (L.base+o) (m+1) (by rw[k2];simpa using hbd);have CH:w.shape? L.B=some (t,c.size):=by simp[World.shape?,g1]
      have SU:=qS (P:=P) (w:=w) ns ⟨L.B,L.base+o,none⟩ .empty (fun j x hj=>by
       have:=q3 j (.int .u8 x) (by rw[List.getElem?_map,hj];rfl);by_cases h0:j=0
       ·subst h0;simpa[Addr.add]using this
       ·simpa[Addr.add,h0]using this)
      rw[hlen]at SU;have nY:Builtin.unsafeString_ ts ty #[.pointer (some ⟨L.B,L.base+o,none⟩),.int .i64 (ak (m+1))]=
        (do
         let n ←asInt (.int .i64 (ak (m+1)))
         let some pt:=ts[0]? |stuck "unsafe.String: no argument types"
         if n<0 then runtimePanic (.error "unsafe.String: len out of range")
         if n>IntKind.i64.max then unsupported (.unsafePointer "String: a length above the largest int")
         if n=0 then pure (.string .empty)
         else if ←variablesAt ⟨L.B,L.base+o,none⟩ (←elemOf pt) n.toNat then do
          let s ←loadBytes ⟨L.B,L.base+o,none⟩ .empty n.toNat
          freeze ⟨L.B,L.base+o,none⟩ n.toNat
          pure (.string s)
         else unsupported (.unsafePointer "String: not so many bytes at ptr")):=rfl
      obtain⟨Tn,hfz⟩:=JZ (w:=w) (a:=⟨L.B,L.base+o,none⟩) (n:=m+1) g1;refine⟨φ,.string ⟨(ns.map fun n=>UInt8.ofNat n.toNat).toArray⟩,w.freeze ⟨L.B,L.base+o,none⟩ (m+1),?_,?_,φ.le_refl,?_,Fs hN⟩
      ·rw[nY]
       have wN:IntKind.i64.max=9223372036854775807:=rfl;have h1:¬(ak (m+1))<0:=by show ¬((m+1:Nat):Int)<0;omega
       have h2:¬(9223372036854775807:Int)<ak (m+1):=by show ¬(9223372036854775807:Int)<((m+1:Nat):Int);omega
       have h3:¬(ak (m+1))=0:=by show ¬((m+1:Nat):Int)=0;omega
       have h4:(ak (m+1)).toNat=m+1:=rfl;simp only[asInt,asIntOf,Sem.run_bind,Sem.run_pure,Result.andThen_ok,t0,h1,h2,h3,wN,if_false,gt_iff_lt,variablesAt,elemOf,run_underlying hpt,run_shape,h4];simp only[run_program,Result.andThen_ok,CH,Sem.run_pure,PC];simp only[Sem.run_bind,SU,Result.andThen_ok,run_freeze,Sem.run_pure,if_true];simp
      ·rw[fE];exact⟨_,rfl,by simp[bytesOf]⟩
      ·exact hr.set hb hL _ (fun k hk=>Fq hk) ⟨c,t,Tn,hfz,g2,g3,fun e=>(by cases e),g5.1,g5.2.1,g5.2.2.1,fun _ e=>(by cases e)⟩
     ·cases hu
    ·cases hu
   ·cases hu
  ·cases hu
theorem Ag{a:Addr}{c:Array Value}{t:TypeId}{frz:Nat×Nat}(hb:w.heap[a.block]? =some (.cells c t frz)):(Conv.seenAt a).run P w= .ok a w:=by
 have CH:w.shape? a.block=some (t,c.size):=by simp[World.shape?,hb]
 simp only[Conv.seenAt,viewAt,Sem.run_bind,run_shape,CH,Result.andThen_ok,Option.isSome_some,if_true,Sem.run_pure]
theorem CI(hr:HR N φ h w){src dst t:TypeId}{x v:AV}{cx:Value}(hs:P.underlying src=some (.pointer t))(hd:P.underlying dst=some .unsafePointer)(hx:VR φ x cx)(hu:iz P t x h= .val v h'):
  qD P N φ w (convert src dst cx) v h':=by
 unfold iz at hu;split at hu
 ·cases hu
  simp only[mG]at hx;subst hx;refine Pu.pV hr ⟨.pointer none,?_,mG.2 rfl⟩;simp only[convert,Sem.run_bind,run_underlying hs,run_underlying hd,Result.andThen_ok,Conv.unsafePointer,Sem.run_pure]
 ·rename_i b o
  simp only[dS]at hx;obtain⟨L,hL,rfl⟩:=hx;split at hu
  ·rename_i n cs esz ro hb
   split at hu
   ·rename_i hc
    cases hu;simp only[ao]at hc;obtain⟨⟨c1,c2⟩,c3⟩:=hc;have c1:o<n:=al c1;have c3:=al c3;have c3':P.cellsOf t≠0:=by omega
    obtain⟨c,ty,frz,g1,g2,g3,g4,g5⟩:=hr.get hb hL;refine Pu.pV hr ⟨.pointer (some ⟨L.B,L.base+o,none⟩),?_,dS.2 ⟨L,hL,rfl⟩⟩;have CH:w.shape? L.B=some (ty,c.size):=by simp[World.shape?,g1]
    have PD:=Ag (P:=P) (w:=w) (a:=⟨L.B,L.base+o,none⟩) g1;have fW:¬(c.size≤L.base+o):=by omega
    simp only[convert,Sem.run_bind,run_underlying hs,run_underlying hd,Result.andThen_ok,Conv.unsafePointer,PD,cellsIn,run_shape,CH,Sem.run_pure,cA t c2];simp[fW,c3']
   ·cases hu
  ·cases hu
 ·cases hu
theorem yZ(hr:HR N φ h w){src dst u:TypeId}{x v:AV}{cx:Value}(hs:P.underlying src=some .unsafePointer)(hd:P.underlying dst=some (.pointer u))(hx:VR φ x cx)(hu:fA P u x h= .val v h'):
  qD P N φ w (convert src dst cx) v h':=by
 unfold fA at hu;split at hu
 ·cases hu
  simp only[mG]at hx;subst hx;refine Pu.pV hr ⟨.pointer none,?_,mG.2 rfl⟩;simp only[convert,Sem.run_bind,run_underlying hs,run_underlying hd,Result.andThen_ok,Conv.unsafePointer,Sem.run_pure]
 ·rename_i b
  simp only[dS]at hx;obtain⟨L,hL,rfl⟩:=hx;split at hu
  ·rename_i n cs ty ro hb
   split at hu
   ·rename_i hc
    cases hu;simp only[ao]at hc;obtain⟨⟨⟨c1,c2⟩,c3⟩,c4⟩:=hc;have c1:=an c1;have c3:=al c3;have c4:=al c4;obtain⟨c,t,frz,g1,g2,g3,g4,g5⟩:=hr.get hb hL;have eg:=g5.2.1 rfl;have ht:t=u:=by
     have:=g5.2.2.1 (by rw[c1];exact Nat.succ_ne_zero _);rw[c1]at this;exact Nat.succ.inj this
    subst ht;refine Pu.pV hr ⟨.pointer (some ⟨L.B,L.base+0,none⟩),?_,dS.2 ⟨L,hL,rfl⟩⟩;have CH:w.shape? L.B=some (t,c.size):=by simp[World.shape?,g1]
    have PD:=Ag (P:=P) (w:=w) (a:=⟨L.B,L.base+0,none⟩) g1;have hcnt:1≤c.size/P.cellsOf t:=by
     rw[Nat.le_div_iff_mul_le (by omega)];omega
    have PC:liesAt P P.depth t (c.size/P.cellsOf t) (L.base+0) t 1=true:=by
     have hdp:P.depth=(2*(P.types.size+Made.depth)+1)+1:=rfl;rw[hdp];simp only[liesAt,Bool.or_eq_true];left;rw[hdp,eg];have c3':P.cellsOf t≠0:=by omega
     simp[rowAt,c3',sameLayout,hcnt]
    have c3':P.cellsOf t≠0:=by omega
    simp only[convert,Sem.run_bind,run_underlying hs,run_underlying hd,Result.andThen_ok,Conv.unsafePointer,PD,cA t c2,variablesAt,run_program,run_shape,CH,Sem.run_pure,PC];simp[c3']
   ·cases hu
  ·cases hu
 ·cases hu
end
end Go.AX
namespace Go.AX
open Go.RowKit
section
variable{P:Program}{N:NN}{φ:cX}{h h':H}{w:World}
theorem te{kv:TypeId→AV→Bool}{D:Nat}{b:Bool}{cs:List AV}{zn:Array Value}(gI:bH (VR φ) cs zn.toList)
  (ih:∀(t:TypeId)(k:AV)(ck:Value),kv t k=true→VR φ k ck→(Instr.checkKey b D t ck).run P w= .ok () w):∀(fs:List Field),r_ P kv cs fs=true→
  (forIn fs PUnit.unit (fun f _=>do
   if f.name≠ "_" then Instr.checkKey b D f.type (←part f.type zn f.offset)
   pure (ForInStep.yield PUnit.unit)):Sem PUnit).run P w= .ok PUnit.unit w
 |[],_=>rfl
 | f::fs,h=>by
  simp only[r_]at h;split at h
  ·rename_i v hn eH hp
   split at h
   ·rename_i hk
    have ihf:=te gI ih fs h;obtain⟨cv,h1,h2⟩:=kV (w:=w) eH gI hp;have VE:f.name≠ "_":=by simpa using hn
    simp only[List.forIn_cons,ne_eq,VE,not_false_eq_true,if_true,Sem.run_bind,h1,ih _ _ _ hk h2,Result.andThen_ok,Sem.run_pure];exact ihf
   ·cases h
  ·cases h
theorem oJ:∀(d D:Nat),d≤D→∀(b:Bool)(t:TypeId)(k:AV)(ck:Value),yU P d t k=true→VR φ k ck→(Instr.checkKey b D t ck).run P w= .ok () w
 |0,_,_,_,_,_,_,h,_=>by cases h
 |d+1,0,hD,_,_,_,_,_,_=>by omega
 | d+1,D+1,hD,b,t,k,ck,h,hk=>by
  have ih:=oJ d D (by omega) b;simp only[yU]at h;split at h
  ·rename_i hu;simp only[db]at hk;subst hk;simp only[Instr.checkKey,Sem.run_bind,run_underlying hu,Result.andThen_ok,Sem.run_pure]
  ·rename_i hu;simp only[fE]at hk;obtain⟨s,rfl,_⟩:=hk;simp only[Instr.checkKey,Sem.run_bind,run_underlying hu,Result.andThen_ok,Sem.run_pure]
  ·rename_i hu;simp only[fa]at hk;subst hk;simp only[Instr.checkKey,Sem.run_bind,run_underlying hu,Result.andThen_ok,Sem.run_pure]
  ·rename_i fs cs hu
   simp only[mO]at hk;obtain⟨a,rfl,ha⟩:=hk;have:=te ha (fun t k ck=>ih t k ck) fs.toList h;simp only[Instr.checkKey,Sem.run_bind,run_underlying hu,Result.andThen_ok];rw[←Array.forIn_toList,this];rfl
  ·cases h
def Ah(φ:cX):Option (Nat×AV)→Option (Nat×Value)→Prop
 |none,r=>r=none
 |some (i,v),r=>∃cv,r=some (i,cv)∧VR φ v cv
theorem qT{t:TypeId}{k:AV}{ck:Value}(hk:VR φ k ck):∀(es:List (AV×AV×Nat))(dc:List MapEntry)(i:Nat)(r:Option (Nat×AV)),
  nE P t k es i=some r→bH (nA φ) es dc→∃cr,(Instr.findAsking t ck dc i).run P w= .ok cr w∧Ah φ r cr
 |[],dc,i,r,h,he=>by
  rw[bH.ct]at he;subst he;simp only[nE,Option.some.injEq]at h;subst h;exact⟨none,rfl,rfl⟩
 | e::es,dc,i,r,h,he=>by
  obtain⟨ce,cr,rfl,⟨h1,h2,_⟩,hr⟩:=bH.bM.1 he;simp only[nE]at h;split at h
  ·rename_i hq
   cases h;have :(Op.equal t ck ce.key).run P w= .ok true w:=uM 4 10000 (by omega) t k e.1 ck ce.key true hq hk h1;refine⟨some (i,ce.val),?_,ce.val,rfl,h2⟩;simp only[Instr.findAsking,Sem.run_bind,this,Result.andThen_ok,if_true,Sem.run_pure]
  ·rename_i hq
   have :(Op.equal t ck ce.key).run P w= .ok false w:=uM 4 10000 (by omega) t k e.1 ck ce.key false hq hk h1;obtain⟨r',h3,h4⟩:=qT hk es cr (i+1) r h hr;refine⟨r',?_,h4⟩;simp only[Instr.findAsking,Sem.run_bind,this,Result.andThen_ok,aq,if_false,h3]
  ·cases h
theorem xX{t:TypeId}{d:TypeDesc}(hu:P.underlying t=some d){k e:AV}{ck ce:Value}{q r:Bool}(hk:VR φ k ck)(he:VR φ e ce)(ha:sM P 4 t k e=some q)
  (hs:Instr.sameNow d ck ce=some r):r=q:=by
 unfold Instr.sameNow at hs;split at hs
 ·have:=pj hk;subst this
  have:=pj he;subst this;split at hs
  ·rename_i e;subst e
   simp only[Option.some.injEq]at hs;subst hs;simp only[sM,hu]at ha;split at ha
   ·simp only[Option.some.injEq]at ha;exact ha
   ·cases ha
  ·cases hs
 ·have:=lD hk;subst this
  have:=lD he;subst this;simp only[Option.some.injEq]at hs;subst hs;simp only[sM,hu,Option.some.injEq]at ha;subst ha;rw[mU,gf,gf,jo,beq_toListBytes]
 ·simp only[Option.some.injEq]at hs;subst hs
  have CC:∃b,k= .bool b:=by
   cases k with
   |slice b o len c=>obtain⟨a,c,e⟩:=cR hk;cases e
   |bool b=>exact⟨b,rfl⟩
   |_=>simp at hk
  have he':∃b,e= .bool b:=by
   cases e with
   |slice b o len c=>obtain⟨a,c,e⟩:=cR he;cases e
   |bool b=>exact⟨b,rfl⟩
   |_=>simp at he
  obtain⟨x,rfl⟩:=CC;obtain⟨y,rfl⟩:=he';simp only[fa,Value.bool.injEq]at hk he;subst hk;subst he;simp only[sM,hu,Option.some.injEq]at ha;exact ha
 ·cases hs
theorem xY{t:TypeId}{d:TypeDesc}(hu:P.underlying t=some d){k:AV}{ck:Value}(hk:VR φ k ck):∀(es:List (AV×AV×Nat))(dc:List MapEntry)(i:Nat)(r:Option (Nat×AV))(cr:Option (Nat×Value)),
  nE P t k es i=some r→bH (nA φ) es dc→Instr.findNow d ck dc i=some cr→Ah φ r cr
 |[],dc,i,r,cr,h,he,hn=>by
  rw[bH.ct]at he;subst he;simp only[nE,Option.some.injEq]at h;subst h;simp only[Instr.findNow,Option.some.injEq]at hn;subst hn;rfl
 | e::es,dc,i,r,cr,h,he,hn=>by
  obtain⟨ce,VI,rfl,⟨h1,h2,_⟩,hr⟩:=bH.bM.1 he;simp only[nE]at h;simp only[Instr.findNow]at hn;split at h
  ·rename_i hq
   cases h;split at hn
   ·simp only[Option.some.injEq]at hn;subst hn;exact⟨_,rfl,h2⟩
   ·rename_i hs
    have:=xX hu hk h1 hq hs;cases this
   ·cases hn
  ·rename_i hq
   split at hn
   ·rename_i hs
    have:=xX hu hk h1 hq hs;cases this
   ·exact xY hu hk es VI (i+1) r cr h hr hn
   ·cases hn
  ·cases h
theorem hU{t:TypeId}{k:AV}{ck:Value}(ht:eQ P t=true)(hk:VR φ k ck){es:List (AV×AV×Nat)}{dc:List MapEntry}{r:Option (Nat×AV)}
  (h:nE P t k es 0=some r)(he:bH (nA φ) es dc):∃cr,(Instr.findKey t ck dc).run P w= .ok cr w∧Ah φ r cr:=by
 unfold eQ at ht;cases hu:P.underlying t with
 |none=>rw[hu]at ht;cases ht
 | some d=>
  cases hn:Instr.findNow d ck dc 0 with
  |some cr=>exact⟨cr,by simp only[Instr.findKey,Sem.run_bind,run_underlying hu,Result.andThen_ok,hn,Sem.run_pure],xY hu hk es dc 0 r cr h he hn⟩
  |none=>
   obtain⟨cr,h1,h2⟩:=qT (w:=w) hk es dc 0 r h he;exact⟨cr,by simp only[Instr.findKey,Sem.run_bind,run_underlying hu,Result.andThen_ok,hn,h1],h2⟩
theorem zp{d:Nat}{t:TypeId}{k:AV}(h:yU P d t k=true):eQ P t=true:=by
 cases d with
 |zero=>cases h
 |succ d=>
  unfold eQ;cases hu:P.underlying t with
  |none=>simp only[yU,hu]at h;cases h
  |some _=>rfl
theorem G3(hr:HR N φ h w){t:TypeId}{x k v:AV}{cx ck:Value}{ok:Bool}(hx:VR φ x cx)(hk:VR φ k ck)(hl:lA P t x k ok h=some v):
  Pu P φ w (Instr.lookup t cx ck ok) v:=by
 unfold lA at hl;split at hl
 ·rename_i kt elem hu
  split at hl
  ·cases hl
  ·rename_i sQ
   simp only at hl;split at hl
   ·cases hl
   ·rename_i es VJ
    have hces:∃dc:Array MapEntry,(cx= .map none∧dc= #[]∨∃r clock,cx= .map (some r)∧w.heap[r]? =some (.map dc clock))∧bH (nA φ) es dc.toList:=by
     split at VJ
     ·simp only[oE]at hx;subst hx
      cases VJ;exact⟨#[],.inl ⟨rfl,rfl⟩,trivial⟩
     ·rename_i r
      simp only[nX]at hx;obtain⟨L,hL,rfl⟩:=hx;split at VJ
      ·rename_i es' clock hb
       cases VJ;obtain⟨hN,dc,g1,g2⟩:=hr.get hb hL;exact⟨dc,.inr ⟨_,_,rfl,g1⟩,g2⟩
      ·cases VJ
     ·cases VJ
    obtain⟨dc,c1,c2⟩:=hces;have xZ:=oJ (φ:=φ) (P:=P) (w:=w) 4 10000 (by omega) dc.isEmpty kt k ck sQ hk;have eH:=zp sQ;split at hl
    ·cases hl
    ·rename_i i v' hf
     cases hl;obtain⟨cr,f1,cv,rfl,f2⟩:=hU (w:=w) eH hk hf c2;refine⟨if ok then .tuple #[cv,.bool true]else cv,?_,?_⟩
     ·rcases c1 with⟨rfl,rfl⟩|⟨r,clock,rfl,hg⟩
      ·simp only[Instr.lookup,Sem.run_bind,run_underlying hu,Result.andThen_ok,xZ,f1,Sem.run_pure]
      ·simp only[Instr.lookup,Sem.run_bind,run_underlying hu,Result.andThen_ok,cP hg (fun _ _ _=>by simp),xZ,f1,Sem.run_pure]
     ·cases ok
      ·exact f2
      ·simp[bH,f2]
    ·rename_i hf
     obtain⟨cr,f1,f2⟩:=hU (w:=w) eH hk hf c2;simp only[Ah]at f2;subst f2;split at hl
     ·rename_i z hz
      cases hl;obtain⟨cz,z1,z2,_⟩:=fQ (w:=w) (φ:=φ) hz;refine⟨if ok then .tuple #[cz,.bool false]else cz,?_,?_⟩
      ·rcases c1 with⟨rfl,rfl⟩|⟨r,clock,rfl,hg⟩
       ·simp only[Instr.lookup,Sem.run_bind,run_underlying hu,Result.andThen_ok,xZ,f1,z1,Sem.run_pure]
       ·simp only[Instr.lookup,Sem.run_bind,run_underlying hu,Result.andThen_ok,cP hg (fun _ _ _=>by simp),xZ,f1,z1,Sem.run_pure]
      ·cases ok
       ·exact z2
       ·simp[bH,z2]
     ·cases hl
 ·cases hl
theorem G4{a b:AV}(h:Gx a b=true):a=b∧∀(c d:Value),VR φ a c→VR φ b d→∀n,Instr.sameBits n c d=true:=by
 unfold Gx at h;split at h
 ·have e:=eq_of_beq h
  subst e;refine⟨rfl,fun c d hc hd n=>?_⟩;simp only[fa]at hc hd;subst hc;subst hd;cases n<;>simp[Instr.sameBits]
 ·simp only[ao]at h
  have e1:=JK h.1;have e2:=eq_of_beq h.2;subst e1;subst e2;refine⟨rfl,fun c d hc hd n=>?_⟩;simp only[db]at hc hd;subst hc;subst hd;cases n<;>simp[Instr.sameBits]
 ·rw[mU]at h
  have e:=eq_of_beq h;subst e;refine⟨rfl,fun c d hc hd n=>?_⟩;simp only[fE]at hc hd;obtain⟨s,rfl,hs⟩:=hc;obtain⟨u,rfl,hu⟩:=hd;have :(s==u)=true:=by
   rw[beq_toListBytes,←jo,←gf,←gf,hs,hu];simp
  cases n<;>simpa[Instr.sameBits]using this
 ·cases h
theorem lL:∀{a b:List AV},kH a b=true→a=b∧∀(c d:List Value),bH (VR φ) a c→bH (VR φ) b d→∀n,c.length=d.length∧((c.zip d).all fun(x,y)=>Instr.sameBits n x y)=true
 |[],[],_=>⟨rfl,fun c d hc hd n=>by rw[bH.ct]at hc hd;subst hc;subst hd;exact⟨rfl,rfl⟩⟩
 |a::l,b::r,h=>by
  simp only[kH,ao]at h;obtain⟨e1,f1⟩:=G4 (φ:=φ) h.1;obtain⟨e2,f2⟩:=lL h.2;subst e1;subst e2;refine⟨rfl,fun c d hc hd n=>?_⟩;obtain⟨c1,cr,rfl,wC,hcr⟩:=bH.bM.1 hc;obtain⟨d1,dr,rfl,hd1,jS⟩:=bH.bM.1 hd;obtain⟨g1,g2⟩:=f2 cr dr hcr jS n;exact⟨by simp[g1],by simp only[List.zip_cons_cons,List.all_cons,ao];exact⟨f1 c1 d1 wC hd1 n,g2⟩⟩
 |[],_::_,h=>by simp[kH]at h
 |_::_,[],h=>by simp[kH]at h
theorem G5{a b:AV}{c d:Value}(h:Gy a b=true)(hc:VR φ a c)(hd:VR φ b d):a=b∧Instr.sameBits 10000 c d=true:=by
 unfold Gy at h;split at h
 ·obtain⟨e,f⟩:=lL (φ:=φ) h
  subst e;simp only[mO]at hc hd;obtain⟨x,rfl,hx⟩:=hc;obtain⟨y,rfl,hy⟩:=hd;obtain⟨g1,g2⟩:=f _ _ hx hy 9999;refine⟨rfl,?_⟩;have g1':x.size=y.size:=by simpa using g1
  simp only[Instr.sameBits,g1',beq_self_eq_true,Bool.true_and];exact g2
 ·obtain⟨e,f⟩:=G4 (φ:=φ) h
  exact⟨e,f _ _ hc hd _⟩
theorem Ai{v:AV}{cv:Value}(hv:VR φ v cv){key:Value}:∀(es:List (AV×AV×Nat))(dc:List MapEntry)(i:Nat),bH (nA φ) es dc→
  (∀e,es[i]? =some e→VR φ e.1 key)→bH (nA φ) (jF v es i) (dc.modify i fun e=>{e with key,val:=cv})
 |[],dc,i,he,_=>by rw[bH.ct]at he;subst he;simp[jF]
 |e::es,dc,0,he,hk=>by
  obtain⟨ce,cr,rfl,⟨h1,h2,h3⟩,hr⟩:=bH.bM.1 he;exact⟨⟨hk e rfl,hv,h3⟩,hr⟩
 |e::es,dc,i+1,he,hk=>by
  obtain⟨ce,cr,rfl,h1,hr⟩:=bH.bM.1 he;exact⟨h1,Ai hv es cr i hr (fun x hx=>hk x (by simpa using hx))⟩
theorem jI(hr:HR N φ h w){b:Nat}{es:List (AV×AV×Nat)}{clock:Nat}{L:Loc}(hb:h.t.get b=some (.map es clock))(hL:φ b=some L)
  {es':List (AV×AV×Nat)}{ces':Array MapEntry}(J0:Nat)(he:bH (nA φ) es' ces'.toList):
  HR N φ {h with t:=h.t.set b (some (.map es' J0))} (jg w L.B (.map ces' J0))∧Below N w (jg w L.B (.map ces' J0)):=by
 have Gt:=hr.get hb hL;have fW:=Gt.lt;obtain⟨hN,dc,g1,g2⟩:=Gt;exact⟨hr.set hb hL _ (fun k hk=>by rw[eY fW,if_neg hk]) ⟨hN,ces',by rw[eY fW,if_pos rfl],he⟩,fF _ hN⟩
theorem x_(hr:HR N φ h w){t:TypeId}{x k v:AV}{cx ck cv:Value}(hx:VR φ x cx)(hk:VR φ k ck)(hv:VR φ v cv)(hu:lB P t x k v h=some h'):
  UOk P N φ w (Instr.mapUpdate t cx ck cv) h':=by
 unfold lB at hu;split at hu
 ·rename_i kt elem r wO
  simp only[nX]at hx;obtain⟨L,hL,rfl⟩:=hx;split at hu
  ·rename_i es clock sQ hb
   obtain⟨hN,dc,g1,g2⟩:=hr.get hb hL;have xZ:=oJ (φ:=φ) (P:=P) (w:=w) 4 10000 (by omega) false kt k ck sQ hk;have eH:=zp sQ;split at hu
   ·cases hu
   ·rename_i i v' hf
    split at hu
    ·rename_i hs
     cases hu;obtain⟨cr,f1,cv',rfl,f2⟩:=hU (w:=w) eH hk hf g2;unfold sameAt at hs;split at hs
     ·rename_i e he
      obtain⟨ce,ta,e1,e2,e3⟩:=g2.get he;rw[aE]at ta;obtain⟨q1,q2⟩:=G5 hs e1 hk;have hm:=jI hr hb hL (es':=jF v es i) (ces':=dc.modify i fun e=>{e with key:=ck,val:=cv}) clock
       (by rw[aG];exact Ai hv es dc.toList i g2 (fun e' he'=>by rw[he]at he';cases he';rw[q1];exact hk))
      refine⟨φ,_,?_,φ.le_refl,hm.1,hm.2⟩;have dH:∀c t f,(Obj.map dc clock)≠.cells c t f:=fun _ _ _=>by simp
      simp only[Instr.mapUpdate,Sem.run_bind,run_underlying wO,Result.andThen_ok,cP g1 dH,xZ,f1,ta,aA,aL,Instr.keyThatStays,q2,if_true,Sem.run_pure,ey g1 dH]
     ·cases hs
    ·cases hu
   ·rename_i hf
    cases hu;obtain⟨cr,f1,f2⟩:=hU (w:=w) eH hk hf g2;simp only[Ah]at f2;subst f2;have hm:=jI hr hb hL (es':=es++[(k,v,clock)]) (ces':=dc.push {key:=ck,val:=cv,born:=clock}) (clock+1)
     (by rw[aJ];exact g2.append ⟨⟨hk,hv,rfl⟩,trivial⟩)
    refine⟨φ,_,?_,φ.le_refl,hm.1,hm.2⟩;have dH:∀c t f,(Obj.map dc clock)≠.cells c t f:=fun _ _ _=>by simp
    simp only[Instr.mapUpdate,Sem.run_bind,run_underlying wO,Result.andThen_ok,cP g1 dH,xZ,f1,ey g1 dH]
  ·cases hu
 ·cases hu
theorem uS:∀(es:List (AV×AV×Nat))(dc:List MapEntry)(i:Nat),bH (nA φ) es dc→bH (nA φ) (es.eraseIdx i) (dc.eraseIdx i)
 |[],dc,i,he=>by rw[bH.ct]at he;subst he;simp
 |e::es,dc,0,he=>by obtain⟨ce,cr,rfl,h1,hr⟩:=bH.bM.1 he;exact hr
 |e::es,dc,i+1,he=>by obtain⟨ce,cr,rfl,h1,hr⟩:=bH.bM.1 he;exact⟨h1,uS es cr i hr⟩
theorem J1(hr:HR N φ h w){ts:Array TypeId}{args:Array Value}{ty t:TypeId}{x:AV}{cx:Value}(t0:ts[0]? =some t)(a0:args[0]? =some cx)
  (hx:VR φ x cx)(hu:JE P t x h=some h'):
  qD P N φ w (Builtin.clear_ ts ty args) jd h':=by
 have CJ:∀ψ,VR ψ jd (.tuple #[]):=fun ψ=>mQ;unfold JE at hu;split at hu
 ·rename_i kt elem wO
  cases hu;simp only[oE]at hx;subst hx;refine⟨φ,.tuple #[],w,?_,CJ φ,φ.le_refl,hr,Below.refl _ _⟩;simp only[Builtin.clear_,t0,a0,Sem.run_bind,run_underlying wO,Result.andThen_ok,Sem.run_pure]
 ·rename_i kt elem r wO
  simp only[nX]at hx;obtain⟨L,hL,rfl⟩:=hx;split at hu
  ·rename_i es clock hb
   cases hu;obtain⟨hN,dc,g1,g2⟩:=hr.get hb hL;have dH:∀c t f,(Obj.map dc clock)≠.cells c t f:=fun _ _ _=>by simp
   have hm:=jI hr hb hL (es':=[]) (ces':= #[]) clock (by simp[bH]);refine⟨φ,.tuple #[],_,?_,CJ φ,φ.le_refl,hm.1,hm.2⟩;simp only[Builtin.clear_,t0,a0,Sem.run_bind,run_underlying wO,Result.andThen_ok,cP g1 dH,ey g1 dH,Sem.run_pure]
  ·cases hu
 ·rename_i e wO
  cases hu;simp only[eX]at hx;subst hx;refine⟨φ,.tuple #[],w,?_,CJ φ,φ.le_refl,hr,Below.refl _ _⟩;simp only[Builtin.clear_,t0,a0,Sem.run_bind,run_underlying wO,Result.andThen_ok,Sem.run_pure]
 ·rename_i e wO
  cases hu;simp only[iZ]at hx;obtain⟨a,c,rfl⟩:=hx;refine⟨φ,.tuple #[],w,?_,CJ φ,φ.le_refl,hr,Below.refl _ _⟩;simp only[Builtin.clear_,t0,a0,Sem.run_bind,run_underlying wO,Result.andThen_ok,Sem.run_pure]
 ·rename_i e b o len cap wO
  obtain⟨L,c,hL,rfl⟩:=pn hx;split at hu
  ·cases hu
   refine⟨φ,.tuple #[],w,?_,CJ φ,φ.le_refl,hr,Below.refl _ _⟩;simp only[Builtin.clear_,t0,a0,Sem.run_bind,run_underlying wO,Result.andThen_ok,Sem.run_pure]
  ·rename_i n
   split at hu
   ·rename_i z hz
    obtain⟨cz,z1,z2,z3,_⟩:=fQ (w:=w) (φ:=φ) hz;have JR:=kW z2.cells (n+1);obtain⟨L',w',tc,p1,p2,p3,_,_⟩:=uI (P:=P) hr hL hu JR;rw[hL]at tc;cases tc;refine⟨φ,.tuple #[],w',?_,CJ φ,φ.le_refl,p2,p3⟩;have PE:(storeCells ⟨L.B,L.base+o,none⟩ (Builtin.zeroCells cz.cells (n+1)).toList).run P w= .ok () w':=p1;simp only[Builtin.clear_,t0,a0,Sem.run_bind,run_underlying wO,Result.andThen_ok,z1,PE,Sem.run_pure]
   ·cases hu
 ·cases hu
theorem G6(hr:HR N φ h w){ts:Array TypeId}{args:Array Value}{ty t:TypeId}{x k:AV}{cx ck:Value}(t0:ts[0]? =some t)(a0:args[0]? =some cx)(a1:args[1]? =some ck)
  (hx:VR φ x cx)(hk:VR φ k ck)(hu:sf P t x k h=some h'):
  qD P N φ w (Builtin.delete_ ts ty args) jd h':=by
 have CJ:∀ψ,VR ψ jd (.tuple #[]):=fun ψ=>mQ;unfold sf at hu;split at hu
 ·rename_i kt elem wO
  simp only[oE]at hx;subst hx;split at hu
  ·rename_i sQ
   cases hu;have xZ:=oJ (φ:=φ) (P:=P) (w:=w) 4 10000 (by omega) true kt k ck sQ hk;refine⟨φ,.tuple #[],w,?_,CJ φ,φ.le_refl,hr,Below.refl _ _⟩;simp only[Builtin.delete_,t0,a0,a1,Sem.run_bind,run_underlying wO,Result.andThen_ok,xZ,Sem.run_pure]
  ·cases hu
 ·rename_i kt elem r wO
  simp only[nX]at hx;obtain⟨L,hL,rfl⟩:=hx;split at hu
  ·rename_i es clock sQ hb
   obtain⟨hN,dc,g1,g2⟩:=hr.get hb hL;have xZ:=oJ (φ:=φ) (P:=P) (w:=w) 4 10000 (by omega) dc.isEmpty kt k ck sQ hk;have eH:=zp sQ;have dH:∀c t f,(Obj.map dc clock)≠.cells c t f:=fun _ _ _=>by simp
   split at hu
   ·cases hu
   ·rename_i i v' hf
    cases hu;obtain⟨cr,f1,cv',rfl,f2⟩:=hU (w:=w) eH hk hf g2;have hm:=jI hr hb hL (es':=es.eraseIdx i) (ces':=dc.eraseIdxIfInBounds i) clock
     (by
      have :(dc.eraseIdxIfInBounds i).toList=dc.toList.eraseIdx i:=by
       rw[Array.eraseIdxIfInBounds];split
       ·simp
       ·rename_i q;rw[List.eraseIdx_of_length_le (by simpa using q)]
      rw[this];exact uS es dc.toList i g2)
    refine⟨φ,.tuple #[],_,?_,CJ φ,φ.le_refl,hm.1,hm.2⟩;simp only[Builtin.delete_,t0,a0,a1,Sem.run_bind,run_underlying wO,Result.andThen_ok,cP g1 dH,xZ,f1,ey g1 dH,Sem.run_pure]
   ·rename_i hf
    cases hu;obtain⟨cr,f1,f2⟩:=hU (w:=w) eH hk hf g2;simp only[Ah]at f2;subst f2;refine⟨φ,.tuple #[],w,?_,CJ φ,φ.le_refl,hr,Below.refl _ _⟩;simp only[Builtin.delete_,t0,a0,a1,Sem.run_bind,run_underlying wO,Result.andThen_ok,cP g1 dH,xZ,f1,ey g1 dH,Sem.run_pure,Dq g1]
  ·cases hu
 ·cases hu
theorem CK(hr:HR N φ h w){t:TypeId}{x k v:AV}{cx ck:Value}(hx:VR φ x cx)(hk:VR φ k ck)(hu:mE P t x k h= .val v h'):
  qD P N φ w (Instr.mapEntry t cx ck) v h':=by
 unfold mE at hu;split at hu
 ·rename_i kt elem r wO
  simp only[nX]at hx;obtain⟨L,hL,rfl⟩:=hx;split at hu
  ·rename_i es clock sQ hb
   obtain⟨hN,dc,g1,g2⟩:=hr.get hb hL;have xZ:=oJ (φ:=φ) (P:=P) (w:=w) 4 10000 (by omega) false kt k ck sQ hk;have eH:=zp sQ;have dH:∀c t f,(Obj.map dc clock)≠.cells c t f:=fun _ _ _=>by simp
   split at hu
   ·cases hu
   ·rename_i i v' hf
    split at hu
    ·rename_i e he hs
     simp only[R.val.injEq]at hu;obtain⟨rfl,rfl⟩:=hu;obtain⟨cr,f1,cv',rfl,f2⟩:=hU (w:=w) eH hk hf g2;unfold sameAt at hs;rw[he]at hs;obtain⟨ce,ta,e1,e2,e3⟩:=g2.get he;rw[aE]at ta;obtain⟨q1,q2⟩:=G5 hs e1 hk;have hent:bH (nA φ) es (dc.modify i fun e=>{e with key:=ck}).toList:=by
      rw[aG];apply bH.bG
      ·rw[List.length_modify];exact g2.length
      ·intro j a b ha hb
       obtain⟨c,hc,hR⟩:=g2.get ha;rw[List.getElem?_modify,hc]at hb;by_cases q:i=j
       ·subst q
        simp only[if_true,aK,aA,Option.some.injEq]at hb;subst hb;rw[he]at ha;cases ha;exact⟨by rw[q1];exact hk,hR.2⟩
       ·simp only[q,if_false,aK,aA,Option.some.injEq]at hb;subst hb;exact hR
     have hm:=jI hr hb hL (es':=es) (ces':=dc.modify i fun e=>{e with key:=ck}) clock hent;have uF:HR N φ h (jg w L.B (.map (dc.modify i fun e=>{e with key:=ck}) clock)):=by
      refine⟨fun b' o' mz hn=>?_,hr.inj,hr.lt,hr.res,hr.CD⟩;refine hm.1.obj b' o' ?_ hn;rw[T.bS];split
      ·rename_i q;subst q;rw[hb]at mz;exact mz
      ·exact mz
     refine⟨φ,.tuple #[cv',goInt ce.born],_,?_,?_,φ.le_refl,uF,hm.2⟩
     ·simp only[Instr.mapEntry,Sem.run_bind,run_underlying wO,Result.andThen_ok,cP g1 dH,xZ,f1,ta,aA,aL,Instr.keyThatStays,q2,if_true,Sem.run_pure,ey g1 dH]
     ·rw[mP];exact⟨_,rfl,f2,by rw[db,e3];rfl,trivial⟩
    ·cases hu
   ·rename_i hf
    split at hu
    ·rename_i z hz
     simp only[R.val.injEq]at hu;obtain⟨rfl,rfl⟩:=hu;obtain⟨cr,f1,f2⟩:=hU (w:=w) eH hk hf g2;simp only[Ah]at f2;subst f2;obtain⟨cz,z1,z2,_⟩:=fQ (w:=w) (φ:=φ) hz;have hm:=jI hr hb hL (es':=es++[(k,z,clock)]) (ces':=dc.push {key:=ck,val:=cz,born:=clock}) (clock+1)
      (by rw[aJ];exact g2.append ⟨⟨hk,z2,rfl⟩,trivial⟩)
     refine⟨φ,.tuple #[cz,goInt clock],_,?_,?_,φ.le_refl,hm.1,hm.2⟩
     ·simp only[Instr.mapEntry,Sem.run_bind,run_underlying wO,Result.andThen_ok,cP g1 dH,xZ,f1,z1,Sem.run_pure,ey g1 dH]
     ·rw[mP];exact⟨_,rfl,z2,by rw[db];rfl,trivial⟩
    ·cases hu
  ·cases hu
 ·cases hu
end
end Go.AX
