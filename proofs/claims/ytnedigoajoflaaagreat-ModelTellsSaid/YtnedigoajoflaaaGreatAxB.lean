/-
  AX: operations on values alone: what the evaluator reckons is what the machine reckons.
-/
import Derived.Test.YtnedigoajoflaaaGreatAxA
import Derived.Laws.StructEq
import Derived.Laws.Entries
import Derived.Laws.Strings
import Derived.Laws.BytesString
import Derived.Laws.Append
set_option linter.unusedSimpArgs false
set_option linter.unusedVariables false
set_option linter.unusedSectionVars false
set_option linter.defProp false
set_option maxHeartbeats 8000000
open Nat renaming le_of_ble_eq_true→ak,eq_of_beq_eq_true→al,ne_of_beq_eq_false→ao,le_refl→aA,add_assoc→aD
open Array renaming toArray_toList→an,getElem?_toList→aq,toList_extract→aK
open Bool renaming and_eq_true→au,false_eq_true→az,or_eq_false_iff→aG,eq_iff_iff→aH
open Int renaming ofNat→aw,toNat_natCast→aE,ofNat_eq_natCast→aL
open List renaming getElem?_append_right→aB,getElem?_append_left→aC,length_cons→aF,map_cons→aM,cons_beq_cons→aN
open Option renaming map_some→aJ
namespace Go.AX
theorem cT{α:Type}(n:Int)(k:Int→α):fU n k=k n:=by
 cases n with
 |ofNat m=>cases m<;>rfl
 |negSucc m=>cases m<;>rfl
theorem Pj(m c d:Int):(if m<c then m else m-d)=if m≥c then m-d else m:=by
 by_cases h:m<c
 ·rw[if_pos h,if_neg (by omega)]
 ·rw[if_neg h,if_pos (by omega)]
theorem oG(k:IntKind)(n:Int):bV k n=k.wrap n:=by
 cases k<;>simp only[bV,Pj]<;>simp[IntKind.wrap,IntKind.signed,IntKind.bits]<;>rfl
theorem Lr(k:IntKind):Nm k=2^k.bits:=by cases k<;>rfl
theorem Pk(k:IntKind)(n:Int):low k n=(BitVec.ofInt k.bits n).toNat:=by
 rw[low,Lr,BitVec.toNat_ofInt];rfl
theorem JK{a b:IntKind}(h:IntKind.Tf a b=true):a=b:=by
 cases a<;>cases b<;>first|rfl|(simp[IntKind.Tf]at h)
theorem mU:∀a b:List Nat,cL a b=(a==b)
 |[],[]=>rfl
 |a::x,b::y=>by
  simp only[cL,aN];cases h:Nat.beq a b
  ·have:=ao h;simp[this]
  ·have:=al h;simp[this,mU x y]
 |[],_::_=>rfl
 |_::_,[]=>rfl
theorem gf(s:ByteArray):bytesOf s=s.toList.map UInt8.toNat:=by rw[ByteArray.toList_eq];rfl
theorem jo:∀a b:List UInt8,(a.map UInt8.toNat==b.map UInt8.toNat)=(a==b)
 |[],[]=>rfl
 |a::x,b::y=>by
  simp only[aM,aN,jo x y];congr 1;rw[aH];simp[UInt8.toNat_inj]
 |[],_::_=>rfl
 |_::_,[]=>rfl
theorem uJ:∀a b:List UInt8,cE (a.map UInt8.toNat) (b.map UInt8.toNat)=Op.bytesLess a b
 |[],[]=>rfl
 | a::x,b::y=>by
  simp only[aM,cE,Op.bytesLess,uJ x y];have e1:Nat.blt a.toNat b.toNat=decide (a<b):=by
   rw[aH];simp[Nat.blt,UInt8.lt_iff_toNat_lt];omega
  have e2:Nat.beq a.toNat b.toNat=(a==b):=by
   rw[aH];simp[UInt8.toNat_inj]
  rw[e1,e2];cases decide (a<b)<;>cases(a==b)<;>simp
 |[],_::_=>by simp[cE,Op.bytesLess]
 |_::_,[]=>by simp[cE,Op.bytesLess]
section
variable{P:Program}{φ:cX}{w:World}
theorem tJ{v:Value}{a:AV}(h:Fa v=some a):VR φ a v∧a.one=true:=by
 unfold Fa at h;split at h<;>simp only[Option.some.injEq,reduceCtorEq]at h<;>subst h<;>simp[AV.one]
theorem tK:∀{l:List Value}{a:List AV},zM l=some a→bH (VR φ) a l∧∀x,x∈a→x.one=true
 |[],a,h=>by simp only[zM,Option.some.injEq]at h;subst h;exact⟨trivial,by simp⟩
 | v::l,a,h=>by
  simp only[zM]at h;split at h
  ·cases h
  ·rename_i x hx
   split at h
   ·cases h
   ·rename_i y hy
    cases h;have h1:=tJ (φ:=φ) hx;have h2:=tK hy;refine⟨⟨h1.1,h2.1⟩,fun z hz=>?_⟩;rcases List.mem_cons.1 hz with rfl|hz
    ·exact h1.2
    ·exact h2.2 z hz
theorem Dr{v:Value}{a:AV}(h:jY v=some a):VR φ a v:=by
 unfold jY at h;split at h
 ·split at h
  ·rename_i cs l hl;cases h;rw[mO];exact⟨_,rfl,(tK hl).1⟩
  ·cases h
 ·split at h
  ·rename_i cs hl;cases h
   rw[jd,mP];exact⟨_,rfl,by rw[hl];trivial⟩
  ·cases h
 ·exact(tJ h).1
theorem GN{v:Value}{a:AV}(h:jY v=some a):(∀x,x∈a.cells→x.one=true)∨a=jd:=by
 unfold jY at h;split at h
 ·split at h
  ·rename_i cs l hl;cases h;exact .inl (tK (φ:=fun _=>none) hl).2
  ·cases h
 ·split at h
  ·cases h;exact .inr rfl
  ·cases h
 ·have h1:=(tJ (φ:=fun _=>none) h).2
  left;intro x hx;have :a.cells=[a]:=by cases a<;>simp_all[AV.one,AV.cells]
  rw[this]at hx;simp at hx;subst hx;exact h1
theorem GO{op:BinOp}{k:IntKind}{a b:Int}{t:TypeId}{v:AV}(h:qj op k a b=some v)(hs:op≠.shl∧op≠.shr):
    ∃cv,(binOp op t (.int k a) (.int k b)).run P w= .ok cv w∧VR φ v cv:=by
  cases op<;>simp only[qj,cT,oG,Option.some.injEq,reduceCtorEq]at h<;>first
    |(exact absurd rfl hs.1)
    |(exact absurd rfl hs.2)
    |(subst h;refine⟨_,?_,db.2 rfl⟩;simp[binOp,Op.intArith];done)
    |(subst h;refine⟨_,?_,fa.2 rfl⟩;simp[binOp,Op.intCmp];done)
    |(subst h;refine⟨_,?_,db.2 rfl⟩;simp only[Pk];simp[binOp,Op.intBits];done)
    | (cases hb:(b==0)
       · simp only[hb,cond_false,Option.some.injEq]at h
         subst h;refine⟨_,?_,db.2 rfl⟩;have mz:¬b=0:=by simpa using hb
         simp[binOp,Op.intDiv,mz]
       ·simp[hb]at h)
    | (subst h;refine⟨_,?_,db.2 rfl⟩
       simp only[Pk,Lr];simp[binOp,Op.intBits,BitVec.toNat_not])
theorem zW{op:BinOp}{k yk:IntKind}{a y:Int}{t:TypeId}{v:AV}(h:zL op k a y=some v)(hs:op= .shl∨op= .shr):
  ∃cv,(binOp op t (.int k a) (.int yk y)).run P w= .ok cv w∧VR φ v cv:=by
 unfold zL at h;split at h
 ·cases h
 ·rename_i y
  have hy:¬((y:Int)<0):=by omega
  rcases hs with rfl|rfl
  ·simp only[cT,oG,Option.some.injEq]at h;subst h
   refine⟨_,?_,db.2 rfl⟩;simp[binOp,Op.shift,hy]
  ·simp only[cT,Option.some.injEq]at h;subst h
   refine⟨_,?_,db.2 rfl⟩;simp[binOp,Op.shift,hy]
theorem Pm{op:BinOp}{a b:ByteArray}{t:TypeId}{v:AV}(h:E_ op (bytesOf a) (bytesOf b)=some v):
    ∃cv,(binOp op t (.string a) (.string b)).run P w= .ok cv w∧VR φ v cv:=by
  have eb:cL (bytesOf a) (bytesOf b)=(a.toList==b.toList):=by rw[mU,gf,gf,jo]
  have lb:cE (bytesOf a) (bytesOf b)=Op.bytesLess a.toList b.toList:=by rw[gf,gf,uJ]
  have ls:∀s:ByteArray,kQ (bytesOf s)=s.size:=by intro s;simp[bytesOf]
  cases op<;>simp only[E_,eb,lb,ls,Option.some.injEq,reduceCtorEq]at h<;>first
    |(subst h;refine⟨_,?_,fa.2 rfl⟩;simp[binOp,Op.stringOp];done)
    | (split at h
       · rename_i hle
         cases h;have hle':=ak hle;refine⟨.string (a++b),?_,fE.2 ⟨_,rfl,by simp[bytesOf]⟩⟩;have :¬(((a.size+b.size:Nat):Int)>IntKind.i64.max):=by rw[IntKind.max_i64];omega
         simp only[binOp,Op.stringOp,this,if_false];rfl
       ·cases h)
theorem uK(t:TypeId)(ht:eQ P t=true):(isAgg t).run P w= .ok (Fb P t) w:=by
 unfold eQ at ht;cases h:P.underlying t with
 |none=>rw[h]at ht;cases ht
 |some d=>
  simp only[isAgg,Sem.run_bind,run_underlying h,Result.andThen_ok,Fb,h];cases d<;>rfl
theorem Pn{t:TypeId}(ht:eQ P t=true):∃i,P.info? t=some i:=by
 unfold eQ Program.underlying at ht;cases h:P.info? t with
 |none=>rw[h]at ht;cases ht
 |some i=>exact⟨i,rfl⟩
theorem cA(t:TypeId)(ht:eQ P t=true):(sizeOf t).run P w= .ok (P.cellsOf t) w:=by
 obtain⟨i,hi⟩:=Pn ht;simp only[sizeOf,typeInfo,Sem.run_bind,run_program,Result.andThen_ok,hi,Sem.run_pure,Program.cellsOf];rfl
theorem kV{t:TypeId}{cs:List AV}{zn:Array Value}{off:Nat}{v:AV}(ht:eQ P t=true)(hc:bH (VR φ) cs zn.toList)(h:xP P t cs off=some v):
  ∃cv,(part t zn off).run P w= .ok cv w∧VR φ v cv:=by
 unfold xP at h;split at h
 ·rename_i ha
  cases h;refine⟨.agg (zn.extract off (off+P.cellsOf t)),?_,mO.2 ⟨_,rfl,?_⟩⟩
  ·simp only[part,Sem.run_bind,uK t ht,Result.andThen_ok,ha,if_true,cA t ht,Sem.run_pure]
  ·rw[aK]
   simpa[List.extract]using(hc.drop off).take (P.cellsOf t)
 ·rename_i ha
  obtain⟨cv,h1,h2⟩:=hc.get h;refine⟨cv,?_,h2⟩;have Ls:zn[off]? =some cv:=by simpa using h1
  simp only[part,Sem.run_bind,uK t ht,Result.andThen_ok,ha,if_false,az,Ls,Sem.run_pure]
theorem uL{d D:Nat}(hd:∀(t:TypeId)(x y:AV)(cx cy:Value)(r:Bool),sM P d t x y=some r→VR φ x cx→VR φ y cy→(Op.equalIn D t cx cy).run P w= .ok r w)
  (eH:∀(t:TypeId)(x y:AV)(r:Bool),sM P d t x y=some r→eQ P t=true){xs ys:List AV}{cxs cys:Array Value}(hx:bH (VR φ) xs cxs.toList)(hy:bH (VR φ) ys cys.toList):
  ∀(fs:List Field)(r:Bool),eqFields P (sM P d) xs ys fs=some r→(Op.eqFields D cxs cys fs).run P w= .ok r w
 |[],r,h=>by simp only[eqFields,Option.some.injEq]at h;subst h;rfl
 | f ::fs,r,h=>by
  simp only[eqFields]at h;split at h
  ·cases h
  ·rename_i hn
   have VE:f.name≠ "_":=by simpa using hn
   split at h
   ·rename_i x y px py
    split at h
    ·rename_i he
     have ht:=eH _ _ _ _ he;obtain⟨cx,r1,v1⟩:=kV (w:=w) ht hx px;obtain⟨cy,r2,v2⟩:=kV (w:=w) ht hy py;have:=hd _ _ _ _ _ _ he v1 v2;simp only[Op.eqFields,ne_eq,VE,not_false_eq_true,if_true,Sem.run_bind,r1,r2,this,Result.andThen_ok,Bool.not_true,az,if_false];exact uL hd eH hx hy fs r h
    ·rename_i he
     cases h;have ht:=eH _ _ _ _ he;obtain⟨cx,r1,v1⟩:=kV (w:=w) ht hx px;obtain⟨cy,r2,v2⟩:=kV (w:=w) ht hy py;have:=hd _ _ _ _ _ _ he v1 v2;simp only[Op.eqFields,ne_eq,VE,not_false_eq_true,if_true,Sem.run_bind,r1,r2,this,Result.andThen_ok,Bool.not_false];rfl
    ·cases h
   ·cases h
theorem Xb{d:Nat}{t:TypeId}{x y:AV}{r:Bool}(h:sM P d t x y=some r):eQ P t=true:=by
 cases d with
 |zero=>cases h
 |succ d=>
  unfold eQ;cases hu:P.underlying t with
  |none=>simp only[sM,hu]at h;cases h
  |some _=>rfl
theorem cR{b o len:Nat}{c:ur}{v:Value}(h:VR φ (.slice b o len c) v):∃a cap,v= .slice (some a) len cap:=by
 cases c<;>simp at h
 ·obtain⟨L,_,rfl⟩:=h;exact⟨_,_,rfl⟩
 ·obtain⟨L,_,rfl,_⟩:=h;exact⟨_,_,rfl⟩
theorem uM:∀(d D:Nat),d≤D→∀(t:TypeId)(x y:AV)(cx cy:Value)(r:Bool),sM P d t x y=some r→VR φ x cx→VR φ y cy→(Op.equalIn D t cx cy).run P w= .ok r w
 |0,_,_,_,_,_,_,_,_,h,_,_=>by cases h
 |d+1,0,hD,_,_,_,_,_,_,_,_,_=>by omega
 | d +1,D+1,hD,t,x,y,cx,cy,r,h,hx,hy=>by
  have ih:=uM d D (by omega);simp only[sM]at h;split at h
  ·rename_i hu
   simp at hx hy h;subst hx;subst hy;subst h;simp[Op.equalIn,run_underlying hu]
  ·rename_i hu
   split at h
   ·rename_i hk
    have:=JK hk;subst this;simp at hx hy h;subst hx;subst hy;subst h;simp[Op.equalIn,run_underlying hu]
   ·cases h
  ·rename_i hu
   simp only[fE]at hx hy;obtain⟨a,rfl,rfl⟩:=hx;obtain⟨b,rfl,rfl⟩:=hy;simp only[Option.some.injEq]at h;subst h;rw[run_equalIn_string _ _ _ _ _ hu,mU,gf,gf,jo]
  ·rename_i hu
   simp at hx hy h;subst hx;subst hy;subst h;simp[Op.equalIn,run_underlying hu]
  ·rename_i e b o c p hu
   simp only[dS]at hx hy;obtain⟨L,hL,rfl⟩:=hx;obtain⟨M,hM,rfl⟩:=hy;split at h
   ·rename_i h1 h2
    have h1:=al h1;have h2:=al h2;subst h1;subst h2;rw[hL]at hM;cases hM;split at h
    ·rename_i eH
     simp only[Option.some.injEq]at h;subst h;simp[Op.equalIn,run_underlying hu,cA e eH,sameAddr]
    ·cases h
   ·rename_i h1 h2
    have h1:=al h1;have h2:=ao h2;subst h1;rw[hL]at hM;cases hM;split at h
    ·rename_i eH
     simp only[au]at eH;have hs:=ak eH.2;have qL:P.cellsOf e≠0:=by omega
     simp only[Option.some.injEq]at h;subst h;simp[Op.equalIn,run_underlying hu,cA e eH.1,sameAddr,qL,h2]
    ·cases h
   ·cases h
  ·rename_i hu
   simp at hx hy h;obtain⟨L,_,rfl⟩:=hy;subst hx;subst h;simp[Op.equalIn,run_underlying hu]
  ·rename_i hu
   simp at hx hy h;obtain⟨L,_,rfl⟩:=hx;subst hy;subst h;simp[Op.equalIn,run_underlying hu]
  ·rename_i hu
   simp at hx hy h;subst hx;subst hy;subst h;simp[Op.equalIn,run_underlying hu]
  ·rename_i hu
   simp at hx hy h;obtain⟨L,rfl,_⟩:=hy;subst hx;subst h;simp[Op.equalIn,run_underlying hu]
  ·rename_i hu
   simp at hx hy h;obtain⟨L,rfl,_⟩:=hx;subst hy;subst h;simp[Op.equalIn,run_underlying hu]
  ·rename_i ms tx ax ty ay hu
   simp only[uE]at hx hy;obtain⟨vx,rfl,hvx⟩:=hx;obtain⟨vy,rfl,hvy⟩:=hy;cases ht:Nat.beq tx ty
   ·simp only[ht,Option.some.injEq]at h;subst h
    have dH:=ao ht;simp[Op.equalIn,run_underlying hu,dH]
   ·have he:=al ht
    simp only[ht]at h;subst he;split at h
    ·rename_i i hi
     split at h
     ·rename_i hc
      simp[Op.equalIn,run_underlying hu,typeInfo,hi,hc];exact ih _ _ _ _ _ _ h hvx hvy
     ·cases h
    ·cases h
  ·rename_i hu
   simp only[mO]at hx hy;obtain⟨a,rfl,ha⟩:=hx;obtain⟨b,rfl,hb⟩:=hy;split at h
   ·cases h
   ·rename_i hs
    have hf:P.underlying t=some (.struct (P.fieldsOf t)):=by rw[Program.fieldsOf,hu]
    rw[run_equalIn_struct _ _ _ _ _ hf hs];have e:∀F,P.underlying t=some (.struct F)→P.fieldsOf t=F:=fun F hF=>by unfold Program.fieldsOf;rw[hF]
    rw[e _ hu];exact uL ih (fun _ _ _ _=>Xb) ha hb _ _ h
  ·rename_i hu
   simp at hx hy h;subst hx;subst hy;subst h;simp[Op.equalIn,run_underlying hu]
  ·rename_i hu
   obtain⟨a,c,rfl⟩:=cR hy;simp at hx h;subst hx;subst h;simp[Op.equalIn,run_underlying hu]
  ·rename_i hu
   obtain⟨a,c,rfl⟩:=cR hx;simp at hy h;subst hy;subst h;simp[Op.equalIn,run_underlying hu]
  ·rename_i hu
   simp at hx hy h;obtain⟨a,c,rfl⟩:=hy;subst hx;subst h;simp[Op.equalIn,run_underlying hu]
  ·rename_i hu
   simp at hx hy h;obtain⟨a,c,rfl⟩:=hx;subst hy;subst h;simp[Op.equalIn,run_underlying hu]
  ·rename_i hu
   simp at hx hy h;subst hx;subst hy;subst h;simp[Op.equalIn,run_underlying hu]
  ·rename_i hu
   simp at hx hy h;obtain⟨a,_,rfl⟩:=hy;subst hx;subst h;simp[Op.equalIn,run_underlying hu]
  ·rename_i hu
   simp at hx hy h;obtain⟨a,_,rfl⟩:=hx;subst hy;subst h;simp[Op.equalIn,run_underlying hu]
  ·rename_i hu
   simp at hx hy h;subst hx;subst hy;subst h;simp[Op.equalIn,run_underlying hu]
  ·rename_i hu
   simp at hx hy h;obtain⟨a,b,rfl,_⟩:=hy;subst hx;subst h;simp[Op.equalIn,run_underlying hu]
  ·rename_i hu
   simp at hx hy h;obtain⟨a,b,rfl,_⟩:=hx;subst hy;subst h;simp[Op.equalIn,run_underlying hu]
  ·cases h
end
end Go.AX
namespace Go.AX
open Go.RowKit
section
variable{P:Program}{N:NN}{φ:cX}{h:H}{w:World}
theorem pj{a:AV}{k:IntKind}{n:Int}(h:VR φ a (.int k n)):a= .int k n:=by
 cases a with
 |slice b o len c=>obtain⟨a,c,e⟩:=cR h;cases e
 |int k' n'=>simp at h;obtain⟨rfl,rfl⟩:=h;rfl
 |_=>simp at h
theorem lD{a:AV}{s:ByteArray}(h:VR φ a (.string s)):a= .str (bytesOf s):=by
 cases a with
 |slice b o len c=>obtain⟨a,c,e⟩:=cR h;cases e
 |str l=>simp at h;rw[h]
 |_=>simp at h
theorem Fi{a:AV}{k:FloatKind}{n:Nat}(h:VR φ a (.float k n)):False:=by
 cases a with
 |slice b o len c=>obtain⟨a,c,e⟩:=cR h;cases e
 |_=>simp at h
theorem zX{a:AV}{k:FloatKind}{n m:Nat}(h:VR φ a (.complex k n m)):False:=by
 cases a with
 |slice b o len c=>obtain⟨a,c,e⟩:=cR h;cases e
 |_=>simp at h
theorem pU{a:AV}(h:VR φ a .nilIface):a= .nilIface:=by
 cases a with
 |slice b o len c=>obtain⟨a,c,e⟩:=cR h;cases e
 |nilIface=>rfl
 |_=>simp at h
theorem zY{a:AV}{c:Array Value}(h:VR φ a (.agg c)):∃l,a= .agg l:=by
 cases a with
 |slice b o len c=>obtain⟨a,c,e⟩:=cR h;cases e
 |agg l=>exact⟨l,rfl⟩
 |_=>simp at h
theorem s9(t:TypeId)(x y:Value)(h1:¬∃k a k' b,x= .int k a∧y= .int k' b)(h2:¬∃a b,x= .string a∧y= .string b)
  (h3:¬∃k a,x= .float k a)(h4:¬∃k a b,x= .complex k a b):
  binOp .eql t x y=(do pure (.bool (←Op.equal t x y)))∧binOp .neq t x y=(do pure (.bool (!(←Op.equal t x y)))):=by
 cases x<;>cases y<;>first
  |exact⟨rfl,rfl⟩
  |exact absurd ⟨_,_,_,_,rfl,rfl⟩ h1
  |exact absurd ⟨_,_,rfl,rfl⟩ h2
  |exact absurd ⟨_,_,rfl⟩ h3
  |exact absurd ⟨_,_,_,rfl⟩ h4
theorem xT{op:BinOp}{t:TypeId}{x y:Operand}{a b:AV}{ca cb:Value}(h:jZ P t x y a b=true)(ha:VR φ a ca)(hb:VR φ b cb):
  (eqGuard op t x y ca cb).run P w= .ok () w:=by
 by_cases h1:ca= .nilIface∧cb= .nilIface
 ·obtain⟨rfl,rfl⟩:=h1
  have:=pU ha;subst this;have:=pU hb;subst this;simp only[jZ,Bool.or_eq_true]at h;rcases h with h|h
  ·cases x<;>simp[ux]at h
   rw[eqGuard_nil_constL];rfl
  ·cases y<;>simp[ux]at h
   rw[eqGuard_nil_constR];rfl
 ·by_cases h2:∃u v,ca= .agg u∧cb= .agg v
  ·obtain⟨u,v,rfl,rfl⟩:=h2
   obtain⟨l,rfl⟩:=zY ha;obtain⟨l',rfl⟩:=zY hb;simp only[jZ,Bool.not_eq_true']at h;exact run_eqGuard_agg w op t x y u v h
  ·have :eqGuard op t x y ca cb=pure ():=by
    cases ca<;>cases cb<;>first
     |(cases op<;>rfl)
     |exact absurd ⟨rfl,rfl⟩ h1
     |exact absurd ⟨_,_,rfl,rfl⟩ h2
   rw[this];rfl
def Pu(P:Program)(φ:cX)(w:World)(m:Sem Value)(v:AV):Prop:=∃cv,m.run P w= .ok cv w∧VR φ v cv
theorem Po{op:BinOp}{t:TypeId}{x y:Operand}{a b v:AV}{ca cb:Value}(h:jR P op t x y a b=some v)(ha:VR φ a ca)(hb:VR φ b cb):
  Pu P φ w (do eqGuard op t x y ca cb;binOp op t ca cb) v:=by
 unfold jR at h;split at h
 ·rename_i k m k' n
  simp only[db]at ha hb;subst ha;subst hb;have hg:∀op,eqGuard op t x y (.int k m) (.int k' n)=pure ():=fun op=>eqGuard_at_int ..;split at h
  ·obtain⟨cv,h1,h2⟩:=zW (φ:=φ) (P:=P) (w:=w) (t:=t) (yk:=k') h (.inl rfl)
   exact⟨cv,by simp only[Sem.run_bind,hg,Sem.run_pure,Result.andThen_ok,h1],h2⟩
  ·obtain⟨cv,h1,h2⟩:=zW (φ:=φ) (P:=P) (w:=w) (t:=t) (yk:=k') h (.inr rfl)
   exact⟨cv,by simp only[Sem.run_bind,hg,Sem.run_pure,Result.andThen_ok,h1],h2⟩
  ·rename_i n1 n2
   split at h
   ·rename_i hk
    have:=JK hk;subst this;obtain⟨cv,h1,h2⟩:=GO (φ:=φ) (P:=P) (w:=w) (t:=t) h ⟨n1,n2⟩;exact⟨cv,by simp only[Sem.run_bind,hg,Sem.run_pure,Result.andThen_ok,h1],h2⟩
   ·cases h
 ·rename_i s u
  simp only[fE]at ha hb;obtain⟨ca,rfl,rfl⟩:=ha;obtain⟨cb,rfl,rfl⟩:=hb;obtain⟨cv,h1,h2⟩:=Pm (φ:=φ) (P:=P) (w:=w) (t:=t) h;exact⟨cv,by simp only[Sem.run_bind,eqGuard_at_string,Sem.run_pure,Result.andThen_ok,h1],h2⟩
 ·rename_i n1 n2
  have q1:¬∃k a k' b,ca= .int k a∧cb= .int k' b:=fun⟨k,a',k',b',e1,e2⟩=>by
   subst e1;subst e2;exact n1 _ _ _ _ (pj ha) (pj hb)
  have q2:¬∃a b,ca= .string a∧cb= .string b:=fun⟨a',b',e1,e2⟩=>by
   subst e1;subst e2;exact n2 _ _ (lD ha) (lD hb)
  have q3:¬∃k a,ca= .float k a:=fun⟨k,a',e1⟩=>by subst e1;exact Fi ha
  have q4:¬∃k a b,ca= .complex k a b:=fun⟨k,a',b',e1⟩=>by subst e1;exact zX ha
  obtain⟨e1,e2⟩:=s9 t ca cb q1 q2 q3 q4;split at h
  ·split at h
   ·rename_i hg
    split at h
    ·rename_i r he
     cases h;have:=uM (φ:=φ) (w:=w) 12 10000 (by omega) t a b ca cb r he ha hb;refine⟨.bool r,?_,fa.2 rfl⟩;have Pp:(Op.equal t ca cb).run P w= .ok r w:=this;simp only[Sem.run_bind,xT hg ha hb,Result.andThen_ok,e1,Pp,Sem.run_pure]
    ·cases h
   ·cases h
  ·split at h
   ·rename_i hg
    split at h
    ·rename_i r he
     cases h;have:=uM (φ:=φ) (w:=w) 12 10000 (by omega) t a b ca cb r he ha hb;refine⟨.bool !r,?_,fa.2 rfl⟩;have Pp:(Op.equal t ca cb).run P w= .ok r w:=this;simp only[Sem.run_bind,xT hg ha hb,Result.andThen_ok,e2,Pp,Sem.run_pure]
    ·cases h
   ·cases h
  ·cases h
theorem Th{op:UnOp}{x v:AV}{cx:Value}(h:unA op x=some v)(hx:VR φ x cx):Pu P φ w (Op.unary op cx) v:=by
 unfold unA at h;split at h
 ·simp only[db]at hx;subst hx
  simp only[cT,oG,Option.some.injEq]at h;subst h;exact⟨_,rfl,db.2 rfl⟩
 ·rename_i k n
  simp only[db]at hx;subst hx;obtain⟨cv,h1,h2⟩:=GO (φ:=φ) (P:=P) (w:=w) (t:=0) h ⟨by simp,by simp⟩;refine⟨cv,?_,h2⟩;rw[←h1];have :zk k=(if k.signed then -1 else k.max):=by cases k<;>rfl
  simp[Op.unary,binOp,this]
 ·simp only[fa]at hx;subst hx
  simp only[Option.some.injEq]at h;subst h;exact⟨_,rfl,fa.2 rfl⟩
 ·cases h
def mA(φ:cX):Option AV→Option Value→Prop
 |none,v=>v=none
 |some a,v=>∃c,v=some c∧VR φ a c
theorem pk{x:AV}{cx:Value}{hi i:Nat}(h:CA x hi=some i)(hx:VR φ x cx)(OU:Nat)(hle:hi≤OU)(code:BoundsCode):
  (Instr.sliceBound cx OU code).run P w= .ok i w∧i≤hi:=by
 unfold CA at h;split at h
 ·rename_i k n
  split at h
  ·rename_i hb
   cases h;have mz:=ak hb;simp only[db]at hx;subst hx;refine⟨?_,mz⟩;have e:(0:Int)≤aw i∧aw i≤(OU:Int):=by constructor<;>simp <;>omega
   simp only[Instr.sliceBound,asIntOf,Sem.run_bind,Sem.run_pure,Result.andThen_ok];rw[if_pos e];rfl
  ·cases h
 ·cases h
theorem Pq{x:Option AV}{cx:Option Value}{hi d i:Nat}(h:j0 x hi d=some i)(hx:mA φ x cx)(OU d':Nat)(hle:hi≤OU)(hd:x=none→d'=d)(code:BoundsCode):
  ((match cx with|some v=>Instr.sliceBound v OU code|none=>pure d'):Sem Nat).run P w= .ok i w∧(x=none∨i≤hi):=by
 cases x with
 |none=>
  simp only[mA]at hx;subst hx;simp only[j0,Option.some.injEq]at h;subst h;exact⟨by rw[hd rfl];rfl,.inl rfl⟩
 |some x=>
  obtain⟨c,rfl,hc⟩:=hx;have:=pk (P:=P) (w:=w) h hc OU hle code;exact⟨this.1,.inr this.2⟩
theorem fP{isS:Bool}{lo hi mx:Option AV}{JL Lt cmx:Option Value}{len C m hh l:Nat}(tL:mA φ lo JL)(Fj:mA φ hi Lt)(Gs:mA φ mx cmx)
  (h0:(mx.isSome&&hi.isNone)=false)(h1:mx=none∧C=m∨∃v,mx=some v∧∃b,b≤C∧CA v b=some m)
  (h2:hi=none∧hh=len∨∃v,hi=some v∧∃b,b≤m∧CA v b=some hh)(h3:j0 lo hh 0=some l):
  (Instr.sliceBounds isS len C JL Lt cmx).run P w= .ok (l,hh,m) w:=by
 have e3:∀(code:BoundsCode),((match JL with|some v=>Instr.sliceBound v hh code|none=>pure 0):Sem Nat).run P w= .ok l w:=fun code=>
  (Pq (P:=P) (w:=w) h3 tL hh 0 (aA _) (fun _=>rfl) code).1
 rcases h1 with⟨rfl,rfl⟩|⟨v,rfl,b,hb,hv⟩
 ·simp only[mA]at Gs;subst Gs
  rcases h2 with⟨rfl,rfl⟩|⟨v,rfl,b,hb,hv⟩
  ·simp only[mA]at Fj;subst Fj
   cases lo with
   |none=>
    simp only[mA]at tL;subst tL;simp only[j0,Option.some.injEq]at h3;subst h3;rfl
   |some x=>
    obtain⟨c,rfl,hc⟩:=tL;have:=(pk (P:=P) (w:=w) h3 hc hh (aA _) .sliceB).1;simp[Instr.sliceBounds,this]
  ·obtain⟨c,rfl,hc⟩:=Fj
   have q:=fun code=>(pk (P:=P) (w:=w) hv hc C hb code).1;cases lo with
   |none=>
    simp only[mA]at tL;subst tL;simp only[j0,Option.some.injEq]at h3;subst h3;simp[Instr.sliceBounds,q]
   |some x=>
    obtain⟨c',rfl,mV⟩:=tL;have:=(pk (P:=P) (w:=w) h3 mV hh (aA _) .sliceB).1;simp[Instr.sliceBounds,this,q]
 ·obtain⟨c,rfl,hc⟩:=Gs
  have q1:=fun code=>(pk (P:=P) (w:=w) hv hc C hb code).1;rcases h2 with⟨rfl,rfl⟩|⟨v',rfl,b',mz,VF⟩
  ·simp at h0
  ·obtain⟨c',rfl,mV⟩:=Fj
   have q2:=fun code=>(pk (P:=P) (w:=w) VF mV m mz code).1;cases lo with
   |none=>
    simp only[mA]at tL;subst tL;simp only[j0,Option.some.injEq]at h3;subst h3;simp[Instr.sliceBounds,q1,q2]
   |some x=>
    obtain⟨c3,rfl,Jt⟩:=tL;have:=(pk (P:=P) (w:=w) h3 Jt hh (aA _) .slice3C).1;simp[Instr.sliceBounds,this,q1,q2]
theorem eU{x:Option AV}{b d i:Nat}(h:j0 x b d=some i):x=none∧i=d∨∃v,x=some v∧CA v b=some i:=by
 cases x with
 |none=>simp only[j0,Option.some.injEq]at h;exact .inl ⟨rfl,h.symm⟩
 |some v=>exact .inr ⟨v,rfl,h⟩
theorem qM{v:AV}{b i:Nat}(h:CA v b=some i):i≤b:=by
 unfold CA at h;split at h
 ·split at h
  ·rename_i hb;cases h;exact ak hb
  ·cases h
 ·cases h
theorem Fk{s:ByteArray}{lo hi:Option AV}{JL Lt:Option Value}{v:AV}(h:uy (bytesOf s) lo hi=some v)(tL:mA φ lo JL)(Fj:mA φ hi Lt):
    ∃cv,((do let(l,h,_) ←Instr.sliceBounds false s.size s.size JL Lt none;pure (.string (s.extract l h))):Sem Value).run P w= .ok cv w∧VR φ v cv:=by
  have ls:(bytesOf s).length=s.size:=by simp[bytesOf]
  unfold uy at h;rw[dY,ls]at h;split at h
  ·cases h
  · rename_i hh h1
    split at h
    ·cases h
    · rename_i l h2
      cases h;have:=fP (P:=P) (w:=w) (φ:=φ) (isS:=false) (len:=s.size) (C:=s.size) (m:=s.size) (mx:=none) (cmx:=none) tL Fj rfl (by simp) (.inl ⟨rfl,rfl⟩)
        (by rcases eU h1 with⟨a,b⟩|⟨v,a,b⟩
            ·exact .inl ⟨a,b⟩
            ·exact .inr ⟨v,a,_,aA _,b⟩) h2
      refine⟨.string (s.extract l hh),?_,fE.2 ⟨_,rfl,?_⟩⟩
      ·simp only[Sem.run_bind,this,Result.andThen_ok,Sem.run_pure]
      · simp[bytesOf,List.map_drop,List.map_take,List.take_drop]
        have hl:l≤hh:=by
          rcases eU h2 with⟨_,b⟩|⟨v,_,b⟩
          ·omega
          ·exact qM b
        rw[show l+(hh-l)=hh by omega]
theorem qN{isS:Bool}{b o len c size:Nat}{lo hi mx:Option AV}{JL Lt cmx:Option Value}{v:AV}{L:Loc}(hL:φ b=some L)
    (h:nD b o len c size lo hi mx=some v)(tL:mA φ lo JL)(Fj:mA φ hi Lt)(Gs:mA φ mx cmx):
    ∃ l hh m,(Instr.sliceBounds isS len c JL Lt cmx).run P w= .ok (l,hh,m) w∧
      VR φ v (.slice (some (if m=l then⟨L.B,L.base+o,none⟩else(⟨L.B,L.base+o,none⟩:Addr).add (l*size))) (hh-l) (m-l)):=by
  unfold nD at h;split at h
  ·cases h
  · rename_i h0
    split at h
    ·cases h
    · rename_i m h1
      split at h
      ·cases h
      · rename_i hh h2
        split at h
        ·cases h
        · rename_i l h3
          have:=fP (P:=P) (w:=w) (φ:=φ) (isS:=isS) (len:=len) (C:=c) (m:=m) tL Fj Gs h0
            (by rcases eU h1 with⟨a,e⟩|⟨v,a,e⟩
                ·exact .inl ⟨a,e.symm⟩
                ·exact .inr ⟨v,a,_,aA _,e⟩)
            (by rcases eU h2 with⟨a,e⟩|⟨v,a,e⟩
                ·exact .inl ⟨a,e⟩
                ·exact .inr ⟨v,a,_,aA _,e⟩) h3
          refine⟨l,hh,m,this,?_⟩;split at h
          · rename_i e
            have e:=al e;cases h;rw[dT,if_pos e];exact⟨L,hL,rfl⟩
          · rename_i e
            have e:=ao e;cases h;rw[dT,if_neg e,iP];exact⟨L,hL,by rw[aD]⟩
theorem GP{isS:Bool}{b o len i size:Nat}{lo hi mx:Option AV}{JL Lt cmx:Option Value}{v:AV}{L:Loc}(hL:φ b=some L)
    (h:jz b o len i size lo hi mx=some v)(tL:mA φ lo JL)(Fj:mA φ hi Lt)(Gs:mA φ mx cmx)(hlen:i+len≤L.K):
    ∃ l hh m,(Instr.sliceBounds isS len (L.K-i) JL Lt cmx).run P w= .ok (l,hh,m) w∧
      VR φ v (.slice (some (if m=l then⟨L.B,L.base+o,none⟩else(⟨L.B,L.base+o,none⟩:Addr).add (l*size))) (hh-l) (m-l)):=by
  unfold jz at h;split at h
  · rename_i mxv
    split at h
    · rename_i m hiv h1
      split at h
      ·cases h
      · rename_i hh h2
        split at h
        ·cases h
        · rename_i l h3
          have:=fP (P:=P) (w:=w) (φ:=φ) (isS:=isS) (len:=len) (C:=L.K-i) (m:=m) tL Fj Gs rfl
            (.inr ⟨mxv,rfl,len,by omega,h1⟩) (.inr ⟨hiv,rfl,m,aA _,h2⟩) h3
          refine⟨l,hh,m,this,?_⟩;split at h
          · rename_i e
            have e:=al e;cases h;rw[dT,if_pos e];exact⟨L,hL,rfl⟩
          · rename_i e
            have e:=ao e;cases h;rw[dT,if_neg e,iP];exact⟨L,hL,by rw[aD]⟩
    ·cases h
  · split at h
    ·cases h
    · rename_i hh h2
      split at h
      ·cases h
      · rename_i l h3
        have hle:hh≤len:=by
          rcases eU h2 with⟨_,e⟩|⟨v,_,e⟩
          ·omega
          ·exact qM e
        have hl:l≤hh:=by
          rcases eU h3 with⟨_,e⟩|⟨v,_,e⟩
          ·omega
          ·exact qM e
        have := fP (P:=P) (w:=w) (φ:=φ) (isS:=isS) (len:=len) (C:=L.K-i) (m:=L.K-i) tL Fj Gs rfl
          (.inl ⟨rfl, rfl⟩) (by rcases eU h2 with⟨a,e⟩|⟨v,a,e⟩
                                ·exact .inl ⟨a,e⟩
                                ·exact .inr ⟨v,a,len,by omega,e⟩) h3
        refine⟨l,hh,L.K-i,this,?_⟩;split at h
        · rename_i e
          have e:=al e;cases h;subst e;rw[dU];refine⟨L,hL,?_,by omega⟩;split<;>simp
        · rename_i e
          have e:=ao e;split at h
          · rename_i e2
            have e2:=ak e2;cases h;rw[dU,if_neg (by omega),iP];exact⟨L,hL,by rw[aD,Nat.sub_sub],by omega⟩
          · rename_i e2
            have e2:¬(l+1≤len):=fun x=>by rw[Nat.ble_eq_true_of_le x]at e2;cases e2
            cases h;rw[iZ,show hh-l=0 by omega];exact⟨_,_,rfl⟩
theorem JM {t:TypeId}{x:AV}{lo hi mx:Option AV}{cx:Value}{JL Lt cmx:Option Value}{v:AV}(hx:VR φ x cx)
    (h:dF P t x lo hi mx=some v)(tL:mA φ lo JL)(Fj:mA φ hi Lt)(Gs:mA φ mx cmx):
    Pu P φ w (Instr.sliceAt t cx JL Lt cmx) v:=by
  unfold dF at h;split at h
  · rename_i hu
    split at h
    · simp only[mA]at Gs;subst Gs
      simp only[fE]at hx;obtain⟨s,rfl,rfl⟩:=hx;obtain⟨cv,h1,h2⟩:=Fk (P:=P) (w:=w) h tL Fj;refine⟨cv,?_,h2⟩;simp only[Instr.sliceAt,Sem.run_bind,run_underlying hu,Result.andThen_ok,Instr.slice,Option.isSome_none,az,if_false];simpa only[Sem.run_bind]using h1
    ·cases h
  · rename_i e hu
    split at h
    · rename_i ht hv
      cases h;simp only[eX]at hx;subst hx;unfold nD at hv;split at hv
      ·cases hv
      · rename_i h0
        split at hv
        ·cases hv
        · rename_i m h1
          split at hv
          ·cases hv
          · rename_i hh h2
            split at hv
            ·cases hv
            · rename_i l h3
              have m0:m=0:=by
                rcases eU h1 with⟨_,e⟩|⟨v,_,e⟩
                ·exact e
                ·have:=qM e;omega
              subst m0;have h0':hh=0:=by
                rcases eU h2 with⟨_,e⟩|⟨v,_,e⟩
                ·exact e
                ·have:=qM e;omega
              subst h0';have l0:l=0:=by
                rcases eU h3 with⟨_,e⟩|⟨v,_,e⟩
                ·exact e
                ·have:=qM e;omega
              subst l0;have:=fP (P:=P) (w:=w) (φ:=φ) (isS:=true) (len:=0) (C:=0) (m:=0) tL Fj Gs h0
                (by rcases eU h1 with⟨a,e⟩|⟨v,a,e⟩
                    ·exact .inl ⟨a,rfl⟩
                    ·exact .inr ⟨v,a,_,aA _,e⟩)
                (by rcases eU h2 with⟨a,e⟩|⟨v,a,e⟩
                    ·exact .inl ⟨a,rfl⟩
                    ·exact .inr ⟨v,a,_,aA _,e⟩) h3
              refine⟨.slice none 0 0,?_,eX.2 rfl⟩;simp only[Instr.sliceAt,Sem.run_bind,run_underlying hu,Result.andThen_ok,Instr.slice,this,cA e ht,Sem.run_pure,if_true]
    ·cases h
  · rename_i e hu
    split at h
    · rename_i hh l ht h2 h3
      cases h;simp only[mA]at Gs;subst Gs;simp only[iZ]at hx;obtain⟨a,c,rfl⟩:=hx;have h0':hh=0:=by
        rcases eU h2 with⟨_,e⟩|⟨v,_,e⟩
        ·exact e
        ·have:=qM e;omega
      subst h0';have l0:l=0:=by
        rcases eU h3 with⟨_,e⟩|⟨v,_,e⟩
        ·exact e
        ·have:=qM e;omega
      subst l0;have:=fP (P:=P) (w:=w) (φ:=φ) (isS:=true) (len:=0) (C:=c) (m:=c) (mx:=none) (cmx:=none) tL Fj rfl (by simp)
        (.inl ⟨rfl,rfl⟩)
        (by rcases eU h2 with⟨a,e⟩|⟨v,a,e⟩
            ·exact .inl ⟨a,rfl⟩
            ·exact .inr ⟨v,a,0,Nat.zero_le _,e⟩) h3
      refine⟨.slice (some a) 0 c,?_,iZ.2 ⟨_,_,rfl⟩⟩;simp only[Instr.sliceAt,Sem.run_bind,run_underlying hu,Result.andThen_ok,Instr.slice,this,cA e ht,Sem.run_pure];simp[Addr.add]
    ·cases h
  · rename_i e b o len c hu
    split at h
    · rename_i ht
      simp only[dT]at hx;obtain⟨L,hL,rfl⟩:=hx;obtain⟨l,hh,m,h1,h2⟩:=qN (P:=P) (w:=w) (isS:=true) hL h tL Fj Gs;refine⟨_,?_,h2⟩;simp only[Instr.sliceAt,Sem.run_bind,run_underlying hu,Result.andThen_ok,Instr.slice,h1,cA e ht,Sem.run_pure,aJ];congr 2;split<;>rfl
    ·cases h
  · rename_i e b o len i hu
    split at h
    · rename_i ht
      simp only[dU]at hx;obtain⟨L,hL,rfl,hK⟩:=hx;obtain⟨l,hh,m,h1,h2⟩:=GP (P:=P) (w:=w) (isS:=true) hL h tL Fj Gs hK;refine⟨_,?_,h2⟩;simp only[Instr.sliceAt,Sem.run_bind,run_underlying hu,Result.andThen_ok,Instr.slice,h1,cA e ht,Sem.run_pure,aJ];congr 2;split<;>rfl
    ·cases h
  · rename_i n e b o hu
    split at h
    · rename_i ht
      simp only[dS]at hx;obtain⟨L,hL,rfl⟩:=hx;obtain⟨l,hh,m,h1,h2⟩:=qN (P:=P) (w:=w) (isS:=false) hL h tL Fj Gs;refine⟨_,?_,h2⟩;simp only[Instr.sliceAt,Sem.run_bind,run_underlying hu,Result.andThen_ok,Instr.sureAddr,h1,cA e ht,Sem.run_pure]
    ·cases h
  · rename_i a b o hu
    split at h
    · rename_i n e ha
      split at h
      · rename_i ht
        simp only[dS]at hx;obtain⟨L,hL,rfl⟩:=hx;obtain⟨l,hh,m,h1,h2⟩:=qN (P:=P) (w:=w) (isS:=false) hL h tL Fj Gs;refine⟨_,?_,h2⟩;simp only[Instr.sliceAt,Sem.run_bind,run_underlying hu,Result.andThen_ok,Instr.slice,asAddr,run_underlying ha,h1,cA e ht,Sem.run_pure]
      ·cases h
    ·cases h
  ·cases h
end
end Go.AX
namespace Go.AX
open Go.RowKit
section
variable{P:Program}{N:NN}{φ:cX}{h h':H}{w:World}
def qD(P:Program)(N:NN)(φ:cX)(w:World)(m:Sem Value)(v:AV)(h':H):Prop:=
 ∃gA cv w',m.run P w= .ok cv w'∧VR gA v cv∧φ.le gA∧HR N gA h' w'∧Below N w w'
def UOk(P:Program)(N:NN)(φ:cX)(w:World)(m:Sem Unit)(h':H):Prop:=
 ∃gA w',m.run P w= .ok () w'∧φ.le gA∧HR N gA h' w'∧Below N w w'
theorem Pu.pV{m:Sem Value}{v:AV}(hr:HR N φ h w)(x:Pu P φ w m v):qD P N φ w m v h:=by
 obtain⟨cv,h1,h2⟩:=x;exact⟨φ,cv,w,h1,h2,φ.le_refl,hr,Below.refl _ _⟩
theorem fQ{t:TypeId}{z:AV}(hz:dv P t=some z):∃cz,(zeroValue t).run P w= .ok cz w∧VR φ z cz∧(∀a,a∈z.cells→a.one=true)∧
  ∃i,P.info? t=some i∧i.zero=some cz:=by
 unfold dv at hz;split at hz
 ·rename_i i hi
  split at hz
  ·rename_i v hv
   have hov:jY v=some z:=by
    split at hz
    ·cases hz
    ·exact hz
   refine⟨v,?_,Dr hov,?_,i,hi,hv⟩
   ·simp only[zeroValue,typeInfo,Sem.run_bind,run_program,Result.andThen_ok,hi,Sem.run_pure,hv]
   ·rcases GN hov with h|h
    ·exact h
    ·subst h
     rw[hov]at hz;cases hz
  ·cases hz
 ·cases hz
theorem Ds(hr:HR N φ h w){L0:Loc}{t:TypeId}{b o:Nat}(Fh:φ b=some L0){v:AV}(ht:eQ P t=true)(hl:dJ P h t b o=some v):
  ∃L,φ b=some L∧Pu P φ w (loadVar t ⟨L.B,L.base+o,none⟩) v:=by
 unfold dJ at hl;split at hl
 ·rename_i ha
  split at hl
  ·rename_i l eZ
   cases hl;obtain⟨L,cl,hL,h1,h2,h3,h4⟩:=uH (P:=P) hr Fh eZ;refine⟨L,hL,.agg cl.toArray,?_,mO.2 ⟨_,rfl,h2⟩⟩;simp only[loadVar,Sem.run_bind,uK t ht,Result.andThen_ok,ha,if_true,cA t ht,h1,Sem.run_pure]
  ·cases hl
 ·rename_i ha
  split at hl
  ·rename_i n cs esz ro hb
   obtain⟨L,cv,hL,h1,h2,h3⟩:=Pg hr Fh hb hl;refine⟨L,hL,cv,?_,h2⟩;simp only[loadVar,Sem.run_bind,uK t ht,Result.andThen_ok,ha,az,if_false,run_load,h1]
  ·cases hl
theorem JN(hr:HR N φ h w){L0:Loc}{t:TypeId}{b o:Nat}(Fh:φ b=some L0){v:AV}{cv:Value}(ht:eQ P t=true)(hv:VR φ v cv)(hs:eT P h t b o v=some h'):
  ∃L,φ b=some L∧UOk P N φ w (storeVar t ⟨L.B,L.base+o,none⟩ cv) h'∧h'.nx=h.nx:=by
 unfold eT at hs;split at hs
 ·rename_i mH
  have mH:=al mH;obtain⟨L,w',hL,h1,h2,h3,h4,h5⟩:=uI (P:=P) hr Fh hs hv.cells;refine⟨L,hL,⟨φ,w',?_,φ.le_refl,h2,h3⟩,h4⟩;have e:cv.cells.size=P.cellsOf t:=by rw[←mH,hv.cells.length];simp
  simp only[storeVar,Sem.run_bind,cA t ht,Result.andThen_ok,e,ne_eq,not_true_eq_false,if_false,h1]
 ·cases hs
theorem Dt(hr:HR N φ h w)(hN:N≤w.heap.size){l:List AV}{cv:Value}(hl:bH (VR φ) l cv.cells.toList)(ho:∀a,a∈l→a.one=true)(t:TypeId):
  qD P N φ w (do pure (.pointer (some (←newVar t cv)))) (.ptr h.nx 0) (h.bq t l):=by
 have:=ph hr hN hl ho t;refine⟨_,.pointer (some ⟨w.heap.size,0,none⟩),_,?_,?_,this.2,this.1,fc _ hN⟩
 ·simp only[newVar,newRow,Sem.run_bind,run_newObj,Result.andThen_ok,Sem.run_pure,an]
 ·rw[dS];exact⟨_,cX.cS _ _ _,by simp⟩
theorem GQ(hr:HR N φ h w)(hN:N≤w.heap.size){t:TypeId}{z:AV}(hz:dv P t=some z):
  qD P N φ w (Instr.alloc t true (.tuple #[])) (.ptr h.nx 0) (h.bq t z.cells):=by
 obtain⟨cz,h1,h2,h3,_⟩:=fQ (w:=w) (φ:=φ) hz;obtain⟨gA,cv,w',g1,g2⟩:=Dt (P:=P) hr hN h2.cells h3 t;refine⟨gA,cv,w',?_,g2⟩;simp only[Instr.alloc,Sem.run_bind,h1,Result.andThen_ok];simpa only[Sem.run_bind]using g1
theorem Nu(hr:HR N φ h w)(hN:N≤w.heap.size){t:TypeId}{v:AV}{cv:Value}(hv:VR φ v cv)(ho:dN v.cells=true):
  qD P N φ w (Instr.box t cv) (.ptr h.nx 0) (h.bq t v.cells):=
 Dt hr hN hv.cells (jH ho) t
theorem xU:∀(vs:List Value)(off k:Nat)(cells:Array Value),off+k+vs.length≤cells.size→
  ((vs.zipIdx k).foldl (fun cs(x:Value×Nat)=>cs.setIfInBounds (off+x.2) x.1) cells).size=cells.size∧
  ∀i,((vs.zipIdx k).foldl (fun cs(x:Value×Nat)=>cs.setIfInBounds (off+x.2) x.1) cells)[i]? =if off+k≤i∧i<off+k+vs.length then vs[i-(off+k)]? else cells[i]?
 |[],off,k,cells,_=>⟨rfl,fun i=>by simp only[List.zipIdx_nil,List.foldl_nil,List.length_nil];rw[if_neg (by omega)]⟩
 | v::vs,off,k,cells,hs=>by
  simp only[aF]at hs;have ih:=xU vs off (k+1) (cells.setIfInBounds (off+k) v) (by simp only[Array.size_setIfInBounds];omega);simp only[List.zipIdx_cons,List.foldl_cons];refine⟨by rw[ih.1];simp,fun i=>?_⟩;rw[ih.2 i];by_cases q:off+(k+1)≤i∧i<off+(k+1)+vs.length
  ·rw[if_pos q,if_pos (by simp only[aF];omega),show i-(off+k)=(i-(off+(k+1)))+1 by omega];simp
  ·rw[if_neg q,Array.getElem?_setIfInBounds]
   by_cases e:off+k=i
   ·subst e;rw[if_pos rfl,if_pos (by omega),if_pos (by simp only[aF];omega)];simp
   ·rw[if_neg e,if_neg (by simp only[aF];omega)]
theorem JO{cs:List AV}{off:Nat}{new:List AV}(hs:off+new.length≤cs.length)(i:Nat):
  (tH cs off new)[i]? =if off≤i∧i<off+new.length then new[i-off]? else cs[i]? :=by
 unfold tH;by_cases q:i<off
 ·rw[if_neg (by omega),List.append_assoc,aC (by simp;omega)]
  simp[q]
 ·by_cases q2:i<off+new.length
  ·rw[if_pos (by omega),aC (by simp;omega),aB (by simp;omega)]
   simp;congr 1;omega
  ·rw[if_neg (by omega),aB (by simp;omega)]
   simp;congr 1;omega
theorem CE{cs:List AV}{off:Nat}{new:List AV}(hs:off+new.length≤cs.length):(tH cs off new).length=cs.length:=by
 unfold tH;simp;omega
theorem oI{place:Nat→Option (Nat×Nat)}:∀{parts:List (Nat×AV)}{cparts:List (Nat×Value)}{cells l:List AV}{cc:Array Value},
  sV place cells parts=some l→bH (VR φ) cells cc.toList→bH (fun(a:Nat×AV)(b:Nat×Value)=>a.1=b.1∧VR φ a.2 b.2) parts cparts→
  ∃cl,Instr.fill place cc cparts=some cl∧bH (VR φ) l cl.toList
 |[],cparts,cells,l,cc,hf,hc,hp=>by
  rw[bH.ct]at hp;subst hp;simp only[sV,Option.some.injEq]at hf;subst hf;exact⟨cc,rfl,hc⟩
 | (i, v)::parts,cparts,cells,l,cc,hf,hc,hp=>by
  obtain⟨⟨j,cv⟩,cr,rfl,⟨e,hv⟩,hp'⟩:=bH.bM.1 hp;simp only at e;subst e;simp only[sV]at hf;split at hf
  ·cases hf
  ·rename_i off size hpl
   split at hf
   ·rename_i hb
    simp only[au]at hb;have b1:=al hb.1;have b2:=ak hb.2;have hvc:=hv.cells;have Ti:v.cells.length=cv.cells.size:=by rw[hvc.length];simp
    have Fl:cells.length=cc.size:=by rw[hc.length];simp
    have fs:=xU cv.cells.toList off 0 cc (by simp;omega);have tM:bH (VR φ) (tH cells off v.cells) ((cv.cells.toList.zipIdx 0).foldl (fun cs(x:Value×Nat)=>cs.setIfInBounds (off+x.2) x.1) cc).toList:=by
     apply bH.bG
     ·exact(CE b2).trans (Fl.trans (fs.1.symm.trans Array.length_toList.symm))
     ·intro i a b ha hb
      rw[JO b2]at ha;rw[aq,fs.2 i]at hb;simp only[Nat.add_zero,Array.length_toList,←Ti]at hb;split at ha
      ·rename_i q
       rw[if_pos q]at hb;obtain⟨c,wC,nI⟩:=hvc.get ha;rw[wC]at hb;cases hb;exact nI
      ·rename_i q
       rw[if_neg q]at hb;obtain⟨c,wC,nI⟩:=hc.get ha;rw[aq]at wC;rw[wC]at hb;cases hb;exact nI
    obtain⟨cl,h1,h2⟩:=oI hf tM hp';refine⟨cl,?_,h2⟩;simp only[Instr.fill,hpl];have GR:(decide (cv.cells.size≠size)||decide (off+cv.cells.size>cc.size))=false:=by
     simp only[aG,decide_eq_false_iff_not];omega
    rw[if_neg (by simpa using GR)];rw[←Array.foldl_toList,Array.toList_zipIdx];exact h1
   ·cases hf
theorem GS{fields:Array Field}(eH:fields.toList.all (fun f=>eQ P f.type)=true):
  (fields.mapM fun f=>(do pure (f.offset,←sizeOf f.type):Sem (Nat×Nat))).run P w= .ok (fields.map fun f=>(f.offset,P.cellsOf f.type)) w:=by
 rw[Array.mapM_eq_mapM_toList,Sem.run_map];have :∀l:List Field,l.all (fun f=>eQ P f.type)=true→(l.mapM fun f=>(do pure (f.offset,←sizeOf f.type):Sem (Nat×Nat))).run P w= .ok (l.map fun f=>(f.offset,P.cellsOf f.type)) w:=by
  intro l;induction l with
  |nil=>intro _;rfl
  |cons f l ih=>
   intro hl;simp only[List.all_cons,au]at hl;simp only[List.mapM_cons,Sem.run_bind,cA f.type hl.1,Result.andThen_ok,Sem.run_pure,ih hl.2,aM]
 rw[this _ eH];simp only[Result.andThen_ok];congr 1;apply Array.ext';simp
theorem JP{t:TypeId}{parts:List (Nat×AV)}{cparts:Array (Nat×Value)}{v:AV}(hb:wK P t parts=some v)
  (hp:bH (fun(a:Nat×AV)(b:Nat×Value)=>a.1=b.1∧VR φ a.2 b.2) parts cparts.toList):Pu P φ w (Instr.build t cparts) v:=by
 unfold wK at hb;split at hb
 ·rename_i z fields hz hu
  obtain⟨cz,h1,h2,h3,_⟩:=fQ (w:=w) (φ:=φ) hz;split at hb
  ·cases hb
  ·rename_i eH
   split at hb
   ·rename_i l hf
    cases hb;have hpl:placeOf P fields.toList=fun i=>(fields.map fun(f:Field)=>(f.offset,P.cellsOf f.type))[i]? :=by
     funext i;rw[Array.getElem?_map,placeOf,aq];cases fields[i]? <;>rfl
    rw[hpl]at hf;obtain⟨cl,g1,g2⟩:=oI hf h2.cells hp;refine⟨.agg cl,?_,mO.2 ⟨_,rfl,g2⟩⟩;simp only[Instr.build,Sem.run_bind,h1,Result.andThen_ok,run_underlying hu,GS eH];simp only[g1,Sem.run_pure]
   ·cases hb
 ·rename_i z n elem hz hu
  obtain⟨cz,h1,h2,h3,_⟩:=fQ (w:=w) (φ:=φ) hz;simp only at hb;split at hb
  ·cases hb
  ·rename_i eH
   split at hb
   ·rename_i l hf
    cases hb;obtain⟨cl,g1,g2⟩:=oI hf h2.cells hp;refine⟨.agg cl,?_,mO.2 ⟨_,rfl,g2⟩⟩;simp only[Instr.build,Sem.run_bind,h1,Result.andThen_ok,run_underlying hu,cA elem eH,g1,Sem.run_pure]
   ·cases hb
 ·cases hb
theorem qO(l:List AV):∀n,(kS l n).length=n*l.length
 |0=>by simp[kS]
 |n+1=>by
  have e:(n+1)*l.length=n*l.length+l.length:=Nat.succ_mul _ _;rw[e,kS,List.length_append,qO l n,Nat.add_comm]
theorem CF{i m:Nat}(h:m≤i):i%m=(i-m)%m:=Nat.mod_eq_sub_mod h
theorem GU(l:List AV):∀(n i:Nat),i<n*l.length→(kS l n)[i]? =l[i%l.length]?
 |0,i,h=>by simp at h
 | n+1,i,h=>by
  have CG:0<l.length:=by
   rcases Nat.eq_zero_or_pos l.length with e|e
   ·rw[e]at h;simp at h
   ·exact e
  simp only[kS];by_cases q:i<l.length
  ·rw[aC q,Nat.mod_eq_of_lt q]
  ·have h':i-l.length<n*l.length:=by
    have e:(n+1)*l.length=n*l.length+l.length:=Nat.succ_mul _ _;rw[e]at h;omega
   rw[aB (by omega),GU l n (i-l.length) h',CF (Nat.le_of_not_lt q)]
theorem kW{zs:List AV}{zero:Array Value}(hz:bH (VR φ) zs zero.toList)(n:Nat):
  bH (VR φ) (kS zs n) ((Array.range (n*zero.size)).map (fun i=>zero[i%zero.size]!)).toList:=by
 have hl:zs.length=zero.size:=by rw[hz.length];simp
 apply bH.bG
 ·rw[qO,hl];simp
 ·intro i a b ha hb
  have hi:i<n*zs.length:=by rw[←qO];exact(List.getElem?_eq_some_iff.1 ha).1
  rw[GU _ _ _ hi]at ha;obtain⟨c,hc,hR⟩:=hz.get ha;have mz:b=zero[i%zero.size]! :=by
   have:=List.getElem?_eq_some_iff.1 hb;obtain⟨h1,h2⟩:=this;simp at h2;exact h2.symm
  rw[hl,aq]at hc;obtain⟨h1,h2⟩:=Array.getElem?_eq_some_iff.1 hc;rw[mz,getElem!_pos zero _ h1,h2];exact hR
theorem range_zero(f:Nat→Value):((Array.range 0).map f)= #[]:=by simp
theorem yX(hr:HR N φ h w)(hN:N≤w.heap.size){t:TypeId}{len:Nat}{parts:List (Nat×AV)}{cparts:Array (Nat×Value)}{v:AV}(hb:fV P t len parts h= .val v h')
  (hp:bH (fun(a:Nat×AV)(b:Nat×Value)=>a.1=b.1∧VR φ a.2 b.2) parts cparts.toList):qD P N φ w (Instr.buildSlice t len cparts) v h':=by
 unfold fV at hb;split at hb
 ·rename_i elem hu
  simp only at hb;split at hb
  ·rename_i z eH s_ hz
   split at hb
   ·rename_i l JQ hf
    split at hb
    ·rename_i j7
     cases hb;have JQ:=al JQ;obtain⟨cz,h1,h2,h3,_⟩:=fQ (w:=w) (φ:=φ) hz;have mH:cz.cells.size=P.cellsOf elem:=by rw[←JQ,h2.cells.length];simp
     have JR:=kW h2.cells len;obtain⟨cl,g1,g2⟩:=oI hf JR hp;have tM:=ph hr hN g2 (jH j7) elem;have hle:len*P.cellsOf elem≤4194304:=ak s_;refine⟨_,.slice (some ⟨w.heap.size,0,none⟩) len len,_,?_,?_,tM.2,tM.1,fc _ hN⟩
     ·have c1:¬(len*P.cellsOf elem>2^24):=by omega
      simp only[Instr.buildSlice,Sem.run_bind,run_underlying hu,Result.andThen_ok,cA elem eH,c1,if_false];by_cases e0:len*P.cellsOf elem=0
      ·rw[mH,e0,range_zero]at g1
       simp only[e0,if_true,Sem.run_bind,Sem.run_pure,Result.andThen_ok,range_zero,g1,newRow,run_newObj,an]
      ·simp only[e0,if_false,Sem.run_bind,h1,Result.andThen_ok,Sem.run_pure]
       rw[mH]at g1;rw[mH];simp only[g1,newRow,Sem.run_bind,run_newObj,Result.andThen_ok,Sem.run_pure,an]
     ·rw[dT];exact⟨_,cX.cS _ _ _,by simp⟩
    ·cases hb
   ·cases hb
  ·cases hb
 ·cases hb
theorem Pr{t:TypeId}{len:Nat}{parts:List (Nat×AV)}{e:TypeId}{l:List AV}{n:Nat}(hb:GB P t len parts=some (e,l,n)):∀a,a∈l→a.one=true:=by
 unfold GB at hb;split at hb
 ·simp only at hb
  split at hb
  ·split at hb
   ·split at hb
    ·rename_i j7
     cases hb;exact jH j7
    ·cases hb
   ·cases hb
  ·cases hb
 ·cases hb
theorem Ps{t:TypeId}{len:Nat}{parts:List (Nat×AV)}{cparts:Array (Nat×Value)}{e:TypeId}{l:List AV}{n:Nat}(hb:GB P t len parts=some (e,l,n))
  (hp:bH (fun(a:Nat×AV)(b:Nat×Value)=>a.1=b.1∧VR φ a.2 b.2) parts cparts.toList):
  ∃cl:List Value,(Instr.buildSlice t len cparts).run P w= .ok (.slice (some ⟨w.heap.size,0,none⟩) n n) {w with heap:=w.heap.push (.cells cl.toArray e)}∧bH (VR φ) l cl:=by
 unfold GB at hb;split at hb
 ·rename_i elem hu
  simp only at hb;split at hb
  ·rename_i z eH s_ hz
   split at hb
   ·rename_i l' JQ hf
    split at hb
    ·rename_i j7
     cases hb;have JQ:=al JQ;obtain⟨cz,h1,h2,h3,_⟩:=fQ (w:=w) (φ:=φ) hz;have mH:cz.cells.size=P.cellsOf e:=by rw[←JQ,h2.cells.length];simp
     have JR:=kW h2.cells len;obtain⟨cl,g1,g2⟩:=oI hf JR hp;have hle:len*P.cellsOf e≤4194304:=ak s_;refine⟨cl.toList,?_,g2⟩;have c1:¬(len*P.cellsOf e>2^24):=by omega
     simp only[Instr.buildSlice,Sem.run_bind,run_underlying hu,Result.andThen_ok,cA e eH,c1,if_false];by_cases e0:len*P.cellsOf e=0
     ·rw[mH,e0,range_zero]at g1
      simp only[e0,if_true,Sem.run_bind,Sem.run_pure,Result.andThen_ok,range_zero,g1,newRow,run_newObj,an]
     ·simp only[e0,if_false,Sem.run_bind,h1,Result.andThen_ok,Sem.run_pure]
      rw[mH]at g1;rw[mH];simp only[g1,newRow,Sem.run_bind,run_newObj,Result.andThen_ok,Sem.run_pure,an]
    ·cases hb
   ·cases hb
  ·cases hb
 ·cases hb
end
end Go.AX
namespace Go.AX
open Go.RowKit
theorem wrap_small{n:Int}(h0:0≤n)(h1:n<9223372036854775808):IntKind.i64.wrap n=n:=by
 rw[←oG];have e:Int.emod n 18446744073709551616=n:=Int.emod_eq_of_lt h0 (by omega);simp only[bV,e];rw[if_pos h1]
theorem GV{s:ByteArray}{i b:Nat}(h:(bytesOf s)[i]? =some b):∃c,s[i]? =some c∧c.toNat=b∧i<s.size:=by
 unfold bytesOf at h;rw[List.getElem?_map]at h;cases hc:s.data.toList[i]? with
 |none=>rw[hc]at h;cases h
 |some c=>
  rw[hc]at h;simp only[aJ,Option.some.injEq]at h;have hi:=(List.getElem?_eq_some_iff.1 hc);obtain⟨h1,h2⟩:=hi;have mH:i<s.size:=by simpa using h1
  refine⟨c,?_,h,mH⟩;rw[ByteArray.getElem?_lt' s i mH];congr 1
section
variable{P:Program}{N:NN}{φ:cX}{h h':H}{w:World}
theorem Pt{t:TypeId}{x y:AV}{cx cy:Value}{e:TypeId}{l:List AV}{n:Nat}(hm:W9 P t x y=some (e,l,n))(hx:VR φ x cx)(hy:VR φ y cy):
    ∃cl:List Value,(Instr.makeSlice t cx cy).run P w= .ok (.slice (some ⟨w.heap.size,0,none⟩) n n) {w with heap:=w.heap.push (.cells cl.toArray e)}∧bH (VR φ) l cl∧(∀a,a∈l→a.one=true):=by
  unfold W9 at hm;split at hm
  · rename_i elem k1 l k2 c hu
    simp only[db]at hx hy;subst hx;subst hy;split at hm
    · rename_i info z hi hz hb
      split at hm
      · rename_i hc
        cases hm;simp only[au]at hb hc;have b1:l=n:=al hb.1;have b2:n≤4194304:=ak hb.2;have b3:info.bytes≤4194304:=ak hc.1.1.2;have b4:=al hc.1.2;have eH:=hc.1.1.1;obtain⟨cz,h1,h2,h3,_⟩:=fQ (w:=w) (φ:=φ) hz;have mH:cz.cells.size=info.size:=by rw[←b4,h2.cells.length];simp
        have ta:P.cellsOf e=info.size:=by simp[Program.cellsOf,hi]
        have hmul:info.bytes*n≤4194304*4194304:=Nat.mul_le_mul b3 b2;refine⟨_,?_,kW h2.cells n,fun a ha=>?_⟩
        · have w1:IntKind.i64.wrap (aw l)=(l:Int):=wrap_small (by simp) (by simp;omega)
          have w2:IntKind.i64.wrap (aw n)=(n:Int):=wrap_small (by simp) (by simp;omega);have g1:(decide ((n:Int)<0)||decide ((info.bytes:Int)*(n:Int)>2^48))=false:=by
            simp only[aG,decide_eq_false_iff_not];refine⟨by omega,?_⟩;have :(info.bytes:Int)*(n:Int)=((info.bytes*n:Nat):Int):=by simp
            rw[this];omega
          have g2:(decide ((l:Int)<0))=false:=by simp
          have g3:(decide ((l:Int)>(n:Int)))=false:=by simp;omega
          have hti:(typeInfo e).run P w= .ok info w:=by simp only[typeInfo,Sem.run_bind,run_program,Result.andThen_ok,hi,Sem.run_pure]
          simp only[Instr.makeSlice,Sem.run_bind,run_underlying hu,Result.andThen_ok,asInt,asIntOf,Sem.run_pure,hti,w1,w2,g1,g2,g3,Bool.or_self,az,if_false,run_askRoom,
            cA e eH,aE]
          have e1:P.cellsOf e=cz.cells.size:=by rw[ta,mH]
          rw[e1];by_cases e0:n*cz.cells.size=0
          ·simp only[e0,if_true,Sem.run_bind,Sem.run_pure,Result.andThen_ok,range_zero,newRow,run_newObj,an,b1]
          ·simp only[e0,if_false,Sem.run_bind,h1,Sem.run_pure,Result.andThen_ok,newRow,run_newObj,an,b1]
        · have : ∀ n, ∀ a, a∈kS z.cells n→a.one=true:=by
            intro n;induction n with
            |zero=>simp[kS]
            | succ n ih => intro a ha;simp only[kS,List.mem_append]at ha;rcases ha with ha|ha
                           ·exact h3 a ha
                           ·exact ih a ha
          exact this n a ha
      ·cases hm
    ·cases hm
  ·cases hm
theorem zZ (hr :HR N φ h w)(hN:N≤w.heap.size){t:TypeId}{x y v:AV}{cx cy:Value}(hm:jG P t x y h= .val v h')(hx:VR φ x cx)(hy:VR φ y cy):
    qD P N φ w (Instr.makeSlice t cx cy) v h':=by
  unfold jG at hm;split at hm
  · rename_i elem k1 l k2 c hu
    simp only[db]at hx hy;subst hx;subst hy;split at hm
    · rename_i info z hi hz hb
      split at hm
      · rename_i hc
        cases hm;simp only[au]at hb hc;have b1:l≤c:=ak hb.1;have b2:c≤4194304:=ak hb.2;have b3:info.bytes≤4194304:=ak hc.1.1.2;have b4:=al hc.1.2;have b5:1≤info.size:=ak hc.2;have eH:=hc.1.1.1;obtain⟨cz,h1,h2,h3,_⟩:=fQ (w:=w) (φ:=φ) hz;have mH:cz.cells.size=info.size:=by rw[←b4,h2.cells.length];simp
        have ta:P.cellsOf elem=info.size:=by simp[Program.cellsOf,hi]
        have tM:=ph hr hN (kW h2.cells c) (fun a ha=>by
          have : ∀ n, ∀ a, a∈kS z.cells n→a.one=true:=by
            intro n;induction n with
            |zero=>simp[kS]
            | succ n ih => intro a ha;simp only[kS,List.mem_append]at ha;rcases ha with ha|ha
                           ·exact h3 a ha
                           ·exact ih a ha
          exact this c a ha) elem
        have hmul:info.bytes*c≤4194304*4194304:=Nat.mul_le_mul b3 b2;refine⟨_,.slice (some ⟨w.heap.size,0,none⟩) l c,_,?_,?_,tM.2,tM.1,fc _ hN⟩
        · have w1:IntKind.i64.wrap (aw l)=(l:Int):=wrap_small (by simp) (by simp;omega)
          have w2:IntKind.i64.wrap (aw c)=(c:Int):=wrap_small (by simp) (by simp;omega);have g1:(decide ((c:Int)<0)||decide ((info.bytes:Int)*(c:Int)>2^48))=false:=by
            simp only[aG,decide_eq_false_iff_not];refine⟨by omega,?_⟩;have :(info.bytes:Int)*(c:Int)=((info.bytes*c:Nat):Int):=by simp
            rw[this];omega
          have g2:(decide ((l:Int)<0))=false:=by simp
          have g3:(decide ((l:Int)>(c:Int)))=false:=by simp;omega
          have hti:(typeInfo elem).run P w= .ok info w:=by simp only[typeInfo,Sem.run_bind,run_program,Result.andThen_ok,hi,Sem.run_pure]
          simp only[Instr.makeSlice,Sem.run_bind,run_underlying hu,Result.andThen_ok,asInt,asIntOf,Sem.run_pure,hti,w1,w2,g1,g2,g3,Bool.or_self,az,if_false,run_askRoom,
            cA elem eH,aE]
          have e:P.cellsOf elem=cz.cells.size:=by rw[ta,mH]
          rw[e];by_cases e0:c*cz.cells.size=0
          ·simp only[e0,if_true,Sem.run_bind,Sem.run_pure,Result.andThen_ok,range_zero,newRow,run_newObj]
          ·simp only[e0,if_false,Sem.run_bind,h1,Sem.run_pure,Result.andThen_ok,newRow,run_newObj,an]
        ·rw[dT];exact⟨_,cX.cS _ _ _,by simp⟩
      ·cases hm
    ·cases hm
  ·cases hm
theorem GW{t:TypeId}(ht:P.cellsOf t≠0):(sizeOf t).run P w= .ok (P.cellsOf t) w:=by
 unfold Program.cellsOf at ht ⊢;cases hi:P.info? t with
 |none=>rw[hi]at ht;exact absurd rfl ht
 |some i=>simp only[sizeOf,typeInfo,Sem.run_bind,run_program,Result.andThen_ok,hi,Sem.run_pure];rfl
theorem z_{t:TypeId}{x v:AV}{cx:Value}{i:Nat}(hx:VR φ x cx)(hf:bO P t x i=some v):Pu P φ w (Instr.fieldAt t cx i) v:=by
 unfold bO at hf;split at hf
 ·rename_i fields b o hu
  split at hf
  ·rename_i f Tj
   split at hf
   ·cases hf
   ·rename_i dH
    have dH:=ao dH;cases hf;simp only[dS]at hx;obtain⟨L,hL,rfl⟩:=hx;rw[aq]at Tj;refine⟨.pointer (some ⟨L.B,L.base+o+f.offset,none⟩),?_,dS.2 ⟨L,hL,by rw[aD]⟩⟩;simp only[Instr.fieldAt,Sem.run_bind,run_underlying hu,Result.andThen_ok,Tj,Instr.sureAddr,Sem.run_pure,fieldPlace,GW dH,dH,if_false,iP]
  ·cases hf
 ·cases hf
theorem JS{t:TypeId}{x v:AV}{cx:Value}{i:Nat}(hx:VR φ x cx)(hf:wL P t x i=some v):Pu P φ w (Instr.field t cx i) v:=by
 unfold wL at hf;split at hf
 ·rename_i fields cs hu
  split at hf
  ·rename_i f Tj
   split at hf
   ·rename_i eH
    simp only[mO]at hx;obtain⟨a,rfl,ha⟩:=hx;rw[aq]at Tj;obtain⟨cv,h1,h2⟩:=kV (w:=w) eH ha hf;exact⟨cv,by simp only[Instr.field,Sem.run_bind,run_underlying hu,Result.andThen_ok,Tj,asAgg,Sem.run_pure,h1],h2⟩
   ·cases hf
  ·cases hf
 ·cases hf
theorem Aa{t:TypeId}{x ix v:AV}{cx ci:Value}(hx:VR φ x cx)(hi:VR φ ix ci)(hf:eu P t x ix=some v):Pu P φ w (Instr.indexAt t cx ci) v:=by
 unfold eu at hf;split at hf
 ·rename_i k i
  simp only[db]at hi;subst hi;split at hf
  ·rename_i len e b o hu
   split at hf
   ·rename_i hc
    simp only[au]at hc;have fW:i<len:=by have:=ak hc.1;omega
    cases hf;simp only[dS]at hx;obtain⟨L,hL,rfl⟩:=hx;refine⟨.pointer (some ⟨L.B,L.base+o+i*P.cellsOf e,none⟩),?_,dS.2 ⟨L,hL,by rw[aD]⟩⟩;have hb:(0:Int)≤aw i∧aw i<(len:Int):=⟨by simp,by simp;omega⟩;simp only[Instr.indexAt,Sem.run_bind,run_underlying hu,Result.andThen_ok,asIntOf,Instr.sureAddr,Sem.run_pure,hb,and_self,if_true,cA e hc.2];simp only[iP,aL,aE]
   ·cases hf
  ·rename_i e b o len c hu
   split at hf
   ·rename_i hc
    simp only[au]at hc;have fW:i<len:=by have:=ak hc.1;omega
    cases hf;have Nv:∃L cap,φ b=some L∧cx= .slice (some ⟨L.B,L.base+o,none⟩) len cap:=by
     cases c with
     |exact c=>rw[dT]at hx;obtain⟨L,hL,e⟩:=hx;exact⟨L,c,hL,e⟩
     |iK j=>rw[dU]at hx;obtain⟨L,hL,e,_⟩:=hx;exact⟨L,_,hL,e⟩
    obtain⟨L,cap,hL,rfl⟩:=Nv;refine⟨.pointer (some ⟨L.B,L.base+o+i*P.cellsOf e,none⟩),?_,dS.2 ⟨L,hL,by rw[aD]⟩⟩;have hb:(0:Int)≤aw i∧aw i<(len:Int):=⟨by simp,by simp;omega⟩;simp only[Instr.indexAt,Sem.run_bind,run_underlying hu,Result.andThen_ok,asIntOf,Sem.run_pure,hb,and_self,if_true,cA e hc.2];simp only[iP,aL,aE]
   ·cases hf
  ·cases hf
 ·cases hf
theorem JT{t:TypeId}{x ix v:AV}{cx ci:Value}(hx:VR φ x cx)(hi:VR φ ix ci)(hf:nV P t x ix=some v):Pu P φ w (Instr.index t cx ci) v:=by
 unfold nV at hf;split at hf
 ·rename_i k i
  simp only[db]at hi;subst hi;split at hf
  ·rename_i len e cs hu
   split at hf
   ·rename_i hc
    simp only[au]at hc;have fW:i<len:=by have:=ak hc.1;omega
    simp only[mO]at hx;obtain⟨a,rfl,ha⟩:=hx;obtain⟨cv,h1,h2⟩:=kV (w:=w) hc.2 ha hf;have hb:(0:Int)≤aw i∧aw i<(len:Int):=⟨by simp,by simp;omega⟩;refine⟨cv,?_,h2⟩;simp only[Instr.index,Sem.run_bind,run_underlying hu,Result.andThen_ok,asIntOf,Sem.run_pure,hb,and_self,if_true,cA e hc.2];simpa using h1
   ·cases hf
  ·rename_i s hu
   split at hf
   ·rename_i b hb
    cases hf;simp only[fE]at hx;obtain⟨s,rfl,rfl⟩:=hx;obtain⟨c,h1,h2,h3⟩:=GV hb;refine⟨.int .u8 c.toNat,?_,by rw[db,h2];rfl⟩;have hb:(0:Int)≤aw i:=by simp
    simp only[Instr.index,Sem.run_bind,run_underlying hu,Result.andThen_ok,asIntOf,Sem.run_pure,hb,if_true];have :(aw i).toNat=i:=by simp
    rw[this,h1];rfl
   ·cases hf
  ·cases hf
 ·cases hf
theorem Ab{x:AV}{cx:Value}{n:Nat}(hx:VR φ x cx)(hl:hZ x=some n):(Builtin.lenOf cx).run P w= .ok n w:=by
 cases x with
 |bh=>simp at hx;subst hx;simp only[hZ,Option.some.injEq]at hl;subst hl;rfl
 |dq=>simp at hx;obtain⟨a,c,rfl⟩:=hx;simp only[hZ,Option.some.injEq]at hl;subst hl;rfl
 |slice b o len c=>obtain⟨a,cap,rfl⟩:=cR hx;simp only[hZ,Option.some.injEq]at hl;subst hl;rfl
 |str s=>
  simp only[fE]at hx;obtain⟨b,rfl,rfl⟩:=hx;simp only[hZ,Option.some.injEq]at hl;subst hl;simp only[Builtin.lenOf,Sem.run_pure];congr 1;simp[bytesOf]
 |_=>simp[hZ]at hl
theorem pn{b o len:Nat}{c:ur}{cx:Value}(hx:VR φ (.slice b o len c) cx):∃L cap,φ b=some L∧cx= .slice (some ⟨L.B,L.base+o,none⟩) len cap:=by
 cases c with
 |exact c=>rw[dT]at hx;obtain⟨L,hL,e⟩:=hx;exact⟨L,c,hL,e⟩
 |iK j=>rw[dU]at hx;obtain⟨L,hL,e,_⟩:=hx;exact⟨L,_,hL,e⟩
theorem uN(hr:HR N φ h w){x:AV}{cx:Value}{size n m:Nat}{l:List AV}(hx:VR φ x cx)(hm:hZ x=some m)(hnm:n≤m)(hl:qm h size n x=some l):
  ∃arr,(Builtin.firstCells size n cx).run P w= .ok arr w∧bH (VR φ) l arr.toList∧(∀a,a∈l→a.one=true):=by
 cases x with
 |bh=>simp at hx;subst hx;simp only[qm,Option.some.injEq]at hl;subst hl;exact⟨#[],rfl,trivial,by simp⟩
 |dq=>
  simp at hx;obtain⟨a,c,rfl⟩:=hx;simp only[qm,Option.some.injEq]at hl;subst hl;simp only[hZ,Option.some.injEq]at hm;subst hm;have :n=0:=by omega
  subst this;exact⟨#[],by simp[Builtin.firstCells,loadCells,loadCellsFrom],trivial,by simp⟩
 |slice b o len c=>
  obtain⟨L',cap,tc,rfl⟩:=pn hx;simp only[qm]at hl;obtain⟨L,cl,hL,h1,h2,h3,h4⟩:=uH (P:=P) hr tc hl;rw[tc]at hL;cases hL;exact⟨cl.toArray,h1,h2,h4⟩
 | str s=>
  simp only[fE]at hx;obtain⟨b,rfl,rfl⟩:=hx;simp only[qm,Option.some.injEq]at hl;subst hl;refine⟨_,rfl,?_,?_⟩
  ·rw[Array.toList_map,bH.qJ,bH.wM]
   have e:(b.extract 0 n).data.toList=b.data.toList.take n:=by rw[ByteArray.data_extract,aK];simp[List.extract]
   rw[e,bytesOf,←List.map_take,bH.qJ];exact bH.same (fun a=>by simp) _
  ·intro a ha;simp only[List.mem_map]at ha;obtain⟨_,_,rfl⟩:=ha;rfl
 |_=>simp[qm]at hl
end
end Go.AX
