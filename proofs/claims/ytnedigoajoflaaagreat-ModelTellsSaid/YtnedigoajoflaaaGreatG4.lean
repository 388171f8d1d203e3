/-
  sess: numbers and texts on the wire, the small ones: walked.
-/
import Derived.Test.YtnedigoajoflaaaGreatAxI
import Derived.Test.YtnedigoajoflaaaGreatG3
import Derived.Test.YtnedigoajoflaaaGreatG2
import Derived.Test.YtnedigoajoflaaaGreatG0
import Derived.Test.YtnedigoajoflaaaGreatAxA
set_option linter.unusedSimpArgs false
set_option linter.unusedVariables false
set_option linter.unusedSectionVars false
set_option linter.defProp false
set_option maxHeartbeats 8000000
open Nat renaming reduceLT→ab,reduceLeDiff→ae,reduceEqDiff→af,reduceAdd→ag,reduceMul→ah,reduceSub→ai,shiftRight_eq_div_pow→aq,xor_assoc→aw,zero_le→az,zero_add→aA,xor_zero→aB,mod_eq_of_lt→aD,mod_two_eq_zero_or_one→aE,le_refl→aJ,shiftRight_xor_distrib→aO,xor_mod_two_pow→aY,xor_self→aZ,lt_succ_self→aab,sub_self→aad,xor_comm→aae,mod_lt→aan
open Int renaming ofNat→ak,ofNat_fdiv→aaj
open List renaming length_append→al,length_nil→an,getElem?_eq_getElem→ao,mem_singleton→au,take_add_one→aC,getElem?_append_left→aF,foldl_append→aG,mem_of_getElem?→aH,take_length→aK,mem_append→aL,take_append_drop→aM,length_cons→aP,length_take→aR,foldl_cons→aU,take_zero→aV,pairwise_append→aW,flatMap_append→aX,drop_eq_getElem_cons→a_,append_assoc→bg,getElem?_cons_succ→aaa,length_drop→aac,nil_append→aaf,getElem?_eq_none→aai,pairwise_cons→aao,getElem?_drop→aap,getElem?_take→aaq
open Bool renaming not_false→aN,and_eq_true→aQ,not_true→aS,eq_iff_iff→aag,or_eq_true→aah,false_and→aak,and_false→aal,and_true→aam
namespace Go.Proofs.YtnedigoajoflaaaGreat.M
open Go Go.AX
noncomputable section
set_option maxRecDepth 100000
def iX(n:Nat):List Nat:=if h:n=0 then[]else iX (n/256)++[n%256]
termination_by n
decreasing_by omega
theorem Co:iX 0=[]:=by rw[iX];simp
theorem Gh{n:Nat}(h:n≠0):iX n=iX (n/256)++[n%256]:=by conv =>lhs;rw[iX,dif_neg h]
theorem rY:∀(k n:Nat),n<256^k→(iX n).length≤k
  | 0, n, h => by have :n=0:=by simpa using h
                  rw[this,Co];simp
  | k +1,n,h=>by
    by_cases q:n=0
    ·rw[q,Co];simp
    · rw[Gh q]
      have:=rY k (n/256) (by rw[Nat.pow_succ]at h;omega);simp;omega
theorem OD(n:Nat):∀c,c∈iX n→c<256:=by
 induction n using Nat.strongRecOn with
 | ind n ih=>
  by_cases q:n=0
  ·rw[q,Co];simp
  ·rw[Gh q]
   intro c hc;rcases List.mem_append.1 hc with h|h
   ·exact ih (n/256) (by omega) c h
   ·rw[au]at h;omega
def cD(n:Nat):List Nat:=if n<248 then[n]else(247+(iX n).length)::iX n
theorem cZ{n:Nat}(h:n<sR):(cD n).length≤9:=by
 unfold cD;split
 ·simp
 ·have:=rY 8 n h
  simp;omega
theorem OE{n:Nat}(h:n<sR):∀c,c∈cD n→c<256:=by
 unfold cD;have:=rY 8 n h;split
 ·intro c hc;rw[au]at hc;omega
 ·intro c hc
  rcases List.mem_cons.1 hc with q|q
  ·omega
  ·exact OD n c q
theorem u80a:P.underlying 173=some (.array 9 5):=by kernel_rfl
theorem ia80(b:Nat)(kd:IntKind)(i:Nat)(hi:i<9):eu P 173 (.ptr b 0) (.int kd (.ofNat i))=some (.ptr b i):=by
 have hb:Nat.blt i 9=true:=by rw[Nat.blt_eq];exact hi
 unfold eu;simp only[u80a,hb,show eQ P 5=true from YZ,co5,Bool.true_and,aA,Nat.mul_one]
theorem shr8(u:Nat):(ak u).fdiv (ak (2^min 8 IntKind.u64.bits))=ak (u/256):=by
 have :(2^min 8 IntKind.u64.bits:Nat)=256:=rfl;rw[this];exact(aaj u 256).symm
theorem xF(n:Nat):bV .u8 (ak n)=ak (n%256):=by
 show((n:Int))%256=((n%256:Nat):Int);omega
structure PuI(hx:H)(b n:Nat)(s:List Nat)(sb:Nat)(cap:ur)(m:Nat)(ds:List Nat)(tm:T AV)(h:H)(i:Nat)(sO:List Nat):Prop where
 ds:ds=[]
 le:m<sR
 hs:iX n=iX m++sO
 ls:sO.length+i=9
 hl:(iX m).length+1≤i
 t0:tm.get 0=some (.str s)
 t6:tm.get 6=some (.int .u64 (.ofNat m))
 t7:tm.get 7=some (.ptr b 0)
 t8:tm.get 8=some (.int .i64 (.ofNat i))
 t9:tm.get 9=some (.slice sb 0 1 cap)
 t10:tm.get 10=some (.int .i64 (.ofNat 1))
 t11:tm.get 11=some (.int .i64 (.ofNat 0))
 oo:Og hx h [b]
 wr:cj h b=true
 c0:∀j,j<9→∃v,cellAt h b j=some v
 cs:∀j,j<sO.length→cellAt h b (i+j)=(sO[j]?).map fun c=>.int .u8 (.ofNat c)
structure PnI(h0:H)(b n:Nat)(s:List Nat)(cap:ur)(m:Nat)(ds:List Nat)(tm:T AV)(h:H)(i:Nat):Prop where
 ds:ds=[]
 nn:m=1-i
 ii:i≤1
 t0:tm.get 0=some (.str (if i=0 then s else s++cD n))
 t9:tm.get 9=some (.slice b 0 1 cap)
 t10:tm.get 10=some (.int .i64 (.ofNat 1))
 t11:tm.get 11=some (.int .i64 (.ofNat i))
 oo:Og h0 h []
theorem putN(h0:H)(b n:Nat)(s:List Nat)(cap:ur)(hb:b<h0.nx)(hc:cellAt h0 b 0=some (.int .u64 (.ofNat n)))(hn:n<sR)(hs:s.length≤10000):bW P (.enter 103 [.str s,.slice b 0 1 cap] h0) (cQ h0 (.str (s++cD n))):=by
 refine bn (fn:=Tryz.f103) (c:=bD Tryz.f103) Tryz.func103 rfl ?_;show bB P 103 47 none _ _ _ _ _;refine bp ?_;refine kM ?_;refine cn (fun m ds tm h=>∃i,PnI h0 b n s cap m ds tm h i) 1 rfl ⟨0,rfl,rfl,by omega,by exact sT,by exact sT,by exact sT,by exact sT,Og.refl _ _⟩ (fun m ds tm h hI=>?_);obtain⟨i,rfl,rfl,ii,t0,t9,t10,t11,oo⟩:=hI;rcases(show i=0∨i=1 by omega)with rfl|rfl
 ·have c0:=kc hc oo hb (by simp)
  rw[if_pos rfl]at t0;have w1:bV .i64 (ak 0+ak 1)=ak 1:=by kernel_rfl
  by_cases U8:n<248
  ·have fW:decide (n<248)=true:=decide_eq_true U8
   have w8:bV .u8 (ak n)=ak n:=by rw[xF,aD (by omega)]
   have he:cD n=[n]:=by unfold cD;rw[if_pos U8]
   rw[he];obtain⟨h2,cJ⟩:∃h2,h2=h.bq 5 [.int .u8 (.ofNat n)]:=⟨_,rfl⟩;have o2:Og h h2 []:=by rw[cJ];exact(Og.refl _ _).new _ _
   have cv:=uj (h:=h2) (b:=h.nx) (o:=0) (n:=1) (cap:=.exact 1) (l:=[n]) rfl (by simp) (fun j hj=>by
    rw[cJ,bJ,if_pos rfl,aA];match j,hj with
    |0,_=>rfl) (fun c hc=>by rw[au]at hc;omega)
   have ad:=fun h t x y=>pT (a:=s) (b:=[n]) (by simp;omega) h t x y;refine rN ?_ (V t0<|V t9<|V t10<|V t11<|V c0<|V fW<|V w8<|V cJ.symm<|V cv<|V ad<|w1);exact⟨0,by omega,1,rfl,rfl,by omega,by rw[he];exact sT,by exact sT,by exact sT,by exact sT,oo.t o2⟩
  ·have fW:decide (n<248)=false:=decide_eq_false U8
   have hd8:(iX n).length≤8:=rY 8 n hn;have w2:bV .u64 (ak n)=ak n:=vV hn;obtain⟨h2,cJ⟩:∃h2,h2=h.bq 173 [.int .u8 (.ofNat 0),.int .u8 (.ofNat 0),.int .u8 (.ofNat 0),.int .u8 (.ofNat 0),.int .u8 (.ofNat 0),.int .u8 (.ofNat 0),.int .u8 (.ofNat 0),.int .u8 (.ofNat 0),.int .u8 (.ofNat 0)]:=⟨_,rfl⟩;have o2:Og h h2 []:=by rw[cJ];exact(Og.refl _ _).new _ _
   have x2:h2.nx=h.nx+1:=by rw[cJ];rfl
   have Jy:cj h2 h.nx=true:=by rw[cJ,cY,if_pos rfl]
   have c2:∀j,j<9→∃v,cellAt h2 h.nx j=some v:=fun j hj=>by
    obtain⟨v,hv⟩:∃v,(List.replicate 9 (AV.int .u8 (.ofNat 0)))[j]? =some v:=⟨_,ao (by simpa using hj)⟩;exact⟨v,by rw[cJ,bJ,if_pos rfl];exact hv⟩
   refine rN ?_ (V t0<|V t9<|V t10<|V t11<|V c0<|V fW<|cJ.symm);refine cn (fun m ds tm h'=>∃i sO,PuI h2 h.nx n s b cap m ds tm h' i sO) n rfl ⟨9,[],rfl,hn,by simp,rfl,by omega,by exact sT,by exact sT,by exact sT,by exact sT,by exact sT,by exact sT,by exact sT,Og.refl _ _,Jy,c2,fun j hj=>by cases hj⟩ (fun m ds tm h3 hI=>?_);clear t0 t9 t10 t11;obtain⟨i,sO,rfl,hm,U9,ls,hl3,t0,t6,t7,t8,t9,t10,t11,o3,Q6,c3,cs⟩:=hI;have x3:=o3.1.1;have wi:bV .i64 (ak i-ak 1)= .ofNat (i-1):=sD (by omega) (by omega);have ia:=ia80 h.nx .i64 (i-1) (by omega);obtain⟨vo,hvo⟩:=c3 (i-1) (by omega);by_cases hz:0<m
   ·have d1:decide (0<m)=true:=decide_eq_true hz
    have sh:=shr8 m;have w8:=xF m;have J4:=Gh (n:=m) (by omega);have hlm:(iX m).length=(iX (m/256)).length+1:=by rw[J4];simp
    obtain⟨h4,dm⟩:∃h4,h4=h3.cm h.nx (i-1) [.int .u8 (.ofNat (m%256))]:=⟨_,rfl⟩;have Lz:∀j,cellAt h4 h.nx j=if j=i-1 then some (.int .u8 (.ofNat (m%256)))else cellAt h3 h.nx j:=fun j=>by
     rw[dm,b_ Q6];by_cases q:j=i-1
     ·rw[if_pos ⟨rfl,by omega,by simp;omega⟩,if_pos q,q,aad];rfl
     ·rw[if_neg (by simp;omega),if_neg q]
    refine rN ?_ (V t0<|V t6<|V t7<|V t8<|V t9<|V t10<|V t11<|V d1<|V wi<|V w8<|V ia<|V @uZ<|V Q6<|V hvo<|V @EU<|V sh<|dm.symm);refine⟨m/256,by omega,i-1,(m%256)::sO,rfl,by omega,by rw[U9,J4,bg];rfl,by rw[aP];omega,by omega,by exact sT,by exact sT,by exact sT,by exact sT,by exact sT,by exact sT,by exact sT,by rw[dm];exact o3.cm (.inl (by simp)),by rw[dm,bN];exact Q6,fun j hj=>?_,fun j hj=>?_⟩
    ·rw[Lz]
     split
     ·exact⟨_,rfl⟩
     ·exact c3 j hj
    ·rw[Lz]
     cases j with
     |zero=>rw[Nat.add_zero,if_pos rfl];rfl
     |succ j=>
      rw[if_neg (by omega),aaa,show i-1+(j+1)=i+j by omega];exact cs j (by simpa using hj)
   ·have d1:decide (0<m)=false:=decide_eq_false hz
    obtain rfl:m=0:=by omega
    rw[Co,aaf]at U9;have hi8:1≤i∧i≤9:=by omega
    have he:cD n=(247+(iX n).length)::iX n:=by unfold cD;rw[if_neg U8]
    have zo:(iX n).length=9-i:=by rw[U9];omega
    have w5:bV .i64 (ak 255-ak (i-1))= .ofNat (255-(i-1)):=sD (by omega) (by omega);have w6:bV .u8 (ak (255-(i-1)))= .ofNat (247+(iX n).length):=by rw[xF,zo];congr 1;omega
    obtain⟨h4,dm⟩:∃h4,h4=h3.cm h.nx (i-1) [.int .u8 (.ofNat (247+(iX n).length))]:=⟨_,rfl⟩;have Lz:∀j,cellAt h4 h.nx j=if j=i-1 then some (.int .u8 (.ofNat (247+(iX n).length)))else cellAt h3 h.nx j:=fun j=>by
     rw[dm,b_ Q6];by_cases q:j=i-1
     ·rw[if_pos ⟨rfl,by omega,by simp;omega⟩,if_pos q,q,aad];rfl
     ·rw[if_neg (by simp;omega),if_neg q]
    have hlen:(cD n).length=9-(i-1):=by rw[he,aP];omega
    have cv:=uj (h:=h4) (b:=h.nx) (o:=0+(i-1)*1) (n:=9-(i-1)) (cap:=.exact (9-(i-1))) (l:=cD n) hlen (by rw[he];simp) (fun j hj=>by
     rw[Lz,aA,Nat.mul_one,he];cases j with
     |zero=>rw[Nat.add_zero,if_pos rfl];rfl
     |succ j=>
      rw[if_neg (by omega),aaa,show i-1+(j+1)=i+j by omega,U9];exact cs j (by rw[hlen]at hj;omega)) (OE hn)
    rw[aA]at cv;have ID:dF P 173 (.ptr h.nx 0) (some (.int .i64 (.ofNat (i-1)))) none none=some (.slice h.nx (0+(i-1)*1) (9-(i-1)) (.exact (9-(i-1)))):=by
     have hb:Nat.ble (i-1) 9=true:=by rw[Nat.ble_eq];omega
     have hq:Nat.beq 9 (i-1)=false:=by
      cases q:Nat.beq 9 (i-1)with
      |false=>rfl
      |true=>have:=Nat.eq_of_beq_eq_true q;omega
     simp only[dF,u80a,show eQ P 5=true from YZ,nD,j0,CA,hb,hq,co5,Option.isSome,aak]
    have ad:=fun h t x y=>pT (a:=s) (b:=cD n) (by have:=cZ hn;omega) h t x y;refine rN ?_ (V t0<|V t6<|V t7<|V t8<|V t9<|V t10<|V t11<|V d1<|V wi<|V w5<|V w6<|V ia<|V @uZ<|V Q6<|V hvo<|V dm.symm<|V @vF<|V ID<|V cv<|V ad<|w1);refine⟨0,by omega,1,rfl,rfl,by omega,by exact sT,by exact sT,by exact sT,by exact sT,⟨⟨by rw[dm,bI];have:=oo.1.1;omega,fun c hc _=>?_⟩,by rw[dm,dD,o3.2,o2.2,oo.2]⟩⟩;have:=oo.1.1;rw[dm,bT _ _ _ _ (by omega),o3.1.2 c (by omega) (by simp;omega),o2.1.2 c (by omega) (by simp),oo.1.2 c hc (by simp)]
 ·rw[if_neg (by omega)]at t0
  refine rN ?_ (V t0<|V t9<|V t10<|t11);exact⟨rfl,oo⟩
theorem lG(h:H)(n:Nat)(s:List Nat)(hn:n<sR)(hs:s.length≤10000):bW P (.enter 75 [.str s,.int .u64 (.ofNat n)] h) (cQ h (.str (s++cD n))):=by
 refine bn (fn:=Tryz.f75) (c:=bD Tryz.f75) Tryz.func75 rfl ?_;show bB P 75 9 none _ _ _ _ _;refine bp ?_;refine kM ?_;refine((putN _ h.nx n s _ (aab _) (by rw[bJ,if_pos rfl];rfl) hn hs).call P).mono P ?_;rintro v h1 ⟨rfl,o1⟩;refine kM ?_;exact⟨rfl,((Og.refl _ _).new _ _).t o1⟩
theorem vW(h:H)(s u:List Nat)(hu:u.length<100000)(hs:s.length≤9000):bW P (.enter 76 [.str s,.str u] h) (cQ h (.str (s++cD u.length++u))):=by
 have Ih:u.length<sR:=by have :sR=18446744073709551616:=rfl;omega
 have w:bV .u64 (ak u.length)=ak u.length:=vV (by omega);have ad:=fun h t x y=>pT (a:=s++cD u.length) (b:=u) (by rw[al];have:=cZ Ih;omega) h t x y;refine bn (fn:=Tryz.f76) (c:=bD Tryz.f76) Tryz.func76 rfl ?_;show bB P 76 13 none _ _ _ _ _;refine bp ?_;refine rN ?_ (w);refine((putN _ h.nx u.length s _ (aab _) (by rw[bJ,if_pos rfl];rfl) Ih (by omega)).call P).mono P ?_;rintro v h1 ⟨rfl,o1⟩;refine rN ?_ (ad);exact⟨rfl,((Og.refl _ _).new _ _).t o1⟩
theorem Sb{h:H}(n:Nat)(hn:n<256):mq P 95 9 (.slice h.nx 0 1 (.exact 1)) (h.bq 5 [.int .u8 (.ofNat n)])= .val (.str [n]) (h.bq 5 [.int .u8 (.ofNat n)]):=
 uj (l:=[n]) rfl (by simp) (fun j hj=>by
  rw[bJ,if_pos rfl,aA];match j,hj with
  |0,_=>rfl) (fun c hc=>by rw[au]at hc;omega)
theorem rm256(h:H)(t:TypeId)(x y:Operand)(m:Nat):ed P h .rem t x y (.int .u64 (.ofNat m)) (.int .u64 (.ofNat 256))= .val (.int .u64 (.ofNat (m%256))) h:=b_rem _ _ _ rfl
theorem qu256{m:Nat}(hm:m<sR)(h:H)(t:TypeId)(x y:Operand):ed P h .quo t x y (.int .u64 (.ofNat m)) (.int .u64 (.ofNat 256))= .val (.int .u64 (.ofNat (m/256))) h:=by
 rw[b_quo _ _ _ rfl];have :(ak m).tdiv (ak 256)=ak (m/256):=rfl;rw[this,vV (by have :sR=18446744073709551616:=rfl;omega)]
structure RpI(h0:H)(n:Nat)(s:List Nat)(m:Nat)(ds:List Nat)(tm:T AV)(h:H)(sO:List Nat):Prop where
 ds:ds=[]
 le:m<sR
 hs:iX n=iX m++sO
 t0:tm.get 0=some (.str s)
 t1:tm.get 1=some (.int .u64 (.ofNat m))
 t5:tm.get 5=some (.str sO)
 oo:Og h0 h []
theorem rZ(h0:H)(n:Nat)(s:List Nat)(hn:n<sR)(hs:s.length≤10000):bW P (.enter 86 [.str s,.int .u64 (.ofNat n)] h0) (cQ h0 (.str (s++cD n))):=by
 have e0:bytesOf {data:= #[]}=[]:=rfl;refine bn (fn:=Tryz.f86) (c:=bD Tryz.f86) Tryz.func86 rfl ?_;show bB P 86 35 none _ _ _ _ _;refine bp ?_;by_cases U8:n<248
 ·have fW:decide (n<248)=true:=decide_eq_true U8
  have w8:bV .u8 (ak n)=ak n:=by rw[xF,aD (by omega)]
  have he:cD n=[n]:=by unfold cD;rw[if_pos U8]
  rw[he];have cv:=Sb (h:=h0) n (by omega);have ad:=fun h t x y=>pT (a:=s) (b:=[n]) (by simp;omega) h t x y;refine rN ?_ (V e0<|V fW<|V w8<|V cv<|ad);exact⟨rfl,(Og.refl _ _).new _ _⟩
 ·have fW:decide (n<248)=false:=decide_eq_false U8
  have hd8:(iX n).length≤8:=rY 8 n hn;refine rN ?_ (V e0<|fW);refine cn (fun m ds tm h'=>∃sO,RpI h0 n s m ds tm h' sO) n rfl ⟨[],rfl,hn,by simp,by exact sT,by exact sT,by exact sT,Og.refl _ _⟩ (fun m ds tm h3 hI=>?_);obtain⟨sO,rfl,hm,U9,t0,t1,t5,o3⟩:=hI;by_cases hz:0<m
  ·have d1:decide (0<m)=true:=decide_eq_true hz
   have w8:bV .u8 (ak (m%256))=ak (m%256):=by rw[xF,Nat.mod_mod]
   have J4:=Gh (n:=m) (by omega);have hl3:sO.length≤8:=by have:=congrArg List.length U9;simp at this;omega
   have cv:=Sb (h:=h3) (m%256) (aan _ (by omega));have ad:=fun h t x y=>pT (a:=[m%256]) (b:=sO) (by simp;omega) h t x y;have qu:=qu256 hm;refine rN ?_ (V t0<|V t1<|V t5<|V d1<|V rm256<|V qu<|V w8<|V cv<|ad);refine⟨m/256,by omega,_,rfl,by omega,by rw[U9,J4,bg],by exact sT,by exact sT,by exact sT,o3.new _ _⟩
  ·have d1:decide (0<m)=false:=decide_eq_false hz
   obtain rfl:m=0:=by omega
   rw[Co,aaf]at U9;have he:cD n=(247+(iX n).length)::iX n:=by unfold cD;rw[if_neg U8]
   rw[←U9]at t5;have w5:bV .i64 (ak 247+ak (iX n).length)= .ofNat (247+(iX n).length):=cq (by omega);have w6:bV .u8 (ak (247+(iX n).length))= .ofNat (247+(iX n).length):=by rw[xF,aD (by omega)]
   have cv:=Sb (h:=h3) (247+(iX n).length) (by omega);have ad:=fun h t x y=>pT (a:=s) (b:=[247+(iX n).length]) (by simp;omega) h t x y;have ad2:=fun h t x y=>pT (a:=s++[247+(iX n).length]) (b:=iX n) (by simp;omega) h t x y;refine rN ?_ (V t0<|V t1<|V t5<|V d1<|V w5<|V w6<|V cv<|V ad<|ad2);exact⟨by rw[he,bg];rfl,o3.new _ _⟩
theorem vX(h:H)(s u:List Nat)(hu:u.length<100000)(hs:s.length≤9000):bW P (.enter 85 [.str s,.str u] h) (cQ h (.str (s++cD u.length++u))):=by
 have Ih:u.length<sR:=by have :sR=18446744073709551616:=rfl;omega
 have w:bV .u64 (ak u.length)=ak u.length:=vV (by omega);have ad:=fun h t x y=>pT (a:=s++cD u.length) (b:=u) (by rw[al];have:=cZ Ih;omega) h t x y;refine bn (fn:=Tryz.f85) (c:=bD Tryz.f85) Tryz.func85 rfl ?_;show bB P 85 12 none _ _ _ _ _;refine bp ?_;refine rN ?_ (w);refine((rZ _ u.length s Ih (by omega)).call P).mono P ?_;rintro v h1 ⟨rfl,o1⟩;refine rN ?_ (ad);exact⟨rfl,o1⟩
theorem eI{p q r:Prop}(hq:q)(fs:r)(f:r→q→p:=by intro fs hq;(repeat' (first|((with_reducible refine gh ?_);(conv =>whnf);(with_reducible refine⟨?_⟩))|((with_reducible refine cV T9 ?_ rfl rfl ?_);exact rfl;(conv =>arg 4;whnf);(conv =>arg 3;whnf))|((with_reducible refine cV T_ ?_ rfl rfl ?_);exact rfl;(conv =>arg 4;whnf);(conv =>arg 3;whnf))|((with_reducible refine cV Ua ?_ rfl rfl ?_);exact rfl;(conv =>arg 4;whnf);(conv =>arg 3;whnf))|((with_reducible refine bE rfl ?_);(conv =>arg 2;whnf))|((with_reducible first|refine iB ?_ ?_|refine g_ ?_ ?_|refine hP ?_ ?_|refine pL ?_ ?_|refine pM ?_ ?_)<;>intro hb<;>(try simp only[hb]))|((with_reducible show dh _ _ _ _ _ _ _ _ _);first|((with_reducible apply gM);exact rfl;exact rfl)|((with_reducible apply gN);exact rfl;exact rfl;exact rfl)|((with_reducible apply gP);exact rfl;exact rfl;kernel_rfl)|((with_reducible apply gQ);exact rfl;exact rfl;exact rfl)|((with_reducible apply gT);exact rfl;exact rfl;exact rfl)|((with_reducible apply gR);exact rfl;exact rfl;kernel_rfl;exact rfl)|((with_reducible apply gS);exact rfl;exact rfl;kernel_rfl;exact rfl)|((with_reducible refine gL ?_ ?_)))|((with_reducible show il _ _ _ _ _ _);first|(exact cK)|(refine eB ?_ ?_ ?_;exact rfl)|(apply eC;exact rfl;exact rfl)|(refine eD ?_ ?_ ?_ ?_;exact rfl;kernel_rfl)|(apply eF;exact rfl)|(apply eE;exact rfl;exact rfl))|((with_reducible refine bX ?_);kernel_rfl)|(simp only[B,xB,F,ab,ae,af,ag,ah,ai, ↓reduceIte,eq_self,fs])));exact hq):p:=f fs hq
structure Rc where
 m:Nat
 s:Nat
 k:List Nat
 v:List Nat
 c:Nat
 d:Nat
 r:Nat
 t:Bool
def Rc.ok(x:Rc):Prop:=x.m<sR∧x.s<sR∧x.c<sR∧x.d<sR∧x.r<sR
def Rc.av(x:Rc):AV:=.agg [.int .u64 (.ofNat x.m),.int .u64 (.ofNat x.s),.str x.k,.str x.v,.int .u64 (.ofNat x.c),.int .u64 (.ofNat x.d),.int .u64 (.ofNat x.r),.bool x.t]
def yO(t:Bool):Nat:=if t then 0 else 1
def I_(x:Rc):List Nat:=
 ((((([]++cD x.k.length++x.k)++cD x.m)++cD x.s)++cD (yO x.t))++cD x.v.length++x.v)++cD x.c++cD x.r
theorem vY(t:Bool):yO t<sR:=by cases t<;>decide
structure Gi(h:H)(b:Nat)(m s:Nat)(k v:List Nat)(c d r:Nat)(t:Bool):Prop where
 c0:cellAt h b 0=some (.int .u64 (.ofNat m))
 c1:cellAt h b 1=some (.int .u64 (.ofNat s))
 c2:cellAt h b 2=some (.str k)
 c3:cellAt h b 3=some (.str v)
 c4:cellAt h b 4=some (.int .u64 (.ofNat c))
 c5:cellAt h b 5=some (.int .u64 (.ofNat d))
 c6:cellAt h b 6=some (.int .u64 (.ofNat r))
 c7:cellAt h b 7=some (.bool t)
 x:b<h.nx
theorem Gi.bU{h h':H}{b m s:Nat}{k v:List Nat}{c d r:Nat}{t:Bool}(a:Gi h b m s k v c d r t)(o:Og h h' []):Gi h' b m s k v c d r t:=
 ⟨kc a.c0 o a.x (by simp),kc a.c1 o a.x (by simp),kc a.c2 o a.x (by simp),kc a.c3 o a.x (by simp),kc a.c4 o a.x (by simp),kc a.c5 o a.x (by simp),kc a.c6 o a.x (by simp),kc a.c7 o a.x (by simp),Nat.lt_of_lt_of_le a.x o.1.1⟩
theorem Gi.new(h:H)(ty:TypeId)(m s:Nat)(k v:List Nat)(c d r:Nat)(t:Bool):Gi (h.bq ty [.int .u64 (.ofNat m),.int .u64 (.ofNat s),.str k,.str v,.int .u64 (.ofNat c),.int .u64 (.ofNat d),.int .u64 (.ofNat r),.bool t]) h.nx m s k v c d r t:=by
 constructor<;>first|(rw[bJ,if_pos rfl];rfl)|exact aab _
theorem ZV(h:H)(x:Rc)(hx:x.ok)(hk:x.k.length≤60)(hv:x.v.length≤60):bW P (.enter 38 [x.av] h) (cQ h (.str (I_ x))):=by
 obtain⟨m,s,k,v,c,d,r,t⟩:=x;obtain⟨q1,q2,q3,q4,q5⟩:=hx;simp only at q1 q2 q3 q4 q5 hk hv;have e0:bytesOf {data:= #[]}=[]:=rfl;have l1:=cZ q1;have l2:=cZ q2;have l3:=cZ q3;have l5:=cZ q5;have lk:=cZ (n:=k.length) (by have :sR=18446744073709551616:=rfl;omega);have lv:=cZ (n:=v.length) (by have :sR=18446744073709551616:=rfl;omega);have lt:=cZ (vY t);have qt:=vY t;obtain⟨h1,cC⟩:∃h1,h1=h.bq 91 [.int .u64 (.ofNat m),.int .u64 (.ofNat s),.str k,.str v,.int .u64 (.ofNat c),.int .u64 (.ofNat d),.int .u64 (.ofNat r),.bool t]:=⟨_,rfl⟩;have o1:Og h h1 []:=by rw[cC];exact(Og.refl _ _).new _ _
 have a1:Gi h1 h.nx m s k v c d r t:=by rw[cC];exact Gi.new _ _ _ _ _ _ _ _ _ _
 obtain⟨z0,z1,z2,z3,z4,z5,z6,z7,_⟩:=id a1;unfold I_ Rc.av;cases t
 ·obtain⟨kd,qz⟩:∃kd,kd=yO false:=⟨_,rfl⟩
  have qz:kd=1:=qz;subst qz;rw[show yO false=1 from rfl]at lt qt ⊢;refine bn (fn:=Tryz.f38) (c:=bD Tryz.f38) Tryz.func38 rfl ?_;show bB P 38 35 none _ _ _ _ _;refine bp ?_;refine eI ?_ (V cC.symm<|V z0<|V z1<|V z2<|V z3<|V z4<|V z5<|V z6<|V z7<|e0);refine((vW h1 ([]) k (by omega) (by simp only[al,an];omega)).call P).mono P ?_;rintro _ h2 ⟨rfl,p2⟩;have a2:=a1.bU p2;obtain⟨ZW,ZX,ZY,ZZ,Z_,ay5,ay6,ay7,_⟩:=id a2;have t2:=o1.t p2;refine eI ?_ (V z0<|V z1<|V z2<|V z3<|V z4<|V z5<|V z6<|V z7<|V ZW<|V ZX<|V ZY<|V ZZ<|V Z_<|V ay5<|V ay6<|V ay7<|e0);refine((lG h2 m ([]++cD k.length++k) q1 (by simp only[al,an];omega)).call P).mono P ?_;rintro _ h3 ⟨rfl,p3⟩;have a3:=a2.bU p3;obtain⟨by0,by1,by2,by3,by4,by5,by6,by7,_⟩:=id a3;have t3:=t2.t p3;refine eI ?_ (V z0<|V z1<|V z2<|V z3<|V z4<|V z5<|V z6<|V z7<|V by0<|V by1<|V by2<|V by3<|V by4<|V by5<|V by6<|V by7<|e0);refine((lG h3 s ([]++cD k.length++k++cD m) q2 (by simp only[al,an];omega)).call P).mono P ?_;rintro _ h4 ⟨rfl,p4⟩;have a4:=a3.bU p4;obtain⟨cy0,cy1,cy2,cy3,cy4,cy5,cy6,cy7,_⟩:=id a4;have t4:=t3.t p4;refine eI ?_ (V z0<|V z1<|V z2<|V z3<|V z4<|V z5<|V z6<|V z7<|V cy0<|V cy1<|V cy2<|V cy3<|V cy4<|V cy5<|V cy6<|V cy7<|e0);refine((lG h4 1 ([]++cD k.length++k++cD m++cD s) qt (by simp only[al,an];omega)).call P).mono P ?_;rintro _ h5 ⟨rfl,p5⟩;have a5:=a4.bU p5;obtain⟨dy0,dy1,dy2,dy3,dy4,dy5,dy6,dy7,_⟩:=id a5;have t5:=t4.t p5;refine eI ?_ (V z0<|V z1<|V z2<|V z3<|V z4<|V z5<|V z6<|V z7<|V dy0<|V dy1<|V dy2<|V dy3<|V dy4<|V dy5<|V dy6<|V dy7<|e0);refine((vW h5 ([]++cD k.length++k++cD m++cD s++cD 1) v (by omega) (by simp only[al,an];omega)).call P).mono P ?_;rintro _ h6 ⟨rfl,p6⟩;have a6:=a5.bU p6;obtain⟨ey0,ey1,ey2,ey3,ey4,ey5,ey6,ey7,_⟩:=id a6;have t6:=t5.t p6;refine eI ?_ (V z0<|V z1<|V z2<|V z3<|V z4<|V z5<|V z6<|V z7<|V ey0<|V ey1<|V ey2<|V ey3<|V ey4<|V ey5<|V ey6<|V ey7<|e0);refine((lG h6 c ([]++cD k.length++k++cD m++cD s++cD 1++cD v.length++v) q3 (by simp only[al,an];omega)).call P).mono P ?_;rintro _ h7 ⟨rfl,p7⟩;have a7:=a6.bU p7;obtain⟨fy0,fy1,fy2,fy3,fy4,fy5,fy6,fy7,_⟩:=id a7;have t7:=t6.t p7;refine eI ?_ (V z0<|V z1<|V z2<|V z3<|V z4<|V z5<|V z6<|V z7<|V fy0<|V fy1<|V fy2<|V fy3<|V fy4<|V fy5<|V fy6<|V fy7<|e0);refine((lG h7 r ([]++cD k.length++k++cD m++cD s++cD 1++cD v.length++v++cD c) q5 (by simp only[al,an];omega)).call P).mono P ?_;rintro _ h8 ⟨rfl,p8⟩;have a8:=a7.bU p8;obtain⟨gy0,gy1,gy2,gy3,gy4,gy5,gy6,gy7,_⟩:=id a8;have t8:=t7.t p8;refine eI ?_ (V z0<|V z1<|V z2<|V z3<|V z4<|V z5<|V z6<|V z7<|V gy0<|V gy1<|V gy2<|V gy3<|V gy4<|V gy5<|V gy6<|V gy7<|e0);exact⟨rfl,t8⟩
 ·obtain⟨kd,qz⟩:∃kd,kd=yO true:=⟨_,rfl⟩
  have qz:kd=0:=qz;subst qz;rw[show yO true=0 from rfl]at lt qt ⊢;refine bn (fn:=Tryz.f38) (c:=bD Tryz.f38) Tryz.func38 rfl ?_;show bB P 38 35 none _ _ _ _ _;refine bp ?_;refine eI ?_ (V cC.symm<|V z0<|V z1<|V z2<|V z3<|V z4<|V z5<|V z6<|V z7<|e0);refine((vW h1 ([]) k (by omega) (by simp only[al,an];omega)).call P).mono P ?_;rintro _ h2 ⟨rfl,p2⟩;have a2:=a1.bU p2;obtain⟨ZW,ZX,ZY,ZZ,Z_,ay5,ay6,ay7,_⟩:=id a2;have t2:=o1.t p2;refine eI ?_ (V z0<|V z1<|V z2<|V z3<|V z4<|V z5<|V z6<|V z7<|V ZW<|V ZX<|V ZY<|V ZZ<|V Z_<|V ay5<|V ay6<|V ay7<|e0);refine((lG h2 m ([]++cD k.length++k) q1 (by simp only[al,an];omega)).call P).mono P ?_;rintro _ h3 ⟨rfl,p3⟩;have a3:=a2.bU p3;obtain⟨by0,by1,by2,by3,by4,by5,by6,by7,_⟩:=id a3;have t3:=t2.t p3;refine eI ?_ (V z0<|V z1<|V z2<|V z3<|V z4<|V z5<|V z6<|V z7<|V by0<|V by1<|V by2<|V by3<|V by4<|V by5<|V by6<|V by7<|e0);refine((lG h3 s ([]++cD k.length++k++cD m) q2 (by simp only[al,an];omega)).call P).mono P ?_;rintro _ h4 ⟨rfl,p4⟩;have a4:=a3.bU p4;obtain⟨cy0,cy1,cy2,cy3,cy4,cy5,cy6,cy7,_⟩:=id a4;have t4:=t3.t p4;refine eI ?_ (V z0<|V z1<|V z2<|V z3<|V z4<|V z5<|V z6<|V z7<|V cy0<|V cy1<|V cy2<|V cy3<|V cy4<|V cy5<|V cy6<|V cy7<|e0);refine((lG h4 0 ([]++cD k.length++k++cD m++cD s) qt (by simp only[al,an];omega)).call P).mono P ?_;rintro _ h5 ⟨rfl,p5⟩;have a5:=a4.bU p5;obtain⟨dy0,dy1,dy2,dy3,dy4,dy5,dy6,dy7,_⟩:=id a5;have t5:=t4.t p5;refine eI ?_ (V z0<|V z1<|V z2<|V z3<|V z4<|V z5<|V z6<|V z7<|V dy0<|V dy1<|V dy2<|V dy3<|V dy4<|V dy5<|V dy6<|V dy7<|e0);refine((vW h5 ([]++cD k.length++k++cD m++cD s++cD 0) v (by omega) (by simp only[al,an];omega)).call P).mono P ?_;rintro _ h6 ⟨rfl,p6⟩;have a6:=a5.bU p6;obtain⟨ey0,ey1,ey2,ey3,ey4,ey5,ey6,ey7,_⟩:=id a6;have t6:=t5.t p6;refine eI ?_ (V z0<|V z1<|V z2<|V z3<|V z4<|V z5<|V z6<|V z7<|V ey0<|V ey1<|V ey2<|V ey3<|V ey4<|V ey5<|V ey6<|V ey7<|e0);refine((lG h6 c ([]++cD k.length++k++cD m++cD s++cD 0++cD v.length++v) q3 (by simp only[al,an];omega)).call P).mono P ?_;rintro _ h7 ⟨rfl,p7⟩;have a7:=a6.bU p7;obtain⟨fy0,fy1,fy2,fy3,fy4,fy5,fy6,fy7,_⟩:=id a7;have t7:=t6.t p7;refine eI ?_ (V z0<|V z1<|V z2<|V z3<|V z4<|V z5<|V z6<|V z7<|V fy0<|V fy1<|V fy2<|V fy3<|V fy4<|V fy5<|V fy6<|V fy7<|e0);refine((lG h7 r ([]++cD k.length++k++cD m++cD s++cD 0++cD v.length++v++cD c) q5 (by simp only[al,an];omega)).call P).mono P ?_;rintro _ h8 ⟨rfl,p8⟩;have a8:=a7.bU p8;obtain⟨gy0,gy1,gy2,gy3,gy4,gy5,gy6,gy7,_⟩:=id a8;have t8:=t7.t p8;refine eI ?_ (V z0<|V z1<|V z2<|V z3<|V z4<|V z5<|V z6<|V z7<|V gy0<|V gy1<|V gy2<|V gy3<|V gy4<|V gy5<|V gy6<|V gy7<|e0);exact⟨rfl,t8⟩
theorem eJ{p q r:Prop}(hq:q)(fs:r)(f:r→q→p:=by intro fs hq;(repeat' (first|((with_reducible refine gh ?_);(conv =>whnf);(with_reducible refine⟨?_⟩))|((with_reducible refine cV Uc ?_ rfl rfl ?_);exact rfl;(conv =>arg 4;whnf);(conv =>arg 3;whnf))|((with_reducible refine cV Ud ?_ rfl rfl ?_);exact rfl;(conv =>arg 4;whnf);(conv =>arg 3;whnf))|((with_reducible refine cV Ue ?_ rfl rfl ?_);exact rfl;(conv =>arg 4;whnf);(conv =>arg 3;whnf))|((with_reducible refine bE rfl ?_);(conv =>arg 2;whnf))|((with_reducible first|refine iB ?_ ?_|refine g_ ?_ ?_|refine hP ?_ ?_|refine pL ?_ ?_|refine pM ?_ ?_)<;>intro hb<;>(try simp only[hb]))|((with_reducible show dh _ _ _ _ _ _ _ _ _);first|((with_reducible apply gM);exact rfl;exact rfl)|((with_reducible apply gN);exact rfl;exact rfl;exact rfl)|((with_reducible apply gP);exact rfl;exact rfl;kernel_rfl)|((with_reducible apply gQ);exact rfl;exact rfl;exact rfl)|((with_reducible apply gT);exact rfl;exact rfl;exact rfl)|((with_reducible apply gR);exact rfl;exact rfl;kernel_rfl;exact rfl)|((with_reducible apply gS);exact rfl;exact rfl;kernel_rfl;exact rfl)|((with_reducible refine gL ?_ ?_)))|((with_reducible show il _ _ _ _ _ _);first|(exact cK)|(refine eB ?_ ?_ ?_;exact rfl)|(apply eC;exact rfl;exact rfl)|(refine eD ?_ ?_ ?_ ?_;exact rfl;kernel_rfl)|(apply eF;exact rfl)|(apply eE;exact rfl;exact rfl))|((with_reducible refine bX ?_);kernel_rfl)|(simp only[B,xB,F,ab,ae,af,ag,ah,ai, ↓reduceIte,eq_self,fs])));exact hq):p:=f fs hq
theorem U_(h:H)(x:Rc)(hx:x.ok)(hk:x.k.length≤60)(hv:x.v.length≤60):bW P (.enter 46 [x.av] h) (cQ h (.str (I_ x))):=by
 obtain⟨m,s,k,v,c,d,r,t⟩:=x;obtain⟨q1,q2,q3,q4,q5⟩:=hx;simp only at q1 q2 q3 q4 q5 hk hv;have e0:bytesOf {data:= #[]}=[]:=rfl;have l1:=cZ q1;have l2:=cZ q2;have l3:=cZ q3;have l5:=cZ q5;have lk:=cZ (n:=k.length) (by have :sR=18446744073709551616:=rfl;omega);have lv:=cZ (n:=v.length) (by have :sR=18446744073709551616:=rfl;omega);have lt:=cZ (vY t);have qt:=vY t;obtain⟨h1,cC⟩:∃h1,h1=h.bq 91 [.int .u64 (.ofNat m),.int .u64 (.ofNat s),.str k,.str v,.int .u64 (.ofNat c),.int .u64 (.ofNat d),.int .u64 (.ofNat r),.bool t]:=⟨_,rfl⟩;have o1:Og h h1 []:=by rw[cC];exact(Og.refl _ _).new _ _
 have a1:Gi h1 h.nx m s k v c d r t:=by rw[cC];exact Gi.new _ _ _ _ _ _ _ _ _ _
 obtain⟨z0,z1,z2,z3,z4,z5,z6,z7,_⟩:=id a1;unfold I_ Rc.av;cases t
 ·have qt:1<sR:=by decide
  have lt:=cZ qt;rw[show yO false=1 from rfl];refine bn (fn:=Tryz.f46) (c:=bD Tryz.f46) Tryz.func46 rfl ?_;show bB P 46 36 none _ _ _ _ _;refine bp ?_;refine eJ ?_ (V cC.symm<|V z0<|V z1<|V z2<|V z3<|V z4<|V z5<|V z6<|V z7<|e0);refine((vX h1 ([]) k (by omega) (by simp only[al,an];omega)).call P).mono P ?_;rintro _ h2 ⟨rfl,p2⟩;have a2:=a1.bU p2;obtain⟨ZW,ZX,ZY,ZZ,Z_,ay5,ay6,ay7,_⟩:=id a2;have t2:=o1.t p2;refine eJ ?_ (V z0<|V z1<|V z2<|V z3<|V z4<|V z5<|V z6<|V z7<|V ZW<|V ZX<|V ZY<|V ZZ<|V Z_<|V ay5<|V ay6<|V ay7<|e0);refine((rZ h2 m ([]++cD k.length++k) q1 (by simp only[al,an];omega)).call P).mono P ?_;rintro _ h3 ⟨rfl,p3⟩;have a3:=a2.bU p3;obtain⟨by0,by1,by2,by3,by4,by5,by6,by7,_⟩:=id a3;have t3:=t2.t p3;refine eJ ?_ (V z0<|V z1<|V z2<|V z3<|V z4<|V z5<|V z6<|V z7<|V by0<|V by1<|V by2<|V by3<|V by4<|V by5<|V by6<|V by7<|e0);refine((rZ h3 s ([]++cD k.length++k++cD m) q2 (by simp only[al,an];omega)).call P).mono P ?_;rintro _ h4 ⟨rfl,p4⟩;have a4:=a3.bU p4;obtain⟨cy0,cy1,cy2,cy3,cy4,cy5,cy6,cy7,_⟩:=id a4;have t4:=t3.t p4;refine eJ ?_ (V z0<|V z1<|V z2<|V z3<|V z4<|V z5<|V z6<|V z7<|V cy0<|V cy1<|V cy2<|V cy3<|V cy4<|V cy5<|V cy6<|V cy7<|e0);refine((rZ h4 1 ([]++cD k.length++k++cD m++cD s) qt (by simp only[al,an];omega)).call P).mono P ?_;rintro _ h5 ⟨rfl,p5⟩;have a5:=a4.bU p5;obtain⟨dy0,dy1,dy2,dy3,dy4,dy5,dy6,dy7,_⟩:=id a5;have t5:=t4.t p5;refine eJ ?_ (V z0<|V z1<|V z2<|V z3<|V z4<|V z5<|V z6<|V z7<|V dy0<|V dy1<|V dy2<|V dy3<|V dy4<|V dy5<|V dy6<|V dy7<|e0);refine((vX h5 ([]++cD k.length++k++cD m++cD s++cD 1) v (by omega) (by simp only[al,an];omega)).call P).mono P ?_;rintro _ h6 ⟨rfl,p6⟩;have a6:=a5.bU p6;obtain⟨ey0,ey1,ey2,ey3,ey4,ey5,ey6,ey7,_⟩:=id a6;have t6:=t5.t p6;refine eJ ?_ (V z0<|V z1<|V z2<|V z3<|V z4<|V z5<|V z6<|V z7<|V ey0<|V ey1<|V ey2<|V ey3<|V ey4<|V ey5<|V ey6<|V ey7<|e0);refine((rZ h6 c ([]++cD k.length++k++cD m++cD s++cD 1++cD v.length++v) q3 (by simp only[al,an];omega)).call P).mono P ?_;rintro _ h7 ⟨rfl,p7⟩;have a7:=a6.bU p7;obtain⟨fy0,fy1,fy2,fy3,fy4,fy5,fy6,fy7,_⟩:=id a7;have t7:=t6.t p7;refine eJ ?_ (V z0<|V z1<|V z2<|V z3<|V z4<|V z5<|V z6<|V z7<|V fy0<|V fy1<|V fy2<|V fy3<|V fy4<|V fy5<|V fy6<|V fy7<|e0);refine((rZ h7 r ([]++cD k.length++k++cD m++cD s++cD 1++cD v.length++v++cD c) q5 (by simp only[al,an];omega)).call P).mono P ?_;rintro _ h8 ⟨rfl,p8⟩;have a8:=a7.bU p8;obtain⟨gy0,gy1,gy2,gy3,gy4,gy5,gy6,gy7,_⟩:=id a8;have t8:=t7.t p8;refine eJ ?_ (V z0<|V z1<|V z2<|V z3<|V z4<|V z5<|V z6<|V z7<|V gy0<|V gy1<|V gy2<|V gy3<|V gy4<|V gy5<|V gy6<|V gy7<|e0);exact⟨rfl,t8⟩
 ·have qt:0<sR:=by decide
  have lt:=cZ qt;rw[show yO true=0 from rfl];refine bn (fn:=Tryz.f46) (c:=bD Tryz.f46) Tryz.func46 rfl ?_;show bB P 46 36 none _ _ _ _ _;refine bp ?_;refine eJ ?_ (V cC.symm<|V z0<|V z1<|V z2<|V z3<|V z4<|V z5<|V z6<|V z7<|e0);refine((vX h1 ([]) k (by omega) (by simp only[al,an];omega)).call P).mono P ?_;rintro _ h2 ⟨rfl,p2⟩;have a2:=a1.bU p2;obtain⟨ZW,ZX,ZY,ZZ,Z_,ay5,ay6,ay7,_⟩:=id a2;have t2:=o1.t p2;refine eJ ?_ (V z0<|V z1<|V z2<|V z3<|V z4<|V z5<|V z6<|V z7<|V ZW<|V ZX<|V ZY<|V ZZ<|V Z_<|V ay5<|V ay6<|V ay7<|e0);refine((rZ h2 m ([]++cD k.length++k) q1 (by simp only[al,an];omega)).call P).mono P ?_;rintro _ h3 ⟨rfl,p3⟩;have a3:=a2.bU p3;obtain⟨by0,by1,by2,by3,by4,by5,by6,by7,_⟩:=id a3;have t3:=t2.t p3;refine eJ ?_ (V z0<|V z1<|V z2<|V z3<|V z4<|V z5<|V z6<|V z7<|V by0<|V by1<|V by2<|V by3<|V by4<|V by5<|V by6<|V by7<|e0);refine((rZ h3 s ([]++cD k.length++k++cD m) q2 (by simp only[al,an];omega)).call P).mono P ?_;rintro _ h4 ⟨rfl,p4⟩;have a4:=a3.bU p4;obtain⟨cy0,cy1,cy2,cy3,cy4,cy5,cy6,cy7,_⟩:=id a4;have t4:=t3.t p4;refine eJ ?_ (V z0<|V z1<|V z2<|V z3<|V z4<|V z5<|V z6<|V z7<|V cy0<|V cy1<|V cy2<|V cy3<|V cy4<|V cy5<|V cy6<|V cy7<|e0);refine((rZ h4 0 ([]++cD k.length++k++cD m++cD s) qt (by simp only[al,an];omega)).call P).mono P ?_;rintro _ h5 ⟨rfl,p5⟩;have a5:=a4.bU p5;obtain⟨dy0,dy1,dy2,dy3,dy4,dy5,dy6,dy7,_⟩:=id a5;have t5:=t4.t p5;refine eJ ?_ (V z0<|V z1<|V z2<|V z3<|V z4<|V z5<|V z6<|V z7<|V dy0<|V dy1<|V dy2<|V dy3<|V dy4<|V dy5<|V dy6<|V dy7<|e0);refine((vX h5 ([]++cD k.length++k++cD m++cD s++cD 0) v (by omega) (by simp only[al,an];omega)).call P).mono P ?_;rintro _ h6 ⟨rfl,p6⟩;have a6:=a5.bU p6;obtain⟨ey0,ey1,ey2,ey3,ey4,ey5,ey6,ey7,_⟩:=id a6;have t6:=t5.t p6;refine eJ ?_ (V z0<|V z1<|V z2<|V z3<|V z4<|V z5<|V z6<|V z7<|V ey0<|V ey1<|V ey2<|V ey3<|V ey4<|V ey5<|V ey6<|V ey7<|e0);refine((rZ h6 c ([]++cD k.length++k++cD m++cD s++cD 0++cD v.length++v) q3 (by simp only[al,an];omega)).call P).mono P ?_;rintro _ h7 ⟨rfl,p7⟩;have a7:=a6.bU p7;obtain⟨fy0,fy1,fy2,fy3,fy4,fy5,fy6,fy7,_⟩:=id a7;have t7:=t6.t p7;refine eJ ?_ (V z0<|V z1<|V z2<|V z3<|V z4<|V z5<|V z6<|V z7<|V fy0<|V fy1<|V fy2<|V fy3<|V fy4<|V fy5<|V fy6<|V fy7<|e0);refine((rZ h7 r ([]++cD k.length++k++cD m++cD s++cD 0++cD v.length++v++cD c) q5 (by simp only[al,an];omega)).call P).mono P ?_;rintro _ h8 ⟨rfl,p8⟩;have a8:=a7.bU p8;obtain⟨gy0,gy1,gy2,gy3,gy4,gy5,gy6,gy7,_⟩:=id a8;have t8:=t7.t p8;refine eJ ?_ (V z0<|V z1<|V z2<|V z3<|V z4<|V z5<|V z6<|V z7<|V gy0<|V gy1<|V gy2<|V gy3<|V gy4<|V gy5<|V gy6<|V gy7<|e0);exact⟨rfl,t8⟩
theorem Ev.len(x:Ev):x.cs.length=13:=rfl
def OF(L:List Rec)(lo to:Nat)(key fin:List Nat)(s:List Ev)(r:Rec):List Ev:=if lo≤r.main∧r.main≤to∧fL r.kv.key key fin=true then s++[⟨r.main,r.sub,r.dW,r.kv,qB r.kv.key (r.main-1) L⟩]else s
def uk(L:List Rec)(lo to:Nat)(key fin:List Nat)(M:List Rec):List Ev:=M.foldl (OF L lo to key fin) []
theorem Gj{L:List Rec}{lo to:Nat}{key fin:List Nat}{M:List Rec}{i:Nat}{r:Rec}(h:M[i]? =some r):uk L lo to key fin (M.take (i+1))=OF L lo to key fin (uk L lo to key fin (M.take i)) r:=by
 unfold uk;rw[aC,h,aG];rfl
theorem Cp(L:List Rec)(lo to:Nat)(key fin:List Nat)(M:List Rec):∀i,i≤M.length→(uk L lo to key fin (M.take i)).length≤i
 |0,_=>by simp[uk]
 |i+1,h=>by
  obtain⟨x,hx⟩:∃x,M[i]? =some x:=⟨_,ao (by omega)⟩;have:=Cp L lo to key fin M i (by omega);rw[Gj hx];unfold OF;split
  ·rw[al];simp;omega
  ·omega
structure ReI(h0:H)(va:AV)(L:List Rec)(lo to:Nat)(key fin:List Nat)(m:Nat)(ds:List Nat)(tm:T AV)(h:H)(i:Nat)(w:AV):Prop where
 ds:ds=[]
 nn:m=L.length-i
 ii:i≤L.length
 t0:tm.get 0=some va
 t1:tm.get 1=some (.int .u64 (.ofNat lo))
 t2:tm.get 2=some (.int .u64 (.ofNat to))
 t3:tm.get 3=some (.str key)
 t4:tm.get 4=some (.str fin)
 t11:tm.get 11=some w
 t12:tm.get 12=some (.int .i64 (.ofNat i))
 gr:bK 13 h0.nx h w (uk L lo to key fin (L.take i)).length ((uk L lo to key fin (L.take i)).flatMap Ev.cs)
 oo:Og h0 h []
theorem Sc(h0:H)(va:AV)(L:List Rec)(lo to:Nat)(key fin:List Nat)(sl:br h0 va L.length (L.flatMap Rec.cs))(hz:L.length≤900000)(hm:∀r,r∈L→1≤r.main∧r.main≤1000000):
  bW P (.enter 50 [va,.int .u64 (.ofNat lo),.int .u64 (.ofNat to),.str key,.str fin] h0) fun v h'=>Og h0 h' []∧bK 13 h0.nx h' v (uk L lo to key fin L).length ((uk L lo to key fin L).flatMap Ev.cs):=by
 have hlen:=sl.len (P:=P) jl;refine bn (fn:=Tryz.f50) (c:=bD Tryz.f50) Tryz.func50 rfl ?_;show bB P 50 64 none _ _ _ _ _;refine bp ?_;refine kM ?_;refine cn (fun m ds tm h=>∃i w,ReI h0 va L lo to key fin m ds tm h i w) L.length rfl ⟨0,.bh,rfl,rfl,az _,by exact sT,by exact sT,by exact sT,by exact sT,by exact sT,by exact sT,by exact sT,bK.none,Og.refl _ _⟩ (fun m ds tm h hI=>?_);obtain⟨i,w,rfl,rfl,ii,t0,t1,t2,t3,t4,t11,t12,gr,oo⟩:=hI;have nR:=gr.one;by_cases hi:i<L.length
 ·have di:decide (i<L.length)=true:=decide_eq_true hi
  have dX:(i<L.length)=True:=by simp[hi]
  obtain⟨x,hx⟩:∃x,L[i]? =some x:=⟨_,ao hi⟩;have jk:=br.only oo.1 sl (fun _ _=>by simp);have IJ:=jk;obtain⟨bv,ov,cv,rfl,qw,-⟩:=sl.place (by omega);obtain⟨q0,q1,q2,q3,q4,q5,q6,q7⟩:=Rec.at jk hx;have w1:bV .i64 (ak i+ak 1)=ak (i+1):=cq (by omega);have hxm:=hm x (aH hx);have w2:bV .u64 (ak x.main-ak 1)=ak (x.main-1):=by
   have e:ak x.main-ak 1=ak (x.main-1):=by
    show(x.main:Int)-1=((x.main-1:Nat):Int);omega
   rw[e];exact vV (by omega)
  have hs:=Gj (L:=L) (lo:=lo) (to:=to) (key:=key) (fin:=fin) hx;have CQ:=Cp L lo to key fin L i ii;obtain⟨out,Rt⟩:∃out,out=uk L lo to key fin (L.take i):=⟨_,rfl⟩;rw[←Rt]at gr hs CQ;unfold OF at hs;obtain⟨h2,cJ⟩:∃h2,h2=(h.bq 91 [.int .u64 (.ofNat 0),.int .u64 (.ofNat 0),.str [],.str [],.int .u64 (.ofNat 0),.int .u64 (.ofNat 0),.int .u64 (.ofNat 0),.bool false]).cm h.nx 0 x.cs:=⟨_,rfl⟩;have o2:Og h h2 []:=by rw[cJ];exact((Og.refl _ _).new _ _).cm (.inr (aJ _))
  have Y2:bj h2 h.nx 0 x.cs:=by rw[cJ];exact bj.box _ _ _ _
  unfold Rec.cs at cJ Y2;obtain⟨y0,y1,y2,y3,y4,y5,y6,y7⟩:=Y2.u8;have yJ:bK 13 h0.nx h2 w _ _:=gr.bG o2.1.1 (fun d e=>o2.1.2 d (gr.base e).2 (by simp));have stay:¬(lo≤x.main∧x.main≤to∧fL x.kv.key key fin=true)→∀(bZ:T AV) h',Og h2 h' []→bZ.get 0=some (AV.slice bv ov L.length cv)→bZ.get 1=some (.int .u64 (.ofNat lo))→bZ.get 2=some (.int .u64 (.ofNat to))→bZ.get 3=some (.str key)→bZ.get 4=some (.str fin)→bZ.get 11=some w→bZ.get 12=some (.int .i64 (.ofNat (i+1)))→
    ∃m,m<L.length-i∧∃i w,ReI h0 (AV.slice bv ov L.length cv) L lo to key fin m [] bZ h' i w:=fun e bZ h' o g0 g1 g2 g3 g4 g11 g12=>
   ⟨L.length-(i+1),by omega,i+1,w,rfl,rfl,by omega,g0,g1,g2,g3,g4,g11,g12,by rw[hs,if_neg e];exact yJ.bG o.1.1 (fun d e=>o.1.2 d (yJ.base e).2 (by simp)),(oo.t o2).t o⟩
  by_cases p1:lo≤x.main
  ·have d1:decide (lo≤x.main)=true:=decide_eq_true p1
   by_cases p2:x.main≤to
   ·have d2:decide (x.main≤to)=true:=decide_eq_true p2
    refine rN ?_ (V t0<|V t1<|V t2<|V t3<|V t4<|V t11<|V t12<|V hlen<|V di<|V dX<|V q0<|V q1<|V q2<|V q3<|V q4<|V q5<|V q6<|V q7<|V cJ.symm<|V y0<|V y1<|V y2<|V y3<|V y4<|V y5<|V y6<|V y7<|V d1<|d2);refine((inC h2 x.kv.key key fin).call P).mono P ?_;rintro _ h3 ⟨rfl,o3⟩;cases p3:fL x.kv.key key fin with
    |false=>
     refine rN ?_ (V t0<|V t1<|V t2<|V t3<|V t4<|V t11<|V t12<|w1);exact stay (by rw[p3];simp) _ _ o3 (by exact sT) (by exact sT) (by exact sT) (by exact sT) (by exact sT) (by exact sT) (by exact sT)
    | true=>
     rw[if_pos ⟨p1,p2,p3⟩]at hs;have Y3:=gC Y2 o3 (by rw[cJ,bI,dt];omega) (by simp);obtain⟨z0,z1,z2,z3,z4,z5,z6,z7⟩:=Y3.u8;have IK:=o2.t o3;have sl3:=br.only IK.1 IJ (fun _ _=>by simp);have gro3:=(yJ.bG o3.1.1 (fun d e=>o3.1.2 d (yJ.base e).2 (by simp))).one;refine rT ?_ (V t0<|V t1<|V t2<|V t3<|V t4<|V t11<|V t12<|V nR<|V z0<|V z1<|V z2<|V z3<|V z4<|V z5<|V z6<|V z7<|w2);refine((wasC h3 _ L x.kv.key (x.main-1) sl3 (by omega)).call P).mono P ?_;rintro _ h4 ⟨rfl,o4⟩;obtain⟨kv,sQ⟩:∃kv,kv=qB x.kv.key (x.main-1) L:=⟨_,rfl⟩;rw[←sQ]at hs ⊢;obtain⟨e,he⟩:∃e:Ev,e=⟨x.main,x.sub,x.dW,x.kv,kv⟩:=⟨_,rfl⟩;rw[←he]at hs;have Gk:=IK.t o4;have Y4:=gC Y3 o4 (by have:=o3.1.1;rw[cJ,bI,dt]at this;omega) (by simp);obtain⟨a0,a1,a2,a3,a4,a5,a6,a7⟩:=Y4.u8;have S5:bK 13 h0.nx h4 w _ _:=(yJ.bG o3.1.1 (fun d e=>o3.1.2 d (yJ.base e).2 (by simp))).bG o4.1.1 (fun d e=>o4.1.2 d (by have:=(yJ.base e).2;have:=o3.1.1;omega) (by simp));obtain⟨h5,eL⟩:∃h5,h5=h4.bq 112 e.cs:=⟨_,rfl⟩;have o5:Og h4 h5 []:=by rw[eL];exact(Og.refl _ _).new _ _
     have x5:h5.nx=h4.nx+1:=by rw[eL];rfl
     have eZ:h5.row h4.nx 0 13=some e.cs:=gK (o:=0) (cs:=e.cs) (fun j hj=>by rw[eL,bJ,aA,if_pos rfl]) (by simp[Ev.cs]);have S4:bK 13 h0.nx h5 w _ _:=S5.bG o5.1.1 (fun d e=>o5.1.2 d (S5.base e).2 (by simp));rw[he]at eL;unfold Ev.cs at eL;unfold KV.cs;refine rT ?_ (V t0<|V t1<|V t2<|V t3<|V t4<|V t11<|V t12<|V nR<|V z0<|V z1<|V z2<|V z3<|V z4<|V z5<|V z6<|V z7<|V a0<|V a1<|V a2<|V a3<|V a4<|V a5<|V a6<|V a7<|V w2<|V eL.symm<|eZ);have x0:=oo.1.1;have x24:=Gk.1.1;refine dz (m:=1) (new:=e.cs) S4 (by omega) (by omega) (by omega) rfl (by omega) (fun v6 h6 g6 x6 II bl6 Zm=>?_);have Ut:=g6.one;refine rT ?_ (V t0<|V t1<|V t2<|V t3<|V t4<|V t11<|V t12<|V Ut<|w1);refine⟨L.length-(i+1),by omega,i+1,v6,rfl,rfl,by omega,by exact sT,by exact sT,by exact sT,by exact sT,by exact sT,by exact sT,by exact sT,?_,⟨⟨by omega,fun d hd _=>?_⟩,by rw[Zm,o5.2,Gk.2,oo.2]⟩⟩
     ·rw[hs,al,aX]
      simpa using g6
     ·rw[II d (by omega) (fun e=>by have:=(S4.base e).1;omega),o5.1.2 d (by omega) (by simp),Gk.1.2 d (by omega) (by simp),oo.1.2 d hd (by simp)]
   ·have d2:decide (x.main≤to)=false:=decide_eq_false p2
    refine rN ?_ (V t0<|V t1<|V t2<|V t3<|V t4<|V t11<|V t12<|V hlen<|V di<|V dX<|V q0<|V q1<|V q2<|V q3<|V q4<|V q5<|V q6<|V q7<|V cJ.symm<|V y0<|V y1<|V y2<|V y3<|V y4<|V y5<|V y6<|V y7<|V d1<|V d2<|w1);exact stay (fun e=>p2 e.2.1) _ _ (Og.refl _ _) (by exact sT) (by exact sT) (by exact sT) (by exact sT) (by exact sT) (by exact sT) (by exact sT)
  ·have d1:decide (lo≤x.main)=false:=decide_eq_false p1
   refine rN ?_ (V t0<|V t1<|V t2<|V t3<|V t4<|V t11<|V t12<|V hlen<|V di<|V dX<|V q0<|V q1<|V q2<|V q3<|V q4<|V q5<|V q6<|V q7<|V cJ.symm<|V y0<|V y1<|V y2<|V y3<|V y4<|V y5<|V y6<|V y7<|V d1<|w1);exact stay (fun e=>p1 e.1) _ _ (Og.refl _ _) (by exact sT) (by exact sT) (by exact sT) (by exact sT) (by exact sT) (by exact sT) (by exact sT)
 ·have di:decide (i<L.length)=false:=decide_eq_false hi
  obtain rfl:i=L.length:=by omega
  rw[aK]at gr;refine rN ?_ (V t0<|V t1<|V t2<|V t3<|V t4<|V t11<|V t12<|V nR<|V hlen<|di);exact⟨oo,gr⟩
theorem rEvC(h0:H)(iq b:Nat)(L:List Rec)(rev comp:Nat)(v2:AV)(s:jM h0 b L rev comp v2 [] .bh 0)(km:cellAt h0 iq 0=some (.ptr b 0))(lo to:Nat)(key fin:List Nat)(hz:L.length≤900000)(hm:∀r,r∈L→1≤r.main∧r.main≤1000000):
  bW P (.enter 20 [.ptr iq 0,.int .u64 (.ofNat lo),.int .u64 (.ofNat to),.str key,.str fin] h0) fun v h'=>Og h0 h' []∧bK 13 h0.nx h' v (uk L lo to key fin L).length ((uk L lo to key fin L).flatMap Ev.cs):=by
 obtain⟨c0,c1,c2,c3,c4,c5,c6,c7⟩:=s.c.u8;have vo:=s.gv.one;refine bn (fn:=Tryz.f20) (c:=bD Tryz.f20) Tryz.func20 rfl ?_;show bB P 20 23 none _ _ _ _ _;refine bp ?_;refine rN ?_ (V km<|V c0<|vo);refine((Sc h0 v2 L lo to key fin s.gv.slice hz hm).call P).mono P ?_;rintro w h1 ⟨o1,g1⟩;have g1o:=g1.one;refine rN ?_ (g1o);exact⟨o1,g1⟩
structure TlI(h0:H)(va vb:AV)(l:List RQ)(bm iq b:Nat)(m:Nat)(ds:List Nat)(tm:T AV)(h:H)(i:Nat)(L:List Rec)(rev comp:Nat)(v v2:AV):Prop where
 ds:ds=[]
 nn:m=30-i
 ii:i≤l.length
 i30:i≤30
 t0:tm.get 0=some va
 t1:tm.get 1=some vb
 t5:tm.get 5=some (.ptr bm 0)
 t6:tm.get 6=some (.ptr iq 0)
 t7:tm.get 7=some (.int .i64 (.ofNat i))
 rv:rev≤i+1
 hh:R3 h0 h bm iq b (6*i) L rev comp v v2
 hs:qA (6*i) rev L
theorem OG(h0:H)(va vb:AV)(l:List RQ)(sl:br h0 va l.length (l.flatMap Dg))(eH:∀x,x∈l→RZ h0 x)(K:KQ)(tm:T AV)(t0:tm.get 0=some va)(t1:tm.get 1=some vb)(bm iq b:Nat)(h:H)(t5:tm.get 5=some (.ptr bm 0))(t6:tm.get 6=some (.ptr iq 0))(v v2:AV)(hh:R3 h0 h bm iq b 0 [] 1 0 v v2)
  (hK:∀bZ h2 n L rev comp v v2,n≤180→rev≤31→bZ.get 1=some vb→bZ.get 5=some (.ptr bm 0)→bZ.get 6=some (.ptr iq 0)→R3 h0 h2 bm iq b n L rev comp v v2→qA n rev L→K .norm [] bZ h2):
  bB P 3 149 none (bL (bD Tryz.f3) [0,1,1,1]) [] tm h K:=by
 have hlen:=sl.len (P:=P) u22a;have vo:=cH sl;refine rN ?_ (V t0<|V t1<|V t5<|t6);refine cn (fun m ds tm h=>∃i L rev comp v v2,TlI h0 va vb l bm iq b m ds tm h i L rev comp v v2) 30 rfl ⟨0,[],1,0,v,v2,rfl,rfl,az _,by omega,by exact sT,by exact sT,by exact sT,by exact sT,by exact sT,aJ _,hh,sq⟩ (fun m ds tm h hI=>?_);clear t0 t1 t5 t6 hh;obtain⟨i,L,rev,comp,v,v2,rfl,rfl,ii,i30,t0,t1,t5,t6,t7,rv,hh,hs⟩:=hI;have x0:=hh.oo.1.1;have hlm:=hh.md.lt;have hlb0:=hh.s.lt;have Fl:=hh.Tb;by_cases hi:i<l.length
 ·have di:decide (i<l.length)=true:=decide_eq_true hi
  have dX:(i<l.length)=True:=by simp[hi]
  by_cases h30:i<30
  ·have d30:decide (i<30)=true:=decide_eq_true h30
   obtain⟨⟨r,vc,vt,ve⟩,hx⟩:∃x,l[i]? =some x:=⟨_,ao hi⟩;have jk:=br.only hh.oo.1 sl (fun _ _=>by simp);obtain⟨bv,ov,cv,rfl,qw,-⟩:=sl.place (by omega);obtain⟨q0,q1,q2,q3,q4,q5,q6,q7⟩:=RQ.at jk hx;simp only at q0 q1 q2 q3 q4 q5 q6 q7;obtain⟨sc,st,se⟩:=eH _ (aH hx);simp only at sc st se;have sch:=br.only hh.oo.1 sc (fun _ _=>by simp);have sth:=br.only hh.oo.1 st (fun _ _=>by simp);have seh:=br.only hh.oo.1 se (fun _ _=>by simp);have oc:=cH sc;have ot:=cH st;have oe:=cH se;have w1:bV .i64 (ak i+ak 1)=ak (i+1):=cq (by omega);have hcut:=cutC h r vc vt ve sch sth seh;unfold Rq.cs at hcut;refine rN ?_ (V t0<|V t1<|V t5<|V t6<|V t7<|V hlen<|V vo<|V di<|V dX<|V d30<|V q0<|V q1<|V q2<|V q3<|V q4<|V q5<|V q6<|V q7<|V oc<|V ot<|oe);refine(hcut.call P).mono P ?_;rintro u3 h3 ⟨o3,wc,wt,we,hu3,Zb,bc,bt,be⟩;subst hu3;have oc3:=cH Zb.sc;have ot3:=cH Zb.st;have oe3:=cH Zb.se;have x3:=o3.1.1;have H3:=hh.bU o3;have hB:∀tk j,j≤(jP (jU r) tk).length→dI (fy rev L ((jP (jU r) tk).take j)).2∧(fy rev L ((jP (jU r) tk).take j)).2.length≤200000:=fun tk j hj=>hh.ok.hB (by omega) r tk j hj;have JC:L.length≤200000:=by have:=hh.ok.sz.ln;omega
   obtain⟨a,hA⟩:∃a,a=fN rev comp L (jU r):=⟨_,rfl⟩;obtain⟨aok,arev⟩:=RY (comp:=comp) hh.ok (by omega) r;have hs6:=R5 (comp:=comp) hs r;have yY:=ZB h3 bm L rev comp v H3.md H3.gv (fun c e=>(H3.nv c e).1) (jU r) wc wt we Zb hh.ok.mn (by omega) hh.ok.sz.sh JC hB;rw[←hA]at yY aok arev hs6;unfold Rq.cs at yY;refine rN ?_ (V oc3<|V ot3<|V oe3<|V t0<|V t1<|V t5<|V t6<|t7);refine(yY.call P).mono P ?_;rintro _ h5 ⟨xs,rx,v1,hv,MF,kx,md5,gv5,Us,WS,vb5,rb5,xb5⟩;subst hv;have x5:=Us.1.1;have b1:=hh.l0;have b2:=hh.l2;have b3:=hh.lb;have n2':=hh.n2;have Sd:∀c,c<h0.nx→h5.t.get c=h0.t.get c:=fun c hc=>by rw[Us.1.2 c (by omega) (by simp;omega),o3.1.2 c (by omega) (by simp),hh.oo.1.2 c hc (by simp)]
   have sl5:br h5 (.slice bv ov l.length cv) l.length (l.flatMap Dg):=sl.move (by omega) (fun c e=>Sd c (gz sl c e));have sc5:br h5 vc _ _:=sc.move (by omega) (fun c e=>Sd c (gz sc c e));have st5:br h5 vt _ _:=st.move (by omega) (fun c e=>Sd c (gz st c e));have se5:br h5 ve _ _:=se.move (by omega) (fun c e=>Sd c (gz se c e));obtain⟨p0,p1,p2,p3,p4,p5,p6,p7⟩:=RQ.at sl5 hx;simp only at p0 p1 p2 p3 p4 p5 p6 p7;have WX:=cutC h5 r vc vt ve sc5 st5 se5;unfold Rq.cs at WX;refine rN ?_ (V t0<|V t1<|V t5<|V t6<|V t7<|V dX<|V p0<|V p1<|V p2<|V p3<|V p4<|V p5<|V p6<|V p7<|V oc<|V ot<|oe);refine(WX.call P).mono P ?_;rintro u6 h6 ⟨o6,wc2,wt2,we2,hu6,ra6,bc2,bt2,be2⟩;subst hu6;have oc6:=cH ra6.sc;have ot6:=cH ra6.st;have oe6:=cH ra6.se;have x6:=o6.1.1;have s5:jM h5 b L rev comp v2 [] .bh 0:=H3.s.far (d:=bm) x5 (fun c hc hn=>Us.1.2 c hc (by simp[hn])) (fun e=>hh.n2 e.symm) (fun c e=>(hh.nv2 c e).1) (fun c e=>by cases e);have km5:=kc H3.km Us H3.Tb (by simp;exact fun e=>hh.n1 e.symm);have hlb3:=H3.s.lt;have hlm3:=H3.Tb;have s6:=s5.bU o6;have km6:=kc km5 o6 (by omega) (by simp);have hrp:=UW h6 iq b L rev comp v2 s6 km6 (by omega) hh.n3 (jU r) wc2 wt2 we2 ra6 ⟨fun e=>by have:=bc2 _ e;omega,fun e=>by have:=bt2 _ e;omega,fun e=>by have:=be2 _ e;omega⟩ hh.ok.mn (by omega) hh.ok.sz.sh JC (fun tk=>tw_eq _) hB;rw[←hA]at hrp;unfold Rq.cs at hrp;refine rN ?_ (V oc6<|V ot6<|V oe6<|V t0<|V t1<|V t5<|V t6<|t7);refine(hrp.call P).mono P ?_;rintro _ h7 ⟨ys,ry,v3,hv,hys,ky,s7,oo7,vb7⟩;subst hv;have x7:=oo7.1.1;have md6:l_ h6 bm (L++a.R) a.rev a.comp v1:=md5.bU x6 (o6.1.2 bm md5.lt (by simp)) (fun c e=>o6.1.2 c (gv5.base e).2 (by simp));have gv6:bK 8 0 h6 v1 _ _:=gv5.bG x6 (fun c e=>o6.1.2 c (gv5.base e).2 (by simp));have UT:∀c,bA v1=some c→c≠b:=fun c e=>by
    rcases vb5 c e with q|q
    ·exact(hh.nv c q).2
    ·omega
   have md7:l_ h7 bm (L++a.R) a.rev a.comp v1:=md6.bU x7 (oo7.1.2 bm md6.lt (by simp;exact hh.n2)) (fun c e=>oo7.1.2 c (gv6.base e).2 (by simp;exact UT c e));have gv7:bK 8 0 h7 v1 _ _:=gv6.bG x7 (fun c e=>oo7.1.2 c (gv6.base e).2 (by simp;exact UT c e));have km7:=kc km6 oo7 (by omega) (by simp;exact hh.n3);have H7:R3 h0 h7 bm iq b (6*i+6) (L++a.R) a.rev a.comp v1 v3:=
    ⟨md7,gv7,s7,km7,hh.l0,hh.l2,hh.lb,by omega,hh.n1,hh.n2,hh.n3,fun c e=>⟨WS c e,UT c e⟩,fun c e=>by
     rcases vb7 c e with q|q
     ·exact hh.nv2 c q
     ·omega,aok,⟨⟨by omega,fun c hc _=>by rw[oo7.1.2 c (by omega) (by simp;omega),o6.1.2 c (by omega) (by simp),Sd c hc]⟩,oo7.2.trans (o6.2.trans (Us.2.trans (o3.2.trans hh.oo.2)))⟩⟩
   refine rN ?_ (V t0<|V t1<|V t5<|V t6<|V t7<|w1);exact⟨30-(i+1),by omega,i+1,L++a.R,a.rev,a.comp,v1,v3,rfl,rfl,by omega,by omega,by exact sT,by exact sT,by exact sT,by exact sT,by exact sT,by omega,by rw[show 6*(i+1)=6*i+6 by omega];exact H7,by rw[show 6*(i+1)=6*i+6 by omega];exact hs6⟩
  ·have d30:decide (i<30)=false:=decide_eq_false h30
   refine rN ?_ (V t0<|V t1<|V t5<|V t6<|V t7<|V hlen<|V vo<|V di<|d30);exact hK _ h (6*i) L rev comp v v2 (by omega) (by omega) (by exact sT) (by exact sT) (by exact sT) hh hs
 ·have di:decide (i<l.length)=false:=decide_eq_false hi
  refine rN ?_ (V t0<|V t1<|V t5<|V t6<|V t7<|V hlen<|V vo<|di);exact hK _ h (6*i) L rev comp v v2 (by omega) (by omega) (by exact sT) (by exact sT) (by exact sT) hh hs
def qb(c:Nat)(k:List Nat)(l:List Rec):Bool:=l.all fun y=> !(decide (y.kv.key=k)&&decide (y.main≤c))
def lT(c:Nat)(L:List Rec)(i:Nat)(x:Rec):Bool:= !x.dW&&decide (x.main≤c)&&qb c x.kv.key (L.drop (i+1))
def jy(c:Nat)(L:List Rec):Nat→List (Nat×Nat)
 |0=>[]
 |i+1=>match L[i]? with
  |some x=>if lT c L i x then jy c L i++[(x.main,x.sub)]else jy c L i
  |none=>jy c L i
theorem Va{c:Nat}{L:List Rec}{i:Nat}{x:Rec}(h:L[i]? =some x):jy c L (i+1)=if lT c L i x then jy c L i++[(x.main,x.sub)]else jy c L i:=by
 conv =>lhs;unfold jy
 rw[h]
theorem xG(c:Nat)(L:List Rec):∀i,(jy c L i).length≤i
 |0=>aJ _
 | i+1=>by
  have:=xG c L i;unfold jy;split
  ·split
   ·rw[al];simp;omega
   ·omega
  ·omega
theorem xH{c:Nat}{L:List Rec}{p:Nat×Nat}:∀{n:Nat},p∈jy c L n↔∃i x,i<n∧L[i]? =some x∧lT c L i x=true∧p=(x.main,x.sub)
 |0=>by simp[jy]
 | n +1=>by
  have ih:=xH (c:=c) (L:=L) (p:=p) (n:=n);have up:p∈jy c L n→∃i x,i<n+1∧L[i]? =some x∧lT c L i x=true∧p=(x.main,x.sub):=fun h=>by
   obtain⟨i,x,h1,h2⟩:=ih.1 h;exact⟨i,x,by omega,h2⟩
  unfold jy;cases hx:L[n]? with
  |none=>
   simp only;refine⟨up,?_⟩;rintro⟨i,x,h1,h2,h3⟩;refine ih.2 ⟨i,x,?_,h2,h3⟩;by_cases q:i=n
   ·rw[q,hx]at h2;cases h2
   ·omega
  | some y=>
   simp only;cases hk:lT c L n y with
   | true=>
    rw[if_pos rfl,aL,au];constructor
    ·rintro(h|h)
     ·exact up h
     ·exact⟨n,y,by omega,hx,hk,h⟩
    ·rintro⟨i,x,h1,h2,h3⟩
     by_cases q:i=n
     ·rw[q,hx]at h2;cases h2;exact .inr h3.2
     ·exact .inl (ih.2 ⟨i,x,by omega,h2,h3⟩)
   |false=>
    rw[if_neg (by simp)];refine⟨up,?_⟩;rintro⟨i,x,h1,h2,h3⟩;refine ih.2 ⟨i,x,?_,h2,h3⟩;by_cases q:i=n
    ·rw[q,hx]at h2;cases h2;rw[q,hk]at h3;cases h3.1
    ·omega
theorem vZ(c:Nat)(L:List Rec)(r:Rec):dg c (L++[r])=if r.main≤c then fw (dg c L) r else dg c L:=by
 unfold dg;rw[aG];rfl
theorem Vb(m:Nat)(L:List Rec):((dg m L).map (·.1)).Nodup:=by
 have :∀(L:List Rec)(W:View),(W.map (·.1)).Nodup→((L.foldl (fun W r=>if r.main≤m then fw W r else W) W).map (·.1)).Nodup:=by
  intro L;induction L with
  |nil=>intro W h;exact h
  |cons r L ih=>
   intro W h;rw[aU];refine ih _ ?_;split
   ·exact vQ h
   ·exact h
 exact this L [] List.nodup_nil
theorem xI{c:Nat}{k:List Nat}{r:Rec}:∀n(L:List Rec),L.length=n→(dP k (dg c L)=some r↔∃i,L[i]? =some r∧r.kv.key=k∧lT c L i r=true)
 |0,L,h=>by
  have :L=[]:=List.eq_nil_of_length_eq_zero h;subst this;constructor
  ·intro h;cases h
  ·rintro⟨i,h,-⟩;simp at h
 | n +1,L,h=>by
  obtain⟨M,x,rfl⟩:∃M x,L=M++[x]:=⟨L.dropLast,L.getLast (by intro e;rw[e]at h;cases h),(List.dropLast_concat_getLast _).symm⟩;have hM:M.length=n:=by simpa using h
  have ih:=xI (c:=c) (k:=k) (r:=r) n M hM;rw[vZ];have old:∀i,i<M.length→∀y:Rec,y.kv.key=k→(lT c (M++[x]) i y=true↔lT c M i y=true∧¬(x.kv.key=k∧x.main≤c)):=fun i hi y hy=>by
   unfold lT qb;rw[List.drop_append_of_le_length (by omega),List.all_append,hy];simp only[List.all_cons,List.all_nil,aam,aQ,Bool.not_eq_true',Bool.and_eq_false_iff,decide_eq_false_iff_not];constructor
   ·rintro⟨h1,h2,h3⟩
    exact⟨⟨h1,h2⟩,fun h=>by rcases h3 with q|q;exact q h.1;exact q h.2⟩
   ·rintro⟨⟨h1,h2⟩,h3⟩
    refine⟨h1,h2,?_⟩;by_cases q:x.kv.key=k
    ·exact .inr fun h=>h3 ⟨q,h⟩
    ·exact .inl q
  have new:lT c (M++[x]) M.length x=(!x.dW&&decide (x.main≤c)):=by
   unfold lT qb;rw[List.drop_of_length_le (by simp)];simp
  have at_:(M++[x])[M.length]? =some x:=by simp
  have sp:∀i,(M++[x])[i]? =some r→(i<M.length∧M[i]? =some r)∨(i=M.length∧r=x):=fun i hi=>by
   by_cases q:i<M.length
   ·rw[aF q]at hi;exact .inl ⟨q,hi⟩
   ·have :i<(M++[x]).length:=(List.getElem?_eq_some_iff.1 hi).1
    have e:i=M.length:=by simp at this;omega
    subst e;rw[at_]at hi;cases hi;exact .inr ⟨rfl,rfl⟩
  by_cases q:x.main≤c
  ·rw [if_pos q,oX (Vb _ _)]
   by_cases q2:k=x.kv.key
   ·rw[if_pos q2]
    cases ht:x.dW with
    | true=>
     rw[if_pos rfl];constructor
     ·intro h;cases h
     ·rintro⟨i,h1,h2,h3⟩
      rcases sp i h1 with⟨a,b⟩|⟨a,b⟩
      ·exact absurd ⟨q2.symm,q⟩ ((old i a r h2).1 h3).2
      ·subst a;subst b;rw[new,ht]at h3;cases h3
    | false=>
     rw[if_neg (by simp)];constructor
     ·intro h;cases h
      exact⟨M.length,at_,q2.symm,by rw[new,ht,decide_eq_true q];rfl⟩
     ·rintro⟨i,h1,h2,h3⟩
      rcases sp i h1 with⟨a,b⟩|⟨a,b⟩
      ·exact absurd ⟨q2.symm,q⟩ ((old i a r h2).1 h3).2
      ·rw[b]
   ·rw[if_neg q2,ih]
    constructor
    ·rintro⟨i,h1,h2,h3⟩
     have hi:=(List.getElem?_eq_some_iff.1 h1).1;exact⟨i,by rw[aF hi];exact h1,h2,(old i hi r h2).2 ⟨h3,fun e=>q2 e.1.symm⟩⟩
    ·rintro⟨i,h1,h2,h3⟩
     rcases sp i h1 with⟨a,b⟩|⟨a,b⟩
     ·exact⟨i,b,h2,((old i a r h2).1 h3).1⟩
     ·exact absurd (by rw[←h2,b]) q2
  ·rw[if_neg q,ih]
   constructor
   ·rintro⟨i,h1,h2,h3⟩
    have hi:=(List.getElem?_eq_some_iff.1 h1).1;exact⟨i,by rw[aF hi];exact h1,h2,(old i hi r h2).2 ⟨h3,fun e=>q e.2⟩⟩
   ·rintro⟨i,h1,h2,h3⟩
    rcases sp i h1 with⟨a,b⟩|⟨a,b⟩
    ·exact⟨i,b,h2,((old i a r h2).1 h3).1⟩
    ·subst a;subst b
     rw[new,decide_eq_false q]at h3;simp at h3
def EV(o:Option Rec):Nat×Nat:=match o with|some r=>(r.main,r.sub)|none=>(0,0)
def EW(main c:Nat)(L:List Rec)(x:Rec):Bool:=(decide (c<x.main)&&decide (x.main≤main))||decide ((x.main,x.sub)∈jy c L L.length)
def selB(main c:Nat)(L:List Rec)(x:Rec):Bool:=decide (x.main≤max main c)&&(decide (c<x.main)||decide (EV (dP x.kv.key (dg c L))=(x.main,x.sub)))
theorem Se{L:List Rec}(h:L.Pairwise kq){x y:Rec}(hx:x∈L)(hy:y∈L)(h1:x.main=y.main)(h2:x.sub=y.sub):x=y:=by
 obtain⟨i,hi⟩:=List.mem_iff_getElem?.1 hx;obtain⟨j,hj⟩:=List.mem_iff_getElem?.1 hy;obtain⟨li,ei⟩:=List.getElem?_eq_some_iff.1 hi;obtain⟨lj,ej⟩:=List.getElem?_eq_some_iff.1 hj;rw[List.pairwise_iff_getElem]at h;rcases Nat.lt_trichotomy i j with q|q|q
 ·have:=h i j li lj q
  rw[ei,ej]at this;rcases this with q|q<;>omega
 ·subst q;rw[←ei,←ej]
 ·have:=h j i lj li q
  rw[ei,ej]at this;rcases this with q|q<;>omega
theorem Ja{n rev:Nat}{L:List Rec}(hs:qA n rev L)(main c:Nat){x:Rec}(hx:x∈L):EW main c L x=selB main c L x:=by
 have kp:decide ((x.main,x.sub)∈jy c L L.length)=decide (EV (dP x.kv.key (dg c L))=(x.main,x.sub)):=by
  rw[aag,decide_eq_true_iff,decide_eq_true_iff,xH];constructor
  ·rintro⟨i,y,h1,h2,h3,h4⟩
   have hy:=aH h2;have e:x=y:=Se hs.so hx hy (congrArg Prod.fst h4) (congrArg Prod.snd h4);subst e;rw[(xI L.length L rfl).2 ⟨i,h2,rfl,h3⟩];rfl
  ·intro h
   cases q:dP x.kv.key (dg c L)with
   |none=>
    rw[q]at h;have:=(hs.nm x hx).lo;have h1:(0:Nat)=x.main:=congrArg Prod.fst h;omega
   |some r=>
    rw[q]at h;obtain⟨i,h1,h2,h3⟩:=(xI L.length L rfl).1 q;exact⟨i,r,(List.getElem?_eq_some_iff.1 h1).1,h1,h3,h.symm⟩
 have le:decide (EV (dP x.kv.key (dg c L))=(x.main,x.sub))=true→x.main≤c:=fun h=>by
  rw[←kp,decide_eq_true_iff,xH]at h;obtain⟨i,y,h1,h2,h3,h4⟩:=h;unfold lT at h3;simp only[aQ,decide_eq_true_iff]at h3;have :x.main=y.main:=congrArg Prod.fst h4;omega
 unfold EW selB;rw[kp,aag];simp only[aah,aQ];constructor
 ·rintro(⟨h1,h2⟩|h)
  ·have Ls:=of_decide_eq_true h1
   have Cy:=of_decide_eq_true h2;exact⟨decide_eq_true (by omega),.inl h1⟩
  ·have:=le h
   exact⟨decide_eq_true (by omega),.inr h⟩
 ·rintro⟨h1,h2|h2⟩
  ·have Ls:=of_decide_eq_true h1
   have Cy:=of_decide_eq_true h2;exact .inl ⟨h2,decide_eq_true (by omega)⟩
  ·exact .inr h2
def K8(x y:Rec):Bool:=decide (x.main<y.main)||(decide (x.main=y.main)&&decide (x.sub<y.sub))
def tG(x y:Rec):Bool:=if x.kv.key=y.kv.key then K8 x y else cE x.kv.key y.kv.key
def lU(x y:Rec):Prop:=x.kv.key<y.kv.key∨x.kv.key=y.kv.key∧kq x y
theorem EX(x y:Rec):tG x y=true↔lU x y:=by
 unfold tG lU;have irr:¬y.kv.key<y.kv.key:=List.lt_irrefl _;by_cases q:x.kv.key=y.kv.key
 ·rw[if_pos q,q]
  unfold K8 kq;simp only[aah,aQ,decide_eq_true_iff,irr,false_or,true_and]
 ·rw[if_neg q,sJ]
  constructor
  ·exact .inl
  ·rintro(h|h)
   ·exact h
   ·exact absurd h.1 q
theorem Jb{a b c:Rec}(h1:kq a b)(h2:kq b c):kq a c:=by
 unfold kq at *;omega
theorem lU.trans{a b c:Rec}(h1:lU a b)(h2:lU b c):lU a c:=by
 rcases h1 with h1|⟨e1,h1⟩<;>rcases h2 with h2|⟨e2,h2⟩
 ·exact .inl (List.lt_trans h1 h2)
 ·exact .inl (e2▸h1)
 ·exact .inl (e1▸h2)
 ·exact .inr ⟨e1.trans e2,Jb h1 h2⟩
theorem lU.irr{a:Rec}:¬lU a a:=by
 rintro(h|⟨-,h⟩)
 ·exact List.lt_irrefl _ h
 ·unfold kq at h;omega
theorem lU.total{a b:Rec}(dH:¬(a.main=b.main∧a.sub=b.sub))(h:¬lU a b):lU b a:=by
 unfold lU at h ⊢;by_cases q:a.kv.key=b.kv.key
 ·refine .inr ⟨q.symm,?_⟩
  have :¬kq a b:=fun h2=>h (.inr ⟨q,h2⟩);unfold kq at *;omega
 ·refine .inl ?_
  have :¬a.kv.key<b.kv.key:=fun h2=>h (.inl h2);exact Std.lt_of_le_of_ne (List.not_lt.1 this) (fun e=>q e.symm)
theorem Vc{a b:List Rec}(ha:a.Pairwise lU)(hb:b.Pairwise lU)(h:∀x,x∈a↔x∈b):a=b:=by
 have nd:∀l:List Rec,l.Pairwise lU→l.Nodup:=fun l hl=>hl.imp (fun{x y} h e=>by rw[e]at h;exact absurd h lU.irr);have hp:a.Perm b:=(List.perm_ext_iff_of_nodup (nd a ha) (nd b hb)).2 h;refine List.Perm.eq_of_pairwise (le:=fun x y=>x=y∨lU x y) (fun x y _ _ h1 h2=>?_) (ha.imp fun h=>.inr h) (hb.imp fun h=>.inr h) hp;rcases h1 with rfl|h1
 ·rfl
 ·rcases h2 with rfl|h2
  ·rfl
  ·exact absurd (lU.trans h1 h2) lU.irr
def ik(x:Rec)(out:List Rec):Nat→Nat
 |0=>0
 |k+1=>match out[k]? with
  |some y=>if tG x y then ik x out k else k+1
  |none=>k+1
def v8(x:Rec)(out:List Rec):List Rec:=out.take (ik x out out.length)++x::out.drop (ik x out out.length)
theorem Gl(x:Rec)(out:List Rec):∀k,ik x out k≤k
 |0=>aJ _
 |k+1=>by
  have:=Gl x out k;unfold ik;split
  ·split<;>omega
  ·omega
theorem MX{x:Rec}{out:List Rec}:∀{k j:Nat}{y:Rec},ik x out k≤j→j<k→out[j]? =some y→tG x y=true
 | k+1,j,y,h,hj,hy=>by
  unfold ik at h;cases q:out[k]? with
  |none=>rw[q]at h;simp only at h;omega
  | some z=>
   rw[q]at h;simp only at h;split at h
   ·rename_i q2
    by_cases e:j=k
    ·subst e;rw[q]at hy;cases hy;exact q2
    ·exact MX h (by omega) hy
   ·omega
theorem MY{x:Rec}{out:List Rec}:∀{k j:Nat}{y:Rec},ik x out k=j+1→out[j]? =some y→tG x y=false
 |0,j,y,h,_=>by cases h
 | k+1,j,y,h,hy=>by
  unfold ik at h;cases q:out[k]? with
  |none=>
   rw[q]at h;simp only at h;have :k=j:=by omega
   subst this;rw[q]at hy;cases hy
  | some z=>
   rw[q]at h;simp only at h;split at h
   ·exact MY h hy
   ·rename_i q2
    have :k=j:=by omega
    subst this;rw[q]at hy;cases hy;simpa using q2
theorem Jc(x:Rec)(out:List Rec):(v8 x out).length=out.length+1:=by
 have:=Gl x out out.length;unfold v8;rw[al,aR,aP,aac];omega
theorem Jd(x y:Rec)(out:List Rec):y∈v8 x out↔y=x∨y∈out:=by
 unfold v8;rw[aL,List.mem_cons];have e:y∈out↔y∈out.take (ik x out out.length)∨y∈out.drop (ik x out out.length):=by rw[←aL,aM]
 rw[e];constructor
 ·rintro(h|h|h)
  ·exact .inr (.inl h)
  ·exact .inl h
  ·exact .inr (.inr h)
 ·rintro(h|h|h)
  ·exact .inr (.inl h)
  ·exact .inl h
  ·exact .inr (.inr h)
theorem Vd{x:Rec}{out:List Rec}(so:out.Pairwise lU)(dH:∀y,y∈out→¬(x.main=y.main∧x.sub=y.sub)):(v8 x out).Pairwise lU:=by
 obtain⟨p,hp⟩:∃p,p=ik x out out.length:=⟨_,rfl⟩;have hle:=Gl x out out.length;unfold v8;rw[←hp]at hle ⊢;rw[aW,aao];have hi:∀b,b∈out.drop p→lU x b:=fun b hb=>by
  obtain⟨j,hj⟩:=List.mem_iff_getElem?.1 hb;rw[aap]at hj;exact(EX _ _).1 (MX (by rw[←hp];omega) (List.getElem?_eq_some_iff.1 hj).1 hj)
 have lo:∀a,a∈out.take p→lU a x:=fun a ha=>by
  obtain⟨j,hj⟩:=List.mem_iff_getElem?.1 ha;rw[aaq]at hj;split at hj
  ·rename_i hjp
   have hl:p-1<out.length:=by omega
   have WY:=ao hl;have hn:tG x out[p-1]=false:=MY (k:=out.length) (j:=p-1) (by rw[←hp];omega) WY;have h1:lU out[p-1] x:=lU.total (dH _ (aH WY)) (fun h=>by rw[(EX _ _).2 h]at hn;cases hn);obtain⟨lj,ej⟩:=List.getElem?_eq_some_iff.1 hj;by_cases e:j=p-1
   ·subst e;rw[←ej];exact h1
   ·have:=(List.pairwise_iff_getElem.1 so) j (p-1) lj hl (by omega)
    rw[ej]at this;exact this.trans h1
  ·cases hj
 refine⟨so.sublist (List.take_sublist _ _),⟨hi,so.sublist (List.drop_sublist _ _)⟩,fun a ha b hb=>?_⟩;rcases List.mem_cons.1 hb with rfl|hb
 ·exact lo a ha
 ·exact(lo a ha).trans (hi b hb)
def yP(main c:Nat)(L:List Rec)(out:List Rec)(x:Rec):List Rec:=if EW main c L x then v8 x out else out
def kP(main c:Nat)(L M:List Rec):List Rec:=M.foldl (yP main c L) []
theorem MZ{main c:Nat}{L M:List Rec}{i:Nat}{x:Rec}(h:M[i]? =some x):kP main c L (M.take (i+1))=yP main c L (kP main c L (M.take i)) x:=by
 unfold kP;rw[aC,h,aG];rfl
theorem xJ(main c:Nat)(L M:List Rec):∀i,i≤M.length→(kP main c L (M.take i)).length≤i
 |0,_=>by simp[kP]
 |i+1,h=>by
  obtain⟨x,hx⟩:∃x,M[i]? =some x:=⟨_,ao (by omega)⟩;have:=xJ main c L M i (by omega);rw[MZ hx];unfold yP;split
  ·rw[Jc];omega
  ·omega
structure HiI(main c:Nat)(L M:List Rec)(out:List Rec):Prop where
 so:out.Pairwise lU
 mem:∀x,x∈out↔x∈M∧EW main c L x=true
theorem M6{main c:Nat}{L:List Rec}:∀(M M0:List Rec)(out:List Rec),(M0++M).Pairwise kq→HiI main c L M0 out→HiI main c L (M0++M) (M.foldl (yP main c L) out)
 |[],M0,out,_,h=>by rw[List.append_nil];exact h
 | r::M,M0,out,ha,h=>by
  rw[aU,show M0++r::M=(M0++[r])++M by simp];refine M6 M _ _ (by simpa using ha) ?_;unfold yP;cases q:EW main c L r with
  | true=>
   rw[if_pos rfl];have dH:∀y,y∈out→¬(r.main=y.main∧r.sub=y.sub):=fun y hy e=>by
    have hy:=((h.mem y).1 hy).1;rw[aW]at ha;have:=ha.2.2 y hy r (by simp);unfold kq at this;omega
   refine⟨Vd h.so dH,fun x=>?_⟩;rw[Jd,h.mem,aL,au];constructor
   ·rintro(rfl|h)
    ·exact⟨.inr rfl,q⟩
    ·exact⟨.inl h.1,h.2⟩
   ·rintro⟨h1|h1,h2⟩
    ·exact .inr ⟨h1,h2⟩
    ·exact .inl h1
  | false=>
   rw[if_neg (by simp)];refine⟨h.so,fun x=>?_⟩;rw[h.mem,aL,au];constructor
   ·rintro⟨h1,h2⟩;exact⟨.inl h1,h2⟩
   ·rintro⟨h1|h1,h2⟩
    ·exact⟨h1,h2⟩
    ·subst h1;rw[q]at h2;cases h2
def K9(main c:Nat)(L M:List Rec):List Rec:=M.filter (selB main c L)
def yQ(ks:List (List Nat))(S:List Rec):List Rec:=ks.flatMap fun k=>S.filter fun x=>decide (x.kv.key=k)
theorem Sf{n rev:Nat}{L:List Rec}(hs:qA n rev L)(main c:Nat){ks:List (List Nat)}(nd:ks.Nodup)(hk:∀k,k∈ks↔∃x,x∈K9 main c L L∧x.kv.key=k):kP main c L L=yQ (fJ ks) (K9 main c L L):=by
 have hi:=M6 (main:=main) (c:=c) (L:=L) L [] [] (by simpa using hs.so) ⟨List.Pairwise.nil,fun x=>by simp⟩;rw[aaf]at hi;have hp:=fe ks;refine Vc hi.so ?_ fun x=>?_
 ·unfold yQ
  rw[List.pairwise_flatMap];refine⟨fun k _=>?_,?_⟩
  ·have h1:(K9 main c L L).Pairwise kq:=hs.so.filter _
   refine(h1.filter _).imp_of_mem fun{a b} ha hb h=>?_;have ka:=of_decide_eq_true (List.mem_filter.1 ha).2;have kb:=of_decide_eq_true (List.mem_filter.1 hb).2;exact .inr ⟨ka.trans kb.symm,h⟩
  ·have nd2:(fJ ks).Nodup:=hp.nodup_iff.2 nd
   refine((pR ks).and nd2).imp fun{a b} h x hx y hy=>?_;have ka:=of_decide_eq_true (List.mem_filter.1 hx).2;have kb:=of_decide_eq_true (List.mem_filter.1 hy).2;have h1:=(xy a b).1 h.1;exact .inl (by rw[ka,kb];exact Std.lt_of_le_of_ne h1 h.2)
 ·show x∈kP main c L L↔_
  unfold yQ;rw[List.mem_flatMap];refine(hi.mem x).trans ?_;constructor
  ·rintro⟨h1,h2⟩
   rw[Ja hs main c h1]at h2;have hx:x∈K9 main c L L:=List.mem_filter.2 ⟨h1,h2⟩;exact⟨x.kv.key,hp.mem_iff.2 ((hk _).2 ⟨x,hx,rfl⟩),List.mem_filter.2 ⟨hx,decide_eq_true rfl⟩⟩
  ·rintro⟨k,-,h⟩
   obtain⟨h1,-⟩:=List.mem_filter.1 h;obtain⟨h2,h3⟩:=List.mem_filter.1 h1;exact⟨h2,by rw[Ja hs main c h2];exact h3⟩
theorem EY{a b:Nat}:∀{M:List Rec},(∀x,x∈M→(x.main≤a↔x.main≤b))→dg a M=dg b M:=by
 have :∀(M:List Rec)(W:View),(∀x,x∈M→(x.main≤a↔x.main≤b))→M.foldl (fun W r=>if r.main≤a then fw W r else W) W=M.foldl (fun W r=>if r.main≤b then fw W r else W) W:=by
  intro M;induction M with
  |nil=>intro W _;rfl
  | cons r M ih=>
   intro W h;rw[aU,aU];have e:(if r.main≤a then fw W r else W)=if r.main≤b then fw W r else W:=by
    by_cases q:r.main≤a
    ·rw[if_pos q,if_pos ((h r (by simp)).1 q)]
    ·rw[if_neg q,if_neg (fun e=>q ((h r (by simp)).2 e))]
   rw[e];exact ih _ (fun x hx=>h x (by simp[hx]))
 exact fun{M} h=>this M [] h
theorem Je{m:Nat}{A B:List Rec}(h:∀x,x∈B→m<x.main):dg m (A++B)=dg m A:=by
 unfold dg;rw[aG];generalize A.foldl (fun W r=>if r.main≤m then fw W r else W) []=W;induction B generalizing W with
 |nil=>rfl
 |cons r B ih=>
  rw[aU,if_neg (by have:=h r (by simp);omega)];exact ih (fun x hx=>h x (by simp[hx])) W
structure EvK(L:List Rec)(lo to:Nat)(key fin:List Nat)(i:Nat)(s:KY):Prop where
 v:s.v=dg (s.main-1) (L.take i)
 w:s.w.foldl fw s.v=dg s.main (L.take i)
 mx:∀x,x∈L.take i→x.main≤to→x.main≤s.main
 le:s.main≤to
 ml:∀x,x∈L.drop i→s.main≤x.main
 out:s.out=uk L lo to key fin (L.take i)
theorem Sg{L:List Rec}(lo to:Nat)(key fin:List Nat)(so:L.Pairwise kq)(lo1:∀x,x∈L→1≤x.main):∀i,i≤L.length→EvK L lo to key fin i (MW lo to key fin (L.take i))
 |0,_=>by
  rw[aV];exact⟨rfl,rfl,fun x hx=>(by rw[aV]at hx;cases hx),az _,fun x _=>az _,rfl⟩
 | i +1,hi=>by
  obtain⟨r,hr⟩:∃r,L[i]? =some r:=⟨_,ao (by omega)⟩;have ih:=Sg lo to key fin so lo1 i (by omega);have hrL:=aH hr;have r1:=lo1 r hrL;have jS:L.drop i=r::L.drop (i+1):=by
   rw[a_ (by omega)];congr 1;rw[ao (by omega)]at hr;exact Option.some.inj hr
  have Gv:L.take (i+1)=L.take i++[r]:=by rw[aC,hr];rfl
  have SW:(L.take i++L.drop i).Pairwise kq:=by rw[aM];exact so
  rw[aW,jS,aao]at SW;have hbef:∀x,x∈L.take i→x.main≤r.main:=fun x hx=>by
   have:=SW.2.2 x hx r (by simp);unfold kq at this;omega
  have Ve:∀x,x∈L.drop (i+1)→r.main≤x.main:=fun x hx=>by
   have:=SW.2.1.1 x hx;unfold kq at this;omega
  rw[Sa hr];obtain⟨s,hs⟩:∃s,s=MW lo to key fin (L.take i):=⟨_,rfl⟩;rw[←hs]at ih ⊢;obtain⟨v,w,mx,le,ml,out⟩:=ih;have smr:s.main≤r.main:=ml r (by rw[jS];simp);by_cases p:r.main≤to
  ·rw [if_pos p]
   -- what there is ahead of this Main
   have key1:(ku s r).v=dg (r.main-1) L∧(ku s r).main=r.main∧(ku s r).w.foldl fw (ku s r).v=dg r.main (L.take i)∧(ku s r).out=s.out:=by
    have full:dg (r.main-1) (L.take i)=dg (r.main-1) L:=by
     conv =>rhs;rw[←aM i L]
     rw[Je (fun x hx=>by
      rw[jS]at hx;rcases List.mem_cons.1 hx with rfl|hx
      ·omega
      ·have:=Ve x hx;omega)]
    unfold ku;by_cases q:r.main=s.main
    ·rw[if_pos q]
     refine⟨?_,q.symm,?_,rfl⟩
     ·rw[v,←q,full]
     ·rw[w,q]
    ·rw[if_neg q]
     have cg:dg s.main (L.take i)=dg (r.main-1) (L.take i):=EY (fun x hx=>by
      have:=hbef x hx;constructor
      ·intro h;omega
      ·intro h;exact mx x hx (by omega))
     have cg2:dg (r.main-1) (L.take i)=dg r.main (L.take i):=EY (fun x hx=>by
      constructor
      ·intro h;omega
      ·intro h;have:=mx x hx (by omega);omega)
     refine⟨?_,rfl,?_,rfl⟩
     ·show s.w.foldl fw s.v=_
      rw[w,cg,full]
     ·show([]:List Rec).foldl fw (s.w.foldl fw s.v)=_
      rw[List.foldl_nil,w,cg,cg2]
   obtain⟨k1,k2,k3,k4⟩:=key1;have full2:dg (r.main-1) (L.take (i+1))=dg (r.main-1) L:=by
    conv =>rhs;rw[←aM (i+1) L]
    rw[Je (fun x hx=>by have:=Ve x hx;omega)]
   unfold me tF;refine⟨?_,?_,?_,?_,?_,?_⟩
   ·show(ku s r).v=dg ((ku s r).main-1) (L.take (i+1))
    rw[k1,k2,full2]
   ·show((ku s r).w++[r]).foldl fw (ku s r).v=dg (ku s r).main (L.take (i+1))
    rw[aG,k3,k2,Gv,vZ,if_pos (aJ _)];rfl
   ·intro x hx _
    show x.main≤(ku s r).main;rw[k2];rw[Gv]at hx;rcases List.mem_append.1 hx with q|q
    ·exact hbef x q
    ·rw[au]at q;subst q;exact aJ _
   ·show(ku s r).main≤to
    rw[k2];exact p
   ·intro x hx
    show(ku s r).main≤x.main;rw[k2];exact Ve x hx
   ·show(ku s r).out++_=uk L lo to key fin (L.take (i+1))
    rw[Gj hr,k4,out,k2];unfold OF;by_cases q:lo≤r.main∧fL r.kv.key key fin=true
    ·rw[if_pos q,if_pos ⟨q.1,p,q.2⟩]
     unfold Dh;rw[U7,k1]
    ·rw[if_neg q,if_neg (fun e=>q ⟨e.1,e.2.2⟩),List.append_nil]
  ·rw[if_neg p]
   refine⟨?_,?_,?_,le,fun x hx=>by have:=Ve x hx;omega,?_⟩
   ·rw[v,Gv,vZ,if_neg (by omega)]
   ·rw[w,Gv,vZ,if_neg (by omega)]
   ·intro x hx hxt
    rw[Gv]at hx;rcases List.mem_append.1 hx with q|q
    ·exact mx x q hxt
    ·rw[au]at q;subst q;exact absurd hxt p
   ·rw[Gj hr,out]
    unfold OF;rw[if_neg (fun e=>p e.2.1)]
theorem ev_out{n rev:Nat}{L:List Rec}(hs:qA n rev L)(lo to:Nat)(key fin:List Nat):(MW lo to key fin L).out=uk L lo to key fin L:=by
 have:=(Sg lo to key fin hs.so (fun x hx=>(hs.nm x hx).lo) L.length (aJ _)).out;rwa[aK]at this
theorem Ev.at{h:H}{b o n:Nat}{cap:ur}{l:List Ev}(sl:br h (.slice b o n cap) n (l.flatMap Ev.cs)){i:Nat}{x:Ev}(hx:l[i]? =some x):∀k,k<13→cellAt h b (o+(i*13+k))=x.cs[k]? :=fun k hk=>jv Ev.len sl hx hk
theorem u55a:P.underlying 55=some (.slice 112):=by kernel_rfl
structure SeI(h0:H)(v1 v2:AV)(n:Nat)(m:Nat)(ds:List Nat)(tm:T AV)(h:H)(i:Nat):Prop where
 ds:ds=[]
 nn:m=n-i
 ii:i≤n
 t0:tm.get 0=some v1
 t1:tm.get 1=some v2
 t5:tm.get 5=some (.int .i64 (.ofNat i))
 he:h=h0
theorem sameEv(h0:H)(v1 v2:AV)(l:List Ev)(s1:br h0 v1 l.length (l.flatMap Ev.cs))(s2:br h0 v2 l.length (l.flatMap Ev.cs))(hz:l.length≤1000000):bW P (.enter 18 [v1,v2] h0) (cQ h0 (.bool true)):=by
 have Ti:=s1.len (P:=P) u55a;have Fl:=s2.len (P:=P) u55a;refine bn (fn:=Tryz.f18) (c:=bD Tryz.f18) Tryz.func18 rfl ?_;show bB P 18 26 none _ _ _ _ _;refine bp ?_;repeat' (first|((with_reducible refine gh ?_);(conv =>whnf);(with_reducible refine⟨?_⟩))|((with_reducible refine bE rfl ?_);(conv =>arg 2;whnf))|((with_reducible first|refine iB ?_ ?_|refine g_ ?_ ?_|refine hP ?_ ?_)<;>intro hb<;>(try simp only[hb]))|(simp only[B,xB,F,ab,ae,af,ag,ah,ai, ↓reduceIte,eq_self,Ti,Fl,beq_self_eq_true,decide_true]))
 refine cn (fun m ds tm h=>∃i,SeI h0 v1 v2 l.length m ds tm h i) l.length rfl ⟨0,rfl,rfl,az _,by exact sT,by exact sT,by exact sT,rfl⟩ (fun m ds tm h hI=>?_);obtain⟨i,rfl,rfl,ii,t0,t1,t5,rfl⟩:=hI;by_cases hi:i<l.length
 ·have di:decide (i<l.length)=true:=decide_eq_true hi
  have dX:(i<l.length)=True:=by simp[hi]
  obtain⟨x,hx⟩:∃x,l[i]? =some x:=⟨_,ao hi⟩;obtain⟨b1,o1,c1,rfl,wD,-⟩:=s1.place (by omega);obtain⟨b2,o2,c2,rfl,sP,-⟩:=s2.place (by omega);have e1:=Ev.at s1 hx;have e2:=Ev.at s2 hx;have w1:bV .i64 (ak i+ak 1)=ak (i+1):=cq (by omega);have p0:cellAt h b1 (o1+i*13)=some (.int .u64 (.ofNat x.main)):=e1 0 (by omega);have p1:cellAt h b1 (o1+(i*13+1))=some (.int .u64 (.ofNat x.sub)):=e1 1 (by omega);have p2:cellAt h b1 (o1+(i*13+2))=some (.bool x.dW):=e1 2 (by omega);have p3:cellAt h b1 (o1+(i*13+3))=some (.str x.kv.key):=e1 3 (by omega);have p4:cellAt h b1 (o1+(i*13+4))=some (.str x.kv.val):=e1 4 (by omega);have p5:cellAt h b1 (o1+(i*13+5))=some (.int .u64 (.ofNat x.kv.iC)):=e1 5 (by omega);have p6:cellAt h b1 (o1+(i*13+6))=some (.int .u64 (.ofNat x.kv.mod)):=e1 6 (by omega);have p7:cellAt h b1 (o1+(i*13+7))=some (.int .u64 (.ofNat x.kv.im)):=e1 7 (by omega);have p8:cellAt h b1 (o1+(i*13+8))=some (.str x.prev.key):=e1 8 (by omega);have p9:cellAt h b1 (o1+(i*13+9))=some (.str x.prev.val):=e1 9 (by omega);have p10:cellAt h b1 (o1+(i*13+10))=some (.int .u64 (.ofNat x.prev.iC)):=e1 10 (by omega);have Sh:cellAt h b1 (o1+(i*13+11))=some (.int .u64 (.ofNat x.prev.mod)):=e1 11 (by omega);have I8:cellAt h b1 (o1+(i*13+12))=some (.int .u64 (.ofNat x.prev.im)):=e1 12 (by omega);have q0:cellAt h b2 (o2+i*13)=some (.int .u64 (.ofNat x.main)):=e2 0 (by omega);have q1:cellAt h b2 (o2+(i*13+1))=some (.int .u64 (.ofNat x.sub)):=e2 1 (by omega);have q2:cellAt h b2 (o2+(i*13+2))=some (.bool x.dW):=e2 2 (by omega);have q3:cellAt h b2 (o2+(i*13+3))=some (.str x.kv.key):=e2 3 (by omega);have q4:cellAt h b2 (o2+(i*13+4))=some (.str x.kv.val):=e2 4 (by omega);have q5:cellAt h b2 (o2+(i*13+5))=some (.int .u64 (.ofNat x.kv.iC)):=e2 5 (by omega);have q6:cellAt h b2 (o2+(i*13+6))=some (.int .u64 (.ofNat x.kv.mod)):=e2 6 (by omega);have q7:cellAt h b2 (o2+(i*13+7))=some (.int .u64 (.ofNat x.kv.im)):=e2 7 (by omega);have q8:cellAt h b2 (o2+(i*13+8))=some (.str x.prev.key):=e2 8 (by omega);have q9:cellAt h b2 (o2+(i*13+9))=some (.str x.prev.val):=e2 9 (by omega);have q10:cellAt h b2 (o2+(i*13+10))=some (.int .u64 (.ofNat x.prev.iC)):=e2 10 (by omega);have q11:cellAt h b2 (o2+(i*13+11))=some (.int .u64 (.ofNat x.prev.mod)):=e2 11 (by omega);have q12:cellAt h b2 (o2+(i*13+12))=some (.int .u64 (.ofNat x.prev.im)):=e2 12 (by omega);have eb:∀b:Bool,(b==b)=true:=fun b=>by cases b<;>rfl
  have e3:=eb x.dW;have f1:=lS x.kv.key;have f2:=lS x.kv.val;have f3:=lS x.prev.key;have f4:=lS x.prev.val;have g1:∀n:Nat,decide (n=n)=true:=fun n=>decide_eq_true rfl;have g2:=g1 x.main;have g3:=g1 x.sub;have g4:=g1 x.kv.iC;have g5:=g1 x.kv.mod;have g6:=g1 x.kv.im;have g7:=g1 x.prev.iC;have g8:=g1 x.prev.mod;have g9:=g1 x.prev.im;refine rT ?_ (V t0<|V t1<|V t5<|V Ti<|V di<|V dX<|V p0<|V p1<|V p2<|V p3<|V p4<|V p5<|V p6<|V p7<|V p8<|V p9<|V p10<|V Sh<|V I8<|V q0<|V q1<|V q2<|V q3<|V q4<|V q5<|V q6<|V q7<|V q8<|V q9<|V q10<|V q11<|V q12<|V e3<|V f1<|V f2<|V f3<|V f4<|V g2<|V g3<|V g4<|V g5<|V g6<|V g7<|V g8<|V g9<|w1);exact⟨l.length-(i+1),by omega,i+1,rfl,rfl,by omega,by exact sT,by exact sT,by exact sT,rfl⟩
 ·have di:decide (i<l.length)=false:=decide_eq_false hi
  refine rN ?_ (V t0<|V t1<|V t5<|V Ti<|di);exact⟨rfl,Og.refl _ _⟩
theorem v_{p q r:Prop}(hq:q)(fs:r)(f:r→q→p:=by intro fs hq;(repeat' (first|((with_reducible refine gh ?_);(conv =>whnf);(with_reducible refine⟨?_⟩))|((with_reducible refine cV T8 ?_ rfl rfl ?_);exact rfl;(conv =>arg 4;whnf);(conv =>arg 3;whnf))|((with_reducible refine bE rfl ?_);(conv =>arg 2;whnf))|((with_reducible first|refine iB ?_ ?_|refine g_ ?_ ?_|refine hP ?_ ?_|refine pL ?_ ?_|refine pM ?_ ?_)<;>intro hb<;>(try simp only[hb]))|((with_reducible show dh _ _ _ _ _ _ _ _ _);first|((with_reducible apply gM);exact rfl;exact rfl)|((with_reducible apply gN);exact rfl;exact rfl;exact rfl)|((with_reducible apply gP);exact rfl;exact rfl;kernel_rfl)|((with_reducible apply gQ);exact rfl;exact rfl;exact rfl)|((with_reducible apply gT);exact rfl;exact rfl;exact rfl)|((with_reducible apply gR);exact rfl;exact rfl;kernel_rfl;exact rfl)|((with_reducible apply gS);exact rfl;exact rfl;kernel_rfl;exact rfl)|((with_reducible refine gL ?_ ?_)))|((with_reducible show il _ _ _ _ _ _);first|(exact cK)|(refine eB ?_ ?_ ?_;exact rfl)|(apply eC;exact rfl;exact rfl)|(refine eD ?_ ?_ ?_ ?_;exact rfl;kernel_rfl)|(apply eF;exact rfl)|(apply eE;exact rfl;exact rfl))|((with_reducible refine bX ?_);kernel_rfl)|(simp only[B,xB,F,ab,ae,af,ag,ah,ai, ↓reduceIte,eq_self,fs])));exact hq):p:=f fs hq
def M7(op:Op):Rq:=⟨0,0,0,false,[],[op],[],0⟩
def wh:nz:=⟨[],false,0,0,[]⟩
def atR(op:Op)(main:Nat):Nat:=if 0<op.rev then op.rev else main
def eP(op:Op)(rev main comp:Nat)(L:List Rec):nz×Nat:=
 if op.kind=0∧cW (M7 op)=0 then
  if rev<main∨main<comp then(wh,2)
  else if jw op.rev main comp=0 then(fM op (ny (dg (atR op main) L) op.key op.fin),0)
  else(wh,jw op.rev main comp)
 else(wh,11)
theorem Si{h:H}{b:Nat}{op:Op}(hb:b<h.nx)(c:bj h b 0 op.cs):ua h (M7 op) .bh (.slice b 0 1 (.exact 1)) .bh:=
 ⟨.none,.cell b 0 1 _ _ hb (by show bj h b 0 ([op].flatMap Op.cs);simpa using c),.none,az _,by show 1≤1000000;omega,az _⟩
structure Gm(h0 h':H)(base:Nat)(w:AV)(r:nz×Nat)(k:AV):Prop where
 oo:Og h0 h' []
 v:w= .tuple [.agg (r.1.cs k .bh),.int .i64 (.ofNat r.2)]
 g:bK 5 base h' k r.1.rM.length (r.1.rM.flatMap KV.cs)
theorem Og.drop{h h':H}{S:List Nat}(o:Og h h' S)(hS:∀b,b∈S→h.nx≤b):Og h h' []:=⟨⟨o.1.1,fun c hc _=>o.1.2 c hc (fun hm=>by have:=hS c hm;omega)⟩,o.2⟩
theorem Sj(h5:H)(bm:Nat)(L:List Rec)(rev cp:Nat)(v:AV)(md:l_ h5 bm L rev cp v)(nv:∀c,bA v=some c→c<h5.nx)(op:Op)(at_:Nat)(hs:dI L)(hz:L.length≤900000)(b5 b8:Nat)(Y:bj h5 b5 0 op.cs)(l5:b5<h5.nx)(l8:b8<h5.nx)(w8:cj h5 b8=true)(A:bj h5 b8 0 [.bh,.bool false,.int .i64 (.ofNat 0),.int .i64 (.ofNat 0),.bh])
  (tm:T AV)(t0:tm.get 0=some (.ptr bm 0))(t2:tm.get 2=some (.int .u64 (.ofNat at_)))(t5:tm.get 5=some (.ptr b5 0))(t8:tm.get 8=some (.ptr b8 0))(K:KQ)
  (hK:∀bZ h6 k,bZ.get 8=some (.ptr b8 0)→bZ.get 9=some (.int .i64 (.ofNat 0))→Og h5 h6 [b8]→bj h6 b8 0 ((fM op (ny (dg at_ L) op.key op.fin)).cs k .bh)→bK 5 h5.nx h6 k (fM op (ny (dg at_ L) op.key op.fin)).rM.length ((fM op (ny (dg at_ L) op.key op.fin)).rM.flatMap KV.cs)→K .norm [] bZ h6):
  bB P 10 63 none (bL (bD Tryz.f10) [0,1,1,1,1]) [] tm h5 K:=by
 obtain⟨z0,z1,z2,z3,z4,z5,z6,z7,z8⟩:=Y.u9;have Cd:=md.lt;refine v_ ?_ (V t0<|V t2<|V t5<|V t8<|V z0<|V z1<|V z2<|V z3<|V z4<|V z5<|V z6<|V z7<|z8);refine((atC h5 bm at_ L v md.lt md.c0 md.sl (by omega) nv).call P).mono P ?_;rintro _ h6 ⟨ro,rfl,pW,o6,m6⟩;have x6:=o6.1.1;have Y6:=gC Y o6 l5 (by simp);obtain⟨y0,y1,y2,y3,y4,y5,y6,y7,y8⟩:=Y6.u9;have pV:=rQ (main:=at_) hs;have zo:=lE (main:=at_) hs;refine v_ ?_ (V t0<|V t2<|V t5<|V t8<|V z0<|V z1<|V z2<|V z3<|V z4<|V z5<|V z6<|V z7<|V z8<|V y0<|V y1<|V y2<|V y3<|V y4<|V y5<|V y6<|V y7<|y8);refine((zA h6 ro _ op.key op.fin m6 pV.nd (by omega) (fun p hp=>(pV.ky p hp).2)).call P).mono P ?_;rintro w h7 ⟨o7,g7⟩;have x7:=o7.1.1;have go7:=g7.one;have EN:=o6.t o7;have Y7:=gC Y EN l5 (by simp);obtain⟨p0,p1,p2,p3,p4,p5,p6,p7,p8⟩:=Y7.u9;have hil:=lF (dg at_ L) op.key op.fin;have rc:=resC h7 op w _ h6.nx g7 (by omega);unfold Op.cs at rc;refine v_ ?_ (V t0<|V t2<|V t5<|V t8<|V go7<|V z0<|V z1<|V z2<|V z3<|V z4<|V z5<|V z6<|V z7<|V z8<|V y0<|V y1<|V y2<|V y3<|V y4<|V y5<|V y6<|V y7<|V y8<|V p0<|V p1<|V p2<|V p3<|V p4<|V p5<|V p6<|V p7<|p8);refine(rc.call P).mono P ?_;rintro _ h8 ⟨o8,k,rfl,g8⟩;have S9:=EN.t o8;have x8:=S9.1.1;have gk:=g8.one;have A8:=gC A S9 l8 (by simp);obtain⟨a0,a1,a2,a3,a4⟩:=A8.u5;have w8':=kw w8 S9 l8 (by simp);obtain⟨r,hr⟩:∃r,r=fM op (ny (dg at_ L) op.key op.fin):=⟨_,rfl⟩;rw[←hr]at g8 hK ⊢;obtain⟨h9,wH⟩:∃h9,h9=h8.cm b8 0 (r.cs k .bh):=⟨_,rfl⟩;have o9:Og h8 h9 [b8]:=by rw[wH];exact(Og.refl _ _).cm (.inl (by simp))
 have C9:bj h9 b8 0 (r.cs k .bh):=by rw[wH];exact bj.cm w8' _
 unfold nz.cs at wH ⊢;refine v_ ?_ (V t0<|V t2<|V t5<|V t8<|V gk<|V w8'<|V a0<|V a1<|V a2<|V a3<|V a4<|wH.symm);refine hK _ _ k (by exact sT) (by exact sT) (S9.s1 o9) C9 ((g8.bG o9.1.1 (fun c e=>o9.1.2 c (g8.base e).2 (by have:=(g8.base e).1;simp;omega))).wk (by omega))
theorem rangeC(h0:H)(bm:Nat)(L:List Rec)(rev cp:Nat)(v:AV)(md:l_ h0 bm L rev cp v)(nv:∀c,bA v=some c→c<h0.nx)(op:Op)(main comp:Nat)(hs:dI L)(hz:L.length≤900000):
  bW P (.enter 10 [.ptr bm 0,.agg op.cs,.int .u64 (.ofNat main),.int .u64 (.ofNat comp)] h0) fun w h'=>∃k,Gm h0 h' h0.nx w (eP op rev main comp L) k:=by
 obtain⟨h1,cC,o1,x1,y0,y1,y2,y3,y4,y5,y6,y7,y8⟩:=B8 h0 op;obtain⟨h2,cJ,o2,x2,w2,a0,a1,a2,a3,a4⟩:=ue h1;have Cd:=md.lt;have Y2:=gC (bj.m9 y0 y1 y2 y3 y4 y5 y6 y7 y8) o2 (by omega) (by simp);obtain⟨z0,z1,z2,z3,z4,z5,z6,z7,z8⟩:=Y2.u9;have f_:=o1.t o2;unfold Op.cs at cC ⊢;by_cases q0:op.kind=0
 ·have d0:(op.kind != ak 0)=false:=by rw[q0];rfl
  obtain⟨h3,cB⟩:∃h3,h3=h2.bq 41 op.cs:=⟨_,rfl⟩;have o3:Og h2 h3 []:=by rw[cB];exact(Og.refl _ _).new _ _
  have x3:h3.nx=h2.nx+1:=by rw[cB];rfl
  have ra:=Si (h:=h3) (b:=h2.nx) (op:=op) (by omega) (by rw[cB];exact bj.new _ _ _);unfold Op.cs at cB;have ck:=Mr h3 (M7 op) _ _ _ ra;unfold M7 Rq.cs at ck;refine bn (fn:=Tryz.f10) (c:=bD Tryz.f10) Tryz.func10 rfl ?_;show bB P 10 63 none _ _ _ _ _;refine bp ?_;refine rN ?_ (V cC<|V cJ<|V z0<|V z1<|V z2<|V z3<|V z4<|V z5<|V z6<|V z7<|V z8<|V d0<|cB.symm);refine(ck.call P).mono P ?_;rintro _ h4 ⟨rfl,o4⟩;have ck:cW {kind:=0,lh:=0,num:=0,lq:=false,eO:=[],th:=[op],el:=[],rev:=0}=cW (M7 op):=rfl;rw[ck];have Gk:=o3.t o4;have x24:=Gk.1.1;have rJ:=f_.t Gk;have A4:=gC (bj.m5 a0 a1 a2 a3 a4) Gk (by omega) (by simp);obtain⟨b0,b1,b2,b3,b4⟩:=A4.u5;have w4:=kw w2 Gk (by omega) (by simp);have Y4:=gC Y2 Gk (by omega) (by simp);obtain⟨u0,u1,u2,u3,u4,u5,u6,u7,u8⟩:=Y4.u9;have m1:=kc md.c1 rJ Cd (by simp);have m0:=kc md.c0 rJ Cd (by simp);by_cases q1:cW (M7 op)=0
  ·have d1:(ak (cW (M7 op)) != ak 0)=false:=by rw[q1];rfl
   by_cases q2:rev<main∨main<comp
   ·have e:eP op rev main comp L=(wh,2):=by unfold eP;rw[if_pos ⟨q0,q1⟩,if_pos q2]
    rw[e];have fin:Gm h0 (h4.cm h1.nx 0 [.bh,.bool false,.int .i64 (.ofNat 0),.int .i64 (.ofNat 0),.bh]) h0.nx (.tuple [.agg [.bh,.bool false,.int .i64 (.ofNat 0),.int .i64 (.ofNat 0),.bh],.int .i64 (.ofNat 2)]) (wh,2) .bh:=⟨rJ.cm (.inr (by omega)),rfl,.none⟩;by_cases q3:rev<main
    ·have d2:decide (rev<main)=true:=decide_eq_true q3
     refine rN ?_ (V d1<|V m1<|V d2<|V w4<|V b0<|V b1<|V b2<|V b3<|b4);exact⟨_,fin⟩
    ·have d2:decide (rev<main)=false:=decide_eq_false q3
     have d3:decide (main<comp)=true:=decide_eq_true (q2.resolve_left q3);refine rN ?_ (V d1<|V m1<|V d2<|V d3<|V w4<|V b0<|V b1<|V b2<|V b3<|b4);exact⟨_,fin⟩
   ·have d2:decide (rev<main)=false:=decide_eq_false (fun e=>q2 (.inl e))
    have d3:decide (main<comp)=false:=decide_eq_false (fun e=>q2 (.inr e));have wc:=Ws h4 op main comp;have ew:iG op main comp=jw op.rev main comp:=by unfold iG;rw[if_pos q0]
    unfold Op.cs at wc;rw[ew]at wc;refine rN ?_ (V d1<|V m1<|V d2<|V d3<|V u0<|V u1<|V u2<|V u3<|V u4<|V u5<|V u6<|V u7<|u8);refine(wc.call P).mono P ?_;rintro _ h5 ⟨rfl,o5⟩;have F6:=Gk.t o5;have x45:=F6.1.1;have F_:=f_.t F6;have A5:=gC A4 o5 (by omega) (by simp);obtain⟨r0,r1,r2,r3,r4⟩:=A5.u5;have w5:=kw w4 o5 (by omega) (by simp);have Y5:=gC Y4 o5 (by omega) (by simp);obtain⟨s0,s1,s2,s3,s4,s5,s6,s7,s8⟩:=Y5.u9;by_cases q4:jw op.rev main comp=0
    ·have d4:(ak (jw op.rev main comp) != ak 0)=false:=by rw[q4];rfl
     have e:eP op rev main comp L=(fM op (ny (dg (atR op main) L) op.key op.fin),0):=by unfold eP;rw[if_pos ⟨q0,q1⟩,if_neg q2,if_pos q4]
     rw[e];have MD5:=md.bU F_.1.1 (F_.1.2 bm Cd (by simp)) (fun c e=>F_.1.2 c (nv c e) (by simp));have Jf:=Sj h5 bm L rev cp v MD5 (fun c e=>by have:=nv c e;omega) op (atR op main) hs hz h0.nx h1.nx Y5 (by omega) (by omega) w5 A5;by_cases q5:0<op.rev
     ·have d5:decide (0<op.rev)=true:=decide_eq_true q5
      have ea:atR op main=op.rev:=by unfold atR;rw[if_pos q5]
      rw[ea]at Jf ⊢;refine oq ?_ (@sc [0,1,1,1,1]) (V d4<|V s0<|V s1<|V s2<|V s3<|V s4<|V s5<|V s6<|V s7<|V s8<|d5);refine⟨?_⟩;refine Jf _ (by exact sT) (by exact sT) (by exact sT) (by exact sT) _ ?_;intro bZ h6 k g8 g9 o6 C6 gk;obtain⟨e0,e1,e2,e3,e4⟩:=C6.u5;have gko:=gk.one;refine rN ?_ (V g8<|V g9<|V e0<|V e1<|V e2<|V e3<|V e4<|gko);exact⟨k,(F_.s1 o6).drop (by simp;omega),rfl,gk.wk (by omega)⟩
     ·have d5:decide (0<op.rev)=false:=decide_eq_false q5
      have ea:atR op main=main:=by unfold atR;rw[if_neg q5]
      rw[ea]at Jf ⊢;refine oq ?_ (@sc [0,1,1,1,1]) (V d4<|V s0<|V s1<|V s2<|V s3<|V s4<|V s5<|V s6<|V s7<|V s8<|d5);refine⟨?_⟩;refine Jf _ (by exact sT) (by exact sT) (by exact sT) (by exact sT) _ ?_;intro bZ h6 k g8 g9 o6 C6 gk;obtain⟨e0,e1,e2,e3,e4⟩:=C6.u5;have gko:=gk.one;refine rN ?_ (V g8<|V g9<|V e0<|V e1<|V e2<|V e3<|V e4<|gko);exact⟨k,(F_.s1 o6).drop (by simp;omega),rfl,gk.wk (by omega)⟩
    ·have d4:(ak (jw op.rev main comp) != ak 0)=true:=by simpa using q4
     have e:eP op rev main comp L=(wh,jw op.rev main comp):=by unfold eP;rw[if_pos ⟨q0,q1⟩,if_neg q2,if_neg q4]
     rw[e];refine rN ?_ (V d4<|V w5<|V r0<|V r1<|V r2<|V r3<|r4);exact⟨_,F_.cm (.inr (by omega)),rfl,.none⟩
  ·have d1:(ak (cW (M7 op)) != ak 0)=true:=by simpa using q1
   have e:eP op rev main comp L=(wh,11):=by unfold eP;rw[if_neg (fun e=>q1 e.2)]
   rw[e];refine rN ?_ (V d1<|V w4<|V b0<|V b1<|V b2<|V b3<|b4);exact⟨_,rJ.cm (.inr (by omega)),rfl,.none⟩
 ·have d0:(op.kind != ak 0)=true:=by simpa using q0
  have e:eP op rev main comp L=(wh,11):=by unfold eP;rw[if_neg (fun e=>q0 e.1)]
  rw[e];refine bn (fn:=Tryz.f10) (c:=bD Tryz.f10) Tryz.func10 rfl ?_;show bB P 10 63 none _ _ _ _ _;refine bp ?_;refine rN ?_ (V cC<|V cJ<|V z0<|V z1<|V z2<|V z3<|V z4<|V z5<|V z6<|V z7<|V z8<|V d0<|V w2<|V a0<|V a1<|V a2<|V a3<|a4);exact⟨_,f_.cm (.inr (by omega)),rfl,.none⟩
theorem EZ(h5:H)(iq b:Nat)(L:List Rec)(rev cp:Nat)(v2:AV)(s:jM h5 b L rev cp v2 [] .bh 0)(km:cellAt h5 iq 0=some (.ptr b 0))(op:Op)(at_:Nat)(hs:dI L)(hz:L.length≤900000)(b5 b8:Nat)(Y:bj h5 b5 0 op.cs)(l5:b5<h5.nx)(l8:b8<h5.nx)(w8:cj h5 b8=true)(A:bj h5 b8 0 [.bh,.bool false,.int .i64 (.ofNat 0),.int .i64 (.ofNat 0),.bh])
  (tm:T AV)(t0:tm.get 0=some (.ptr iq 0))(t10:tm.get 10=some (.int .u64 (.ofNat at_)))(t5:tm.get 5=some (.ptr b5 0))(t8:tm.get 8=some (.ptr b8 0))(K:KQ)
  (hK:∀bZ h6 k,bZ.get 8=some (.ptr b8 0)→bZ.get 9=some (.int .i64 (.ofNat 0))→Og h5 h6 [b8]→bj h6 b8 0 ((fM op (ny (dg at_ L) op.key op.fin)).cs k .bh)→bK 5 h5.nx h6 k (fM op (ny (dg at_ L) op.key op.fin)).rM.length ((fM op (ny (dg at_ L) op.key op.fin)).rM.flatMap KV.cs)→K .norm [] bZ h6):
  bB P 11 72 none (bL (bD Tryz.f11) [0,1,1,1,1,1,1,1]) [] tm h5 K:=by
 obtain⟨z0,z1,z2,z3,z4,z5,z6,z7,z8⟩:=Y.u9;obtain⟨c0,c1,c2,c3,c4,c5,c6,c7⟩:=s.c.u8;have vo:=s.gv.one;refine rT ?_ (V t0<|V t10<|V t5<|V t8<|V km<|V c0<|V vo<|V z0<|V z1<|V z2<|V z3<|V z4<|V z5<|V z6<|V z7<|z8);refine((Uu h5 v2 L op.key op.fin at_ s.gv.slice hz).call P).mono P ?_;rintro w h7 ⟨EN,g7⟩;have x7:=EN.1.1;have go7:=g7.one;have Y7:=gC Y EN l5 (by simp);obtain⟨p0,p1,p2,p3,p4,p5,p6,p7,p8⟩:=Y7.u9;rw[zB hs]at g7;have hil:=lF (dg at_ L) op.key op.fin;have zo:=lE (main:=at_) hs;have rc:=WI h7 op w _ h5.nx g7 (by omega);unfold Op.cs at rc;refine rT ?_ (V t0<|V t10<|V t5<|V t8<|V km<|V c0<|V vo<|V go7<|V z0<|V z1<|V z2<|V z3<|V z4<|V z5<|V z6<|V z7<|V z8<|V p0<|V p1<|V p2<|V p3<|V p4<|V p5<|V p6<|V p7<|p8);refine(rc.call P).mono P ?_;rintro _ h8 ⟨o8,k,rfl,g8⟩;have S9:=EN.t o8;have x8:=S9.1.1;have gk:=g8.one;have A8:=gC A S9 l8 (by simp);obtain⟨a0,a1,a2,a3,a4⟩:=A8.u5;have w8':=kw w8 S9 l8 (by simp);obtain⟨r,hr⟩:∃r,r=fM op (ny (dg at_ L) op.key op.fin):=⟨_,rfl⟩;rw[←hr]at g8 hK ⊢;obtain⟨h9,wH⟩:∃h9,h9=h8.cm b8 0 (r.cs k .bh):=⟨_,rfl⟩;have o9:Og h8 h9 [b8]:=by rw[wH];exact(Og.refl _ _).cm (.inl (by simp))
 have C9:bj h9 b8 0 (r.cs k .bh):=by rw[wH];exact bj.cm w8' _
 unfold nz.cs at wH ⊢;refine rT ?_ (V t0<|V t10<|V t5<|V t8<|V gk<|V w8'<|V a0<|V a1<|V a2<|V a3<|V a4<|wH.symm);refine hK _ _ k (by exact sT) (by exact sT) (S9.s1 o9) C9 ((g8.bG o9.1.1 (fun c e=>o9.1.2 c (g8.base e).2 (by have:=(g8.base e).1;simp;omega))).wk (by omega))
theorem Vf(h0:H)(iq b:Nat)(L:List Rec)(rev cp:Nat)(v2:AV)(sr:jM h0 b L rev cp v2 [] .bh 0)(km:cellAt h0 iq 0=some (.ptr b 0))(lm:iq<h0.nx)(op:Op)(main comp:Nat)(hs:dI L)(hz:L.length≤900000):
  bW P (.enter 11 [.ptr iq 0,.agg op.cs,.int .u64 (.ofNat main),.int .u64 (.ofNat comp)] h0) fun w h'=>∃k,Gm h0 h' h0.nx w (eP op rev main comp L) k:=by
 obtain⟨h1,cC,o1,x1,y0,y1,y2,y3,y4,y5,y6,y7,y8⟩:=B8 h0 op;obtain⟨h2,cJ,o2,x2,w2,a0,a1,a2,a3,a4⟩:=ue h1;have lb:=sr.lt;have Y2:=gC (bj.m9 y0 y1 y2 y3 y4 y5 y6 y7 y8) o2 (by omega) (by simp);obtain⟨z0,z1,z2,z3,z4,z5,z6,z7,z8⟩:=Y2.u9;have f_:=o1.t o2;unfold Op.cs at cC ⊢;by_cases q0:op.kind=0
 ·have d0:(op.kind != ak 0)=false:=by rw[q0];rfl
  obtain⟨h3,cB⟩:∃h3,h3=h2.bq 41 op.cs:=⟨_,rfl⟩;have o3:Og h2 h3 []:=by rw[cB];exact(Og.refl _ _).new _ _
  have x3:h3.nx=h2.nx+1:=by rw[cB];rfl
  have ra:=Si (h:=h3) (b:=h2.nx) (op:=op) (by omega) (by rw[cB];exact bj.new _ _ _);unfold Op.cs at cB;have ck:=IB h3 (M7 op) _ _ _ ra;unfold M7 Rq.cs at ck;refine bn (fn:=Tryz.f11) (c:=bD Tryz.f11) Tryz.func11 rfl ?_;show bB P 11 72 none _ _ _ _ _;refine bp ?_;refine rN ?_ (V cC<|V cJ<|V z0<|V z1<|V z2<|V z3<|V z4<|V z5<|V z6<|V z7<|V z8<|V d0<|cB.symm);refine(ck.call P).mono P ?_;rintro _ h4 ⟨rfl,o4⟩;have ck:cW {kind:=0,lh:=0,num:=0,lq:=false,eO:=[],th:=[op],el:=[],rev:=0}=cW (M7 op):=rfl;rw[ck];have Gk:=o3.t o4;have x24:=Gk.1.1;have rJ:=f_.t Gk;have A4:=gC (bj.m5 a0 a1 a2 a3 a4) Gk (by omega) (by simp);obtain⟨b0,b1,b2,b3,b4⟩:=A4.u5;have w4:=kw w2 Gk (by omega) (by simp);have Y4:=gC Y2 Gk (by omega) (by simp);obtain⟨u0,u1,u2,u3,u4,u5,u6,u7,u8⟩:=Y4.u9;have s4:=sr.bU rJ;have WZ:=kc km rJ lm (by simp);obtain⟨c0,c1,c2,c3,c4,c5,c6,c7⟩:=s4.c.u8;by_cases q1:cW (M7 op)=0
  ·have d1:(ak (cW (M7 op)) != ak 0)=false:=by rw[q1];rfl
   by_cases q2:rev<main∨main<comp
   ·have e:eP op rev main comp L=(wh,2):=by unfold eP;rw[if_pos ⟨q0,q1⟩,if_pos q2]
    rw[e];have fin:Gm h0 (h4.cm h1.nx 0 [.bh,.bool false,.int .i64 (.ofNat 0),.int .i64 (.ofNat 0),.bh]) h0.nx (.tuple [.agg [.bh,.bool false,.int .i64 (.ofNat 0),.int .i64 (.ofNat 0),.bh],.int .i64 (.ofNat 2)]) (wh,2) .bh:=⟨rJ.cm (.inr (by omega)),rfl,.none⟩;by_cases q3:rev<main
    ·have d2:decide (rev<main)=true:=decide_eq_true q3
     refine rN ?_ (V d1<|V WZ<|V c1<|V d2<|V w4<|V b0<|V b1<|V b2<|V b3<|b4);exact⟨_,fin⟩
    ·have d2:decide (rev<main)=false:=decide_eq_false q3
     have d3:decide (main<comp)=true:=decide_eq_true (q2.resolve_left q3);refine rN ?_ (V d1<|V WZ<|V c1<|V d2<|V d3<|V w4<|V b0<|V b1<|V b2<|V b3<|b4);exact⟨_,fin⟩
   ·have d2:decide (rev<main)=false:=decide_eq_false (fun e=>q2 (.inl e))
    have d3:decide (main<comp)=false:=decide_eq_false (fun e=>q2 (.inr e));by_cases q4:main<op.rev
    ·have d4:decide (main<op.rev)=true:=decide_eq_true q4
     have e:eP op rev main comp L=(wh,10):=by unfold eP;rw[if_pos ⟨q0,q1⟩,if_neg q2];unfold jw;rw[if_pos q4];rfl
     rw[e];refine rN ?_ (V d1<|V WZ<|V c1<|V d2<|V d3<|V d4<|V u0<|V u1<|V u2<|V u3<|V u4<|V u5<|V u6<|V u7<|V u8<|V w4<|V b0<|V b1<|V b2<|V b3<|b4);exact⟨_,rJ.cm (.inr (by omega)),rfl,.none⟩
    ·have d4:decide (main<op.rev)=false:=decide_eq_false q4
     have rd:∀e,jw op.rev main comp=0→e=atR op main→eP op rev main comp L=(fM op (ny (dg e L) op.key op.fin),0):=fun e hw he=>by subst he;unfold eP;rw[if_pos ⟨q0,q1⟩,if_neg q2,if_pos hw]
     by_cases q5:op.rev=0
     ·have d5:decide (op.rev=0)=true:=decide_eq_true q5
      have d6:(ak op.rev != ak 0)=false:=by rw[q5];rfl
      have ew:jw op.rev main comp=0:=by unfold jw;rw[if_neg q4,if_neg (fun e=>e.1 q5)]
      rw[rd main ew (by unfold atR;rw[q5];rfl)];have Jf:=EZ h4 iq b L rev cp v2 s4 WZ op main hs hz h0.nx h1.nx Y4 (by omega) (by omega) w4 A4;refine oq ?_ (@sc [0,1,1,1,1,1,1,1]) (V d1<|V WZ<|V c1<|V d2<|V d3<|V d4<|V d5<|V d6<|V @aS<|V u0<|V u1<|V u2<|V u3<|V u4<|V u5<|V u6<|V u7<|u8);refine⟨?_⟩;refine Jf _ (by exact sT) (by exact sT) (by exact sT) (by exact sT) _ ?_;intro bZ h6 k g8 g9 o6 C6 gk;obtain⟨e0,e1,e2,e3,e4⟩:=C6.u5;have gko:=gk.one;refine rN ?_ (V g8<|V g9<|V e0<|V e1<|V e2<|V e3<|V e4<|gko);exact⟨k,(rJ.s1 o6).drop (by simp;omega),rfl,gk.wk (by omega)⟩
     ·have d5:decide (op.rev=0)=false:=decide_eq_false q5
      have d6:(ak op.rev != ak 0)=true:=by
       rw[bne_iff_ne];intro e;exact q5 (Int.ofNat.inj e)
      by_cases q6:op.rev<comp
      ·have d7:decide (op.rev<comp)=true:=decide_eq_true q6
       have ew:jw op.rev main comp=9:=by unfold jw;rw[if_neg q4,if_pos ⟨q5,q6⟩]
       have e:eP op rev main comp L=(wh,9):=by unfold eP;rw[if_pos ⟨q0,q1⟩,if_neg q2,ew,if_neg (by decide)]
       rw[e];refine rN ?_ (V d1<|V WZ<|V c1<|V d2<|V d3<|V d4<|V d5<|V d6<|V d7<|V @aN<|V u0<|V u1<|V u2<|V u3<|V u4<|V u5<|V u6<|V u7<|V u8<|V w4<|V b0<|V b1<|V b2<|V b3<|b4);exact⟨_,rJ.cm (.inr (by omega)),rfl,.none⟩
      ·have d7:decide (op.rev<comp)=false:=decide_eq_false q6
       have ew:jw op.rev main comp=0:=by unfold jw;rw[if_neg q4,if_neg (fun e=>q6 e.2)]
       rw[rd op.rev ew (by unfold atR;rw[if_pos (by omega)])];have Jf:=EZ h4 iq b L rev cp v2 s4 WZ op op.rev hs hz h0.nx h1.nx Y4 (by omega) (by omega) w4 A4;refine oq ?_ (@sc [0,1,1,1,1,1,1,1]) (V d1<|V WZ<|V c1<|V d2<|V d3<|V d4<|V d5<|V d6<|V d7<|V @aN<|V u0<|V u1<|V u2<|V u3<|V u4<|V u5<|V u6<|V u7<|u8);refine⟨?_⟩;refine Jf _ (by exact sT) (by exact sT) (by exact sT) (by exact sT) _ ?_;intro bZ h6 k g8 g9 o6 C6 gk;obtain⟨e0,e1,e2,e3,e4⟩:=C6.u5;have gko:=gk.one;refine rN ?_ (V g8<|V g9<|V e0<|V e1<|V e2<|V e3<|V e4<|gko);exact⟨k,(rJ.s1 o6).drop (by simp;omega),rfl,gk.wk (by omega)⟩
  ·have d1:(ak (cW (M7 op)) != ak 0)=true:=by simpa using q1
   have e:eP op rev main comp L=(wh,11):=by unfold eP;rw[if_neg (fun e=>q1 e.2)]
   rw[e];refine rN ?_ (V d1<|V w4<|V b0<|V b1<|V b2<|V b3<|b4);exact⟨_,rJ.cm (.inr (by omega)),rfl,.none⟩
 ·have d0:(op.kind != ak 0)=true:=by simpa using q0
  have e:eP op rev main comp L=(wh,11):=by unfold eP;rw[if_neg (fun e=>q0 e.1)]
  rw[e];refine bn (fn:=Tryz.f11) (c:=bD Tryz.f11) Tryz.func11 rfl ?_;show bB P 11 72 none _ _ _ _ _;refine bp ?_;refine rN ?_ (V cC<|V cJ<|V z0<|V z1<|V z2<|V z3<|V z4<|V z5<|V z6<|V z7<|V z8<|V d0<|V w2<|V a0<|V a1<|V a2<|V a3<|a4);exact⟨_,f_.cm (.inr (by omega)),rfl,.none⟩
theorem rFoldC(h0:H)(iq b:Nat)(L:List Rec)(rev cp:Nat)(v2:AV)(s:jM h0 b L rev cp v2 [] .bh 0)(km:cellAt h0 iq 0=some (.ptr b 0))(main:Nat)(hs:dI L)(hz:L.length≤900000):
  bW P (.enter 15 [.ptr iq 0,.int .u64 (.ofNat main)] h0) fun w h'=>Og h0 h' []∧bK 5 h0.nx h' w (ET main L).length ((ET main L).flatMap KV.cs):=by
 obtain⟨c0,c1,c2,c3,c4,c5,c6,c7⟩:=s.c.u8;have vo:=s.gv.one;refine bn (fn:=Tryz.f15) (c:=bD Tryz.f15) Tryz.func15 rfl ?_;show bB P 15 14 none _ _ _ _ _;refine bp ?_;refine rN ?_ (V km<|V c0<|V vo<|ez);refine((Uu h0 v2 L [] [0] main s.gv.slice hz).call P).mono P ?_;rintro w h1 ⟨o1,g1⟩;have g1o:=g1.one;rw[zB hs]at g1;refine rN ?_ (g1o);exact⟨o1,g1⟩
def Sk(p:Nat×Nat):List AV:=[.int .u64 (.ofNat p.1),.int .u64 (.ofNat p.2)]
theorem M8(p:Nat×Nat):(Sk p).length=2:=rfl
theorem OH(c:Nat)(k:List Nat)(a:List Rec)(x:Rec):qb c k (a++[x])=(qb c k a&& !(decide (x.kv.key=k)&&decide (x.main≤c))):=by
 unfold qb;rw[List.all_append];simp
structure KeI(h0:H)(b:Nat)(c:Nat)(L:List Rec)(m:Nat)(ds:List Nat)(tm:T AV)(h:H)(i:Nat)(w:AV):Prop where
 ds:ds=[]
 nn:m=L.length-i
 ii:i≤L.length
 t0:tm.get 0=some (.ptr b 0)
 t1:tm.get 1=some (.int .u64 (.ofNat c))
 t5:tm.get 5=some w
 t6:tm.get 6=some (.int .i64 (.ofNat i))
 gr:bK 2 h0.nx h w (jy c L i).length ((jy c L i).flatMap Sk)
 oo:Og h0 h []
structure KiI(b:Nat)(c:Nat)(L:List Rec)(k:List Nat)(i:Nat)(w:AV)(hh:H)(m:Nat)(ds:List Nat)(tm:T AV)(h:H)(j a:Nat):Prop where
 ds:ds=[]
 nn:m=(L.drop (i+1)).length-j
 jj:j≤(L.drop (i+1)).length
 aj:a=i+1+j
 t0:tm.get 0=some (.ptr b 0)
 t1:tm.get 1=some (.int .u64 (.ofNat c))
 t5:tm.get 5=some w
 t6:tm.get 6=some (.int .i64 (.ofNat i))
 t7:tm.get 7=some (.bool (qb c k ((L.drop (i+1)).take j)))
 t8:tm.get 8=some (.int .i64 (.ofNat a))
 he:h=hh
theorem keptC(h0:H)(b:Nat)(L:List Rec)(rev cp:Nat)(v2:AV)(sr:jM h0 b L rev cp v2 [] .bh 0)(c:Nat)(hz:L.length≤900000):
  bW P (.enter 83 [.ptr b 0,.int .u64 (.ofNat c)] h0) fun w h'=>Og h0 h' []∧bK 2 h0.nx h' w (jy c L L.length).length ((jy c L L.length).flatMap Sk):=by
 have hlen:=sr.gv.slice.len (P:=P) jl;have vo:=sr.gv.one;refine bn (fn:=Tryz.f83) (c:=bD Tryz.f83) Tryz.func83 rfl ?_;show bB P 83 95 none _ _ _ _ _;refine bp ?_;refine kM ?_;refine cn (fun m ds tm h=>∃i w,KeI h0 b c L m ds tm h i w) L.length rfl ⟨0,.bh,rfl,rfl,az _,by exact sT,by exact sT,by exact sT,by exact sT,bK.none,Og.refl _ _⟩ (fun m ds tm h hI=>?_);obtain⟨i,w,rfl,rfl,ii,t0,t1,t5,t6,gr,oo⟩:=hI;have nR:=gr.one;have s:=sr.bU oo;obtain⟨c0,-,-,-,-,-,-,-⟩:=s.c.u8;by_cases hi:i<L.length
 ·have di:decide (i<L.length)=true:=decide_eq_true hi
  have dX:(i<L.length)=True:=by simp[hi]
  obtain⟨x,hx⟩:∃x,L[i]? =some x:=⟨_,ao hi⟩;have jk:=s.gv.slice;have IJ:=jk;obtain⟨bv,ov,cv,rfl,qw,-⟩:=jk.place (by omega);obtain⟨q0,q1,q2,q3,q4,q5,q6,q7⟩:=Rec.at jk hx;have w1:bV .i64 (ak i+ak 1)=ak (i+1):=cq (by omega);have hs:=Va (c:=c) hx;have CQ:=xG c L i;have stay:lT c L i x=false→∀(bZ:T AV),bZ.get 0=some (.ptr b 0)→bZ.get 1=some (.int .u64 (.ofNat c))→bZ.get 5=some w→bZ.get 6=some (.int .i64 (.ofNat (i+1)))→∃m,m<L.length-i∧∃i w,KeI h0 b c L m [] bZ h i w:=fun e bZ g0 g1 g5 g6=>
   ⟨L.length-(i+1),by omega,i+1,w,rfl,rfl,by omega,g0,g1,g5,g6,by rw[hs,e];exact gr,oo⟩
  cases qt:x.dW with
  |true=>
   rw[qt]at q7;refine rN ?_ (V t0<|V t1<|V t5<|V t6<|V c0<|V vo<|V hlen<|V di<|V dX<|V q7<|w1);exact stay (by unfold lT;rw[qt];rfl) _ (by exact sT) (by exact sT) (by exact sT) (by exact sT)
  | false=>
   rw[qt]at q7;by_cases p:x.main≤c
   ·have d1:decide (c<x.main)=false:=decide_eq_false (by omega)
    obtain⟨M,hM⟩:∃M,M=L.drop (i+1):=⟨_,rfl⟩;have hMl:M.length=L.length-(i+1):=by rw[hM,aac]
    refine rN ?_ (V t0<|V t1<|V t5<|V t6<|V c0<|V vo<|V hlen<|V di<|V dX<|V q0<|V q7<|V d1<|w1);refine cn (fun m ds tm h'=>∃j a,KiI b c L x.kv.key i w h m ds tm h' j a) M.length rfl ⟨0,i+1,rfl,by rw[←hM];rfl,az _,rfl,by exact sT,by exact sT,by exact sT,by exact sT,by rw[show qb c x.kv.key ((L.drop (i+1)).take 0)=true by rw[aV];rfl];exact sT,by exact sT,rfl⟩ (fun m ds tm h' hJ=>?_);clear t0 t1 t5 t6;obtain⟨j,a,rfl,rfl,jj,aj,t0,t1,t5,t6,t7,t8,rfl⟩:=hJ;rw[←hM]at jj t7;by_cases hj:j<M.length
    ·have dj:decide (a<L.length)=true:=decide_eq_true (by omega)
     have uv:(a<L.length)=True:=by simp;omega
     obtain⟨y,hy⟩:∃y,M[j]? =some y:=⟨_,ao hj⟩;have hy2:L[a]? =some y:=by rw[hM,aap]at hy;rw[aj];exact hy
     obtain⟨r0,r1,r2,r3,r4,r5,r6,r7⟩:=Rec.at jk hy2;have w2:bV .i64 (ak a+ak 1)=ak (a+1):=cq (by omega);have hl:qb c x.kv.key (M.take (j+1))=(qb c x.kv.key (M.take j)&& !(decide (y.kv.key=x.kv.key)&&decide (y.main≤c))):=by rw[aC,hy];exact OH _ _ _ _
     by_cases p1:y.kv.key=x.kv.key
     ·have e1:decide (y.kv.key=x.kv.key)=true:=decide_eq_true p1
      by_cases p2:y.main≤c
      ·have e2:decide (y.main≤c)=true:=decide_eq_true p2
       refine rT ?_ (V t0<|V t1<|V t5<|V t6<|V t7<|V t8<|V c0<|V vo<|V hlen<|V dj<|V dX<|V uv<|V q2<|V r0<|V r2<|V e1<|V e2<|w2);refine⟨M.length-(j+1),by rw[←hM];omega,j+1,a+1,rfl,by rw[←hM],by rw[←hM];omega,by omega,by exact sT,by exact sT,by exact sT,by exact sT,by rw[←hM,hl,e1,e2,Bool.and_self,aS,aal];exact sT,by exact sT,rfl⟩
      ·have e2:decide (y.main≤c)=false:=decide_eq_false p2
       refine rT ?_ (V t0<|V t1<|V t5<|V t6<|V t7<|V t8<|V c0<|V vo<|V hlen<|V dj<|V dX<|V uv<|V q2<|V r0<|V r2<|V e1<|V e2<|w2);refine⟨M.length-(j+1),by rw[←hM];omega,j+1,a+1,rfl,by rw[←hM],by rw[←hM];omega,by omega,by exact sT,by exact sT,by exact sT,by exact sT,by rw[←hM,hl,e2,aal,aN,aam];exact sT,by exact sT,rfl⟩
     ·have e1:decide (y.kv.key=x.kv.key)=false:=decide_eq_false p1
      refine rT ?_ (V t0<|V t1<|V t5<|V t6<|V t7<|V t8<|V c0<|V vo<|V hlen<|V dj<|V dX<|V uv<|V q2<|V r0<|V r2<|V e1<|w2);refine⟨M.length-(j+1),by rw[←hM];omega,j+1,a+1,rfl,by rw[←hM],by rw[←hM];omega,by omega,by exact sT,by exact sT,by exact sT,by exact sT,by rw[←hM,hl,e1,aak,aN,aam];exact sT,by exact sT,rfl⟩
    ·have dj:decide (a<L.length)=false:=decide_eq_false (by omega)
     obtain rfl:j=M.length:=by omega
     rw[aK]at t7;have hk:lT c L i x=qb c x.kv.key M:=by unfold lT;rw[qt,decide_eq_true p,hM];rfl
     cases ql:qb c x.kv.key M with
     |false=>
      rw[ql]at t7;refine rN ?_ (V t0<|V t1<|V t5<|V t6<|V t7<|V t8<|V c0<|V vo<|V hlen<|V dj<|w1);exact stay (by rw[hk,ql]) _ (by exact sT) (by exact sT) (by exact sT) (by exact sT)
     | true=>
      rw[ql]at t7;rw[hk,ql,if_pos rfl]at hs;obtain⟨h3,cB⟩:∃h3,h3=h'.bq 89 (Sk (x.main,x.sub)):=⟨_,rfl⟩;have o3:Og h' h3 []:=by rw[cB];exact(Og.refl _ _).new _ _
      have x3:h3.nx=h'.nx+1:=by rw[cB];rfl
      have eZ:h3.row h'.nx 0 2=some (Sk (x.main,x.sub)):=gK (o:=0) (cs:=Sk (x.main,x.sub)) (fun j hj=>by rw[cB,bJ,aA,if_pos rfl]) (by simp[Sk]);have Mx:bK 2 h0.nx h3 w _ _:=gr.bG o3.1.1 (fun d e=>o3.1.2 d (gr.base e).2 (by simp));unfold Sk at cB;refine rN ?_ (V t0<|V t1<|V t5<|V t6<|V t7<|V t8<|V c0<|V vo<|V hlen<|V dj<|V dX<|V q0<|V q1<|V nR<|V cB.symm<|eZ);have x0:=oo.1.1;refine dz (m:=1) (new:=Sk (x.main,x.sub)) Mx (by omega) (by omega) (by omega) rfl (by omega) (fun v6 h6 g6 x6 II bl6 Zm=>?_);have Ut:=g6.one;refine rN ?_ (V t0<|V t1<|V t5<|V t6<|V t7<|V t8<|V Ut<|w1);refine⟨L.length-(i+1),by omega,i+1,v6,rfl,rfl,by omega,by exact sT,by exact sT,by exact sT,by exact sT,?_,⟨⟨by omega,fun d hd _=>?_⟩,by rw[Zm,o3.2,oo.2]⟩⟩
      ·rw[hs,al,aX]
       simpa using g6
      ·rw[II d (by omega) (fun e=>by have:=(Mx.base e).1;omega),o3.1.2 d (by omega) (by simp),oo.1.2 d hd (by simp)]
   ·have d1:decide (c<x.main)=true:=decide_eq_true (by omega)
    refine rN ?_ (V t0<|V t1<|V t5<|V t6<|V c0<|V vo<|V hlen<|V di<|V dX<|V q0<|V q7<|V d1<|w1);exact stay (by unfold lT;rw[decide_eq_false p,aal];rfl) _ (by exact sT) (by exact sT) (by exact sT) (by exact sT)
 ·have di:decide (i<L.length)=false:=decide_eq_false hi
  obtain rfl:i=L.length:=by omega
  refine rN ?_ (V t0<|V t1<|V t5<|V t6<|V c0<|V vo<|V nR<|V hlen<|di);exact⟨oo,gr⟩
theorem lessC(h0:H)(x y:Rec):bW P (.enter 84 [.agg x.cs,.agg y.cs] h0) (cQ h0 (.bool (tG x y))):=by
 obtain⟨h1,cC⟩:∃h1,h1=h0.bq 91 x.cs:=⟨_,rfl⟩;obtain⟨h2,cJ⟩:∃h2,h2=h1.bq 91 y.cs:=⟨_,rfl⟩;have o1:Og h0 h1 []:=by rw[cC];exact(Og.refl _ _).new _ _
 have o2:Og h1 h2 []:=by rw[cJ];exact(Og.refl _ _).new _ _
 have x1:h1.nx=h0.nx+1:=by rw[cC];rfl
 have C1:bj h1 h0.nx 0 x.cs:=by rw[cC];exact bj.new _ _ _
 have C2:bj h2 h1.nx 0 y.cs:=by rw[cJ];exact bj.new _ _ _
 have D1:=gC C1 o2 (by omega) (by simp);obtain⟨a0,a1,a2,-,-,-,-,-⟩:=D1.u8;obtain⟨b0,b1,b2,-,-,-,-,-⟩:=C2.u8;have f_:=o1.t o2;have KJ:=bxR h0 x;have OZ:=bxR h1 y;rw[←cC]at KJ;rw[←cJ]at OZ;unfold tG K8;by_cases q:x.kv.key=y.kv.key
 ·have d:decide (x.kv.key=y.kv.key)=true:=decide_eq_true q
  rw[if_pos q];by_cases q1:x.main<y.main
  ·have d1:decide (x.main<y.main)=true:=decide_eq_true q1
   refine bn (fn:=Tryz.f84) (c:=bD Tryz.f84) Tryz.func84 rfl ?_;show bB P 84 44 none _ _ _ _ _;refine bp ?_;refine rN ?_ (V KJ<|V OZ<|V a0<|V a1<|V a2<|V b0<|V b1<|V b2<|V d<|V d1<|@aS);exact⟨by simp,f_⟩
  ·have d1:decide (x.main<y.main)=false:=decide_eq_false q1
   by_cases q2:x.main=y.main
   ·have d2:decide (x.main=y.main)=true:=decide_eq_true q2
    refine bn (fn:=Tryz.f84) (c:=bD Tryz.f84) Tryz.func84 rfl ?_;show bB P 84 44 none _ _ _ _ _;refine bp ?_;refine rN ?_ (V KJ<|V OZ<|V a0<|V a1<|V a2<|V b0<|V b1<|V b2<|V d<|V d1<|V d2<|@aS);exact⟨by simp,f_⟩
   ·have d2:decide (x.main=y.main)=false:=decide_eq_false q2
    refine bn (fn:=Tryz.f84) (c:=bD Tryz.f84) Tryz.func84 rfl ?_;show bB P 84 44 none _ _ _ _ _;refine bp ?_;refine rN ?_ (V KJ<|V OZ<|V a0<|V a1<|V a2<|V b0<|V b1<|V b2<|V d<|V d1<|V d2<|@aS);exact⟨by simp,f_⟩
 ·have d:decide (x.kv.key=y.kv.key)=false:=decide_eq_false q
  rw[if_neg q];refine bn (fn:=Tryz.f84) (c:=bD Tryz.f84) Tryz.func84 rfl ?_;show bB P 84 44 none _ _ _ _ _;refine bp ?_;refine rN ?_ (V KJ<|V OZ<|V a0<|V a1<|V a2<|V b0<|V b1<|V b2<|V d<|V @aN<|@ji);exact⟨rfl,f_⟩
theorem Og.up{h h':H}(o:Og h h' [])(S:List Nat):Og h h' S:=⟨⟨o.1.1,fun c hc _=>o.1.2 c hc (by simp)⟩,o.2⟩
theorem sL{α:Type}{cs:α→List AV}{sz:Nat}(hs:∀x,(cs x).length=sz):∀l:List α,(l.flatMap cs).length=l.length*sz
 |[]=>by simp
 |a::l=>by rw[List.flatMap_cons,al,hs,sL hs l,aP,Nat.add_mul];omega
theorem W0{base:Nat}{h:H}{b n:Nat}{cap:ur}{rs:List Rec}(hg:bK 8 base h (.slice b 0 n cap) n (rs.flatMap Rec.cs))(hr:rs.length=n){j:Nat}(hj:j<n)(y:Rec):bK 8 base (h.cm b (j*8) y.cs) (.slice b 0 n cap) n ((rs.set j y).flatMap Rec.cs):=by
 obtain⟨cs,gI⟩:∃cs,cs=rs.flatMap Rec.cs:=⟨_,rfl⟩;rw[←gI]at hg;cases hg with
 | cell b n _ t' ty h1 h2 h3 h4 h5=>
  have e:h.cm b (j*8) y.cs={h with t:=h.t.set b (some (.cells (n*8) (Bd t' (j*8) y.cs) ⟨8,ty⟩ false))}:=by unfold H.cm;rw[h4]
  rw[e];refine .cell b n _ (Bd t' (j*8) y.cs) ty h1 h2 (by rw[sL Rec.len,List.length_set,hr]) (by rw[T.bS,if_pos rfl]) (fun i=>?_);rw[Be,h5,gI];by_cases hi:i<n*8
  ·have ei:i=i/8*8+i%8:=by omega
   have hq:i/8<n:=by omega
   obtain⟨z,hz⟩:∃z,rs[i/8]? =some z:=⟨_,ao (by omega)⟩;have f1:=(vJ Rec.len hz (i%8) (aan _ (by omega))).1;rw[←ei]at f1;by_cases q:i/8=j
   ·have Lu:(rs.set j y)[i/8]? =some y:=by rw[q,List.getElem?_set,if_pos rfl,if_pos (by omega)]
    have f2:=(vJ Rec.len Lu (i%8) (aan _ (by omega))).1;rw[←ei]at f2;rw[f2,if_pos ⟨by omega,by rw[Rec.len];omega⟩];congr 1;omega
   ·have Lu:(rs.set j y)[i/8]? =some z:=by rw[List.getElem?_set,if_neg (fun e=>q e.symm)];exact hz
    have f2:=(vJ Rec.len Lu (i%8) (aan _ (by omega))).1;rw[←ei]at f2;rw[f2,if_neg (by rw[Rec.len];omega),f1]
  ·rw[if_neg (by rw[Rec.len];omega),aai (by rw[sL Rec.len];omega),aai (by rw[sL Rec.len,List.length_set];omega)]
theorem M9{α:Type}{l:List α}{k:Nat}(hk:k≤l.length)(g y:α):(l.take k++g::l.drop k).set k y=l.take k++y::l.drop k:=by
 have :(l.take k).length=k:=by rw[aR];omega
 rw[List.set_append,if_neg (by omega),this,aad];rfl
theorem M_{α:Type}{l:List α}{k:Nat}(hk:k≤l.length)(g:α):(l.take k++g::l.drop k).length=l.length+1:=by
 rw[al,aR,aP,aac];omega
theorem K_{α:Type}{l:List α}{k:Nat}(hk:k≤l.length)(g:α):(l.take k++g::l.drop k)[k]? =some g:=by
 have :(l.take k).length=k:=by rw[aR];omega
 rw[List.getElem?_append_right (by omega),this,aad];rfl
theorem Sl{α:Type}{l:List α}{k j:Nat}(hk:k≤l.length)(hj:j<k)(g:α):(l.take k++g::l.drop k)[j]? =l[j]? :=by
 rw[aF (by rw[aR];omega),aaq,if_pos hj]
theorem mid_dn{α:Type}{l:List α}{k:Nat}{y:α}(hy:l[k]? =some y):l.take (k+1)++y::l.drop (k+1)=l.take k++y::l.drop k:=by
 obtain⟨hk,e⟩:=List.getElem?_eq_some_iff.1 hy;rw[aC,hy,a_ hk,e];simp
structure InsI(tm0:T AV)(hk:H)(c b0:Nat)(x:Rec)(out:List Rec)(m:Nat)(ds:List Nat)(tm:T AV)(h:H)(g:Rec):Prop where
 ds:ds=[]
 kk:m≤out.length
 tt:∀j,j<13→tm.get j=tm0.get j
 t13:tm.get 13=some (.int .i64 (.ofNat m))
 gr:bK 8 b0 h (.slice c 0 (out.length+1) (.iK 0)) (out.length+1) ((out.take m++g::out.drop m).flatMap Rec.cs)
 oo:Og hk h [c]
 po:ik x out out.length=ik x out m
theorem Sm(h:H)(c b0:Nat)(x g:Rec)(out:List Rec)(m:Nat)(kk:m≤out.length)(gr:bK 8 b0 h (.slice c 0 (out.length+1) (.iK 0)) (out.length+1) ((out.take m++g::out.drop m).flatMap Rec.cs))(ki:Nat)(Y:bj h ki 0 x.cs)
  (tm:T AV)(t8:tm.get 8=some (.slice c 0 (out.length+1) (.iK 0)))(t10:tm.get 10=some (.ptr ki 0))(t13:tm.get 13=some (.int .i64 (.ofNat m)))(K:KQ)
  (hK:∀bZ h2,(∀j,j<13→bZ.get j=tm.get j)→Og h h2 [c]→bK 8 b0 h2 (.slice c 0 (out.length+1) (.iK 0)) (out.length+1) ((out.take m++x::out.drop m).flatMap Rec.cs)→K .norm [] bZ h2):
  bB P 45 104 none (bL (bD Tryz.f45) [1,1,1,1,1,1,1,0,0,1,0,0,1,0,1,1,1]) [] tm h K:=by
 obtain⟨y0,y1,y2,y3,y4,y5,y6,y7⟩:=Y.u8;have wr:=gr.wr;obtain⟨r0,r1,r2,r3,r4,r5,r6,r7⟩:=Rec.at gr.slice (K_ kk g);simp only[aA]at r0 r1 r2 r3 r4 r5 r6 r7;have dX:(m<out.length+1)=True:=by simp;omega
 obtain⟨h2,cJ⟩:∃h2,h2=h.cm c (m*8) x.cs:=⟨_,rfl⟩;have g2:=W0 gr (M_ kk g) (j:=m) (by omega) x;rw[M9 kk,←cJ]at g2;have o2:Og h h2 [c]:=by rw[cJ];exact(Og.refl _ _).cm (.inl (by simp))
 unfold Rec.cs at cJ;refine rN ?_ (V t8<|V t10<|V t13<|V y0<|V y1<|V y2<|V y3<|V y4<|V y5<|V y6<|V y7<|V dX<|V wr<|V r0<|V r1<|V r2<|V r3<|V r4<|V r5<|V r6<|V r7<|cJ.symm);refine hK _ _ (fun j hj=>?_) o2 g2;match j,hj with
 |0,_=>simp only[B,xB,F,ab,ae,af,ag,ah,ai, ↓reduceIte,eq_self]
 |1,_=>simp only[B,xB,F,ab,ae,af,ag,ah,ai, ↓reduceIte,eq_self]
 |2,_=>simp only[B,xB,F,ab,ae,af,ag,ah,ai, ↓reduceIte,eq_self]
 |3,_=>simp only[B,xB,F,ab,ae,af,ag,ah,ai, ↓reduceIte,eq_self]
 |4,_=>simp only[B,xB,F,ab,ae,af,ag,ah,ai, ↓reduceIte,eq_self]
 |5,_=>simp only[B,xB,F,ab,ae,af,ag,ah,ai, ↓reduceIte,eq_self]
 |6,_=>simp only[B,xB,F,ab,ae,af,ag,ah,ai, ↓reduceIte,eq_self]
 |7,_=>simp only[B,xB,F,ab,ae,af,ag,ah,ai, ↓reduceIte,eq_self]
 |8,_=>simp only[B,xB,F,ab,ae,af,ag,ah,ai, ↓reduceIte,eq_self]
 |9,_=>simp only[B,xB,F,ab,ae,af,ag,ah,ai, ↓reduceIte,eq_self]
 |10,_=>simp only[B,xB,F,ab,ae,af,ag,ah,ai, ↓reduceIte,eq_self]
 |11,_=>simp only[B,xB,F,ab,ae,af,ag,ah,ai, ↓reduceIte,eq_self]
 |12,_=>simp only[B,xB,F,ab,ae,af,ag,ah,ai, ↓reduceIte,eq_self]
theorem insW(hk:H)(c b0:Nat)(x g0:Rec)(out:List Rec)(gr:bK 8 b0 hk (.slice c 0 (out.length+1) (.iK 0)) (out.length+1) ((out++[g0]).flatMap Rec.cs))(hz:out.length≤900000)(ki:Nat)(Y:bj hk ki 0 x.cs)(l10:ki<hk.nx)(n10:ki≠c)
  (tm:T AV)(t8:tm.get 8=some (.slice c 0 (out.length+1) (.iK 0)))(t10:tm.get 10=some (.ptr ki 0))(t13:tm.get 13=some (.int .i64 (.ofNat out.length)))(K:KQ)
  (hK:∀bZ h2,(∀j,j<13→bZ.get j=tm.get j)→Og hk h2 [c]→bK 8 b0 h2 (.slice c 0 (out.length+1) (.iK 0)) (out.length+1) ((v8 x out).flatMap Rec.cs)→K .norm [] bZ h2):
  bB P 45 104 none (bL (bD Tryz.f45) [1,1,1,1,1,1,0,0,1,0,0,1,0,1,1,1]) [] tm hk K:=by
 have hbc:=gr.base rfl;refine kM ?_;refine cn (fun m ds tm' h=>∃g,InsI tm hk c b0 x out m ds tm' h g) out.length rfl ⟨g0,rfl,aJ _,fun _ _=>rfl,t13,by simpa using gr,Og.refl _ _,rfl⟩ (fun m ds tm' h hI=>?_);obtain⟨g,rfl,kk,tt,Vg,gr',oo,po⟩:=hI;have t8':=(tt 8 (by omega)).trans t8;have Di:=(tt 10 (by omega)).trans t10;have Y':bj h ki 0 x.cs:=gC Y oo l10 (by simp;exact n10);obtain⟨y0,y1,y2,y3,y4,y5,y6,y7⟩:=Y'.u8;by_cases m0:m=0
 ·subst m0
  have ep:ik x out out.length=0:=by rw[po];rfl
  refine rTs ?_ (@sc [1,1,1,1,1,1,1,0,0,1,0,0,1,0,1,1,1]) (V t8'<|V Di<|Vg);refine⟨?_⟩;refine Sm h c b0 x g out 0 kk gr' ki Y' _ (by exact sT) (by exact sT) (by exact sT) _ ?_;intro bZ h2 e2 o2 g2;refine hK bZ h2 (fun j hj=>(e2 j hj).trans ?_) (oo.s2 o2) (by unfold v8;rw[ep];exact g2);refine Eq.trans ?_ (tt j hj);revert j;intro j hj;match j,hj with
  |0,_=>simp only[B,xB,F,ab,ae,af,ag,ah,ai, ↓reduceIte,eq_self]
  |1,_=>simp only[B,xB,F,ab,ae,af,ag,ah,ai, ↓reduceIte,eq_self]
  |2,_=>simp only[B,xB,F,ab,ae,af,ag,ah,ai, ↓reduceIte,eq_self]
  |3,_=>simp only[B,xB,F,ab,ae,af,ag,ah,ai, ↓reduceIte,eq_self]
  |4,_=>simp only[B,xB,F,ab,ae,af,ag,ah,ai, ↓reduceIte,eq_self]
  |5,_=>simp only[B,xB,F,ab,ae,af,ag,ah,ai, ↓reduceIte,eq_self]
  |6,_=>simp only[B,xB,F,ab,ae,af,ag,ah,ai, ↓reduceIte,eq_self]
  |7,_=>simp only[B,xB,F,ab,ae,af,ag,ah,ai, ↓reduceIte,eq_self]
  |8,_=>simp only[B,xB,F,ab,ae,af,ag,ah,ai, ↓reduceIte,eq_self]
  |9,_=>simp only[B,xB,F,ab,ae,af,ag,ah,ai, ↓reduceIte,eq_self]
  |10,_=>simp only[B,xB,F,ab,ae,af,ag,ah,ai, ↓reduceIte,eq_self]
  |11,_=>simp only[B,xB,F,ab,ae,af,ag,ah,ai, ↓reduceIte,eq_self]
  |12,_=>simp only[B,xB,F,ab,ae,af,ag,ah,ai, ↓reduceIte,eq_self]
 ·obtain⟨k,hm⟩:∃k,m=k+1:=⟨m-1,by omega⟩
  have d0:decide (0<m)=true:=decide_eq_true (by omega);have ws:bV .i64 (ak m-ak 1)=ak k:=by rw[sD (by omega) (by omega)];congr 1;omega
  have dX:(m<out.length+1)=True:=by simp;omega
  have uv:(k<out.length+1)=True:=by simp;omega
  obtain⟨y,hy⟩:∃y,out[k]? =some y:=⟨_,ao (by omega)⟩;obtain⟨p0,p1,p2,p3,p4,p5,p6,p7⟩:=Rec.at gr'.slice ((Sl kk (j:=k) (by omega) g).trans hy);obtain⟨q0,q1,q2,q3,q4,q5,q6,q7⟩:=Rec.at gr'.slice (K_ kk g);simp only[aA]at p0 p1 p2 p3 p4 p5 p6 p7 q0 q1 q2 q3 q4 q5 q6 q7;have ep:ik x out m=if tG x y then ik x out k else k+1:=by
   rw[hm]
   conv =>lhs;unfold ik
   rw[hy]
  have lc:=lessC h x y;unfold Rec.cs at lc;refine rT ?_ (V t8'<|V Di<|V Vg<|V d0<|V ws<|V uv<|V p0<|V p1<|V p2<|V p3<|V p4<|V p5<|V p6<|V p7<|V y0<|V y1<|V y2<|V y3<|V y4<|V y5<|V y6<|y7);refine(lc.call P).mono P ?_;rintro _ h2 ⟨rfl,o2⟩;have x2:=o2.1.1;have hbc2:=gr'.base rfl;have yJ:bK 8 b0 h2 (.slice c 0 (out.length+1) (.iK 0)) _ _:=gr'.bG x2 (fun d e=>o2.1.2 d (gr'.base e).2 (by simp));have Y2:bj h2 ki 0 x.cs:=gC Y' o2 (by have:=oo.1.1;omega) (by simp);obtain⟨z0,z1,z2,z3,z4,z5,z6,z7⟩:=Y2.u8;cases ql:tG x y with
  |false=>
   rw[ql,if_neg (by simp)]at ep;refine rTs ?_ (@sc [1,1,1,1,1,1,1,0,0,1,0,0,1,0,1,1,1]) (V t8'<|V Di<|V Vg<|V d0<|V ws<|uv);refine⟨?_⟩;refine Sm h2 c b0 x g out m kk yJ ki Y2 _ (by exact sT) (by exact sT) (by exact sT) _ ?_;intro bZ h3 e3 o3 g3;refine hK bZ h3 (fun j hj=>(e3 j hj).trans ?_) ((oo.s2 (o2.up _)).s2 o3) (by unfold v8;rw[po,ep,←hm];exact g3);refine Eq.trans ?_ (tt j hj);revert j;intro j hj;match j,hj with
   |0,_=>simp only[B,xB,F,ab,ae,af,ag,ah,ai, ↓reduceIte,eq_self]
   |1,_=>simp only[B,xB,F,ab,ae,af,ag,ah,ai, ↓reduceIte,eq_self]
   |2,_=>simp only[B,xB,F,ab,ae,af,ag,ah,ai, ↓reduceIte,eq_self]
   |3,_=>simp only[B,xB,F,ab,ae,af,ag,ah,ai, ↓reduceIte,eq_self]
   |4,_=>simp only[B,xB,F,ab,ae,af,ag,ah,ai, ↓reduceIte,eq_self]
   |5,_=>simp only[B,xB,F,ab,ae,af,ag,ah,ai, ↓reduceIte,eq_self]
   |6,_=>simp only[B,xB,F,ab,ae,af,ag,ah,ai, ↓reduceIte,eq_self]
   |7,_=>simp only[B,xB,F,ab,ae,af,ag,ah,ai, ↓reduceIte,eq_self]
   |8,_=>simp only[B,xB,F,ab,ae,af,ag,ah,ai, ↓reduceIte,eq_self]
   |9,_=>simp only[B,xB,F,ab,ae,af,ag,ah,ai, ↓reduceIte,eq_self]
   |10,_=>simp only[B,xB,F,ab,ae,af,ag,ah,ai, ↓reduceIte,eq_self]
   |11,_=>simp only[B,xB,F,ab,ae,af,ag,ah,ai, ↓reduceIte,eq_self]
   |12,_=>simp only[B,xB,F,ab,ae,af,ag,ah,ai, ↓reduceIte,eq_self]
  |true=>
   rw[ql,if_pos rfl]at ep;obtain⟨r0,r1,r2,r3,r4,r5,r6,r7⟩:=Rec.at yJ.slice ((Sl kk (j:=k) (by omega) g).trans hy);obtain⟨s0,s1,s2,s3,s4,s5,s6,s7⟩:=Rec.at yJ.slice (K_ kk g);simp only[aA]at r0 r1 r2 r3 r4 r5 r6 r7 s0 s1 s2 s3 s4 s5 s6 s7;have Jy:=yJ.wr;obtain⟨h3,cB⟩:∃h3,h3=h2.cm c (m*8) y.cs:=⟨_,rfl⟩;have g3:=W0 yJ (M_ kk g) (j:=m) (by omega) y;rw[M9 kk,←cB]at g3;have o3:Og h2 h3 [c]:=by rw[cB];exact(Og.refl _ _).cm (.inl (by simp))
   unfold Rec.cs at cB;refine rT ?_ (V t8'<|V Di<|V Vg<|V d0<|V ws<|V dX<|V uv<|V Jy<|V r0<|V r1<|V r2<|V r3<|V r4<|V r5<|V r6<|V r7<|V s0<|V s1<|V s2<|V s3<|V s4<|V s5<|V s6<|V s7<|V y0<|V y1<|V y2<|V y3<|V y4<|V y5<|V y6<|V y7<|V z0<|V z1<|V z2<|V z3<|V z4<|V z5<|V z6<|V z7<|cB.symm);rw[hm,mid_dn hy]at g3;refine⟨k,by omega,y,rfl,by omega,fun j hj=>?_,by exact sT,g3,(oo.s2 (o2.up _)).s2 o3,by rw[po,ep]⟩;refine Eq.trans ?_ (tt j hj);revert j;intro j hj;match j,hj with
   |0,_=>simp only[B,xB,F,ab,ae,af,ag,ah,ai, ↓reduceIte,eq_self]
   |1,_=>simp only[B,xB,F,ab,ae,af,ag,ah,ai, ↓reduceIte,eq_self]
   |2,_=>simp only[B,xB,F,ab,ae,af,ag,ah,ai, ↓reduceIte,eq_self]
   |3,_=>simp only[B,xB,F,ab,ae,af,ag,ah,ai, ↓reduceIte,eq_self]
   |4,_=>simp only[B,xB,F,ab,ae,af,ag,ah,ai, ↓reduceIte,eq_self]
   |5,_=>simp only[B,xB,F,ab,ae,af,ag,ah,ai, ↓reduceIte,eq_self]
   |6,_=>simp only[B,xB,F,ab,ae,af,ag,ah,ai, ↓reduceIte,eq_self]
   |7,_=>simp only[B,xB,F,ab,ae,af,ag,ah,ai, ↓reduceIte,eq_self]
   |8,_=>simp only[B,xB,F,ab,ae,af,ag,ah,ai, ↓reduceIte,eq_self]
   |9,_=>simp only[B,xB,F,ab,ae,af,ag,ah,ai, ↓reduceIte,eq_self]
   |10,_=>simp only[B,xB,F,ab,ae,af,ag,ah,ai, ↓reduceIte,eq_self]
   |11,_=>simp only[B,xB,F,ab,ae,af,ag,ah,ai, ↓reduceIte,eq_self]
   |12,_=>simp only[B,xB,F,ab,ae,af,ag,ah,ai, ↓reduceIte,eq_self]
theorem u147a:P.underlying 147=some (.slice 89):=by kernel_rfl
structure HkI(tm0:T AV)(hk:H)(ks:List (Nat×Nat))(p:Nat×Nat)(b:Bool)(m:Nat)(ds:List Nat)(tm:T AV)(h:H)(j:Nat):Prop where
 ds:ds=[]
 nn:m=ks.length-j
 jj:j≤ks.length
 tt:∀j,j<11→tm.get j=tm0.get j
 t11:tm.get 11=some (.bool (b||decide (p∈ks.take j)))
 t12:tm.get 12=some (.int .i64 (.ofNat j))
 he:h=hk
theorem histIn(h:H)(ks:List (Nat×Nat))(v7:AV)(sl:br h v7 ks.length (ks.flatMap Sk))(hz:ks.length≤900000)(x:Rec)(b:Bool)(ki:Nat)(Y:bj h ki 0 x.cs)(tm:T AV)(t7:tm.get 7=some v7)(t10:tm.get 10=some (.ptr ki 0))(t11:tm.get 11=some (.bool b))(K:KQ)
  (hK:∀bZ,(∀j,j<11→bZ.get j=tm.get j)→bZ.get 11=some (.bool (b||decide ((x.main,x.sub)∈ks)))→K .norm [] bZ h):
  bB P 45 104 none (bL (bD Tryz.f45) [0,1,1,0,0,1,0,0,1,0,1,1,1]) [] tm h K:=by
 have hlen:=sl.len (P:=P) u147a;obtain⟨y0,y1,-,-,-,-,-,-⟩:=Y.u8;refine kM ?_;refine cn (fun m ds tm' h'=>∃j,HkI tm h ks (x.main,x.sub) b m ds tm' h' j) ks.length rfl ⟨0,rfl,rfl,az _,fun j hj=>?_,?_,by exact sT,rfl⟩ (fun m ds tm' h' hI=>?_)
 ·match j,hj with
  |0,_=>simp only[B,xB,F,ab,ae,af,ag,ah,ai, ↓reduceIte,eq_self]
  |1,_=>simp only[B,xB,F,ab,ae,af,ag,ah,ai, ↓reduceIte,eq_self]
  |2,_=>simp only[B,xB,F,ab,ae,af,ag,ah,ai, ↓reduceIte,eq_self]
  |3,_=>simp only[B,xB,F,ab,ae,af,ag,ah,ai, ↓reduceIte,eq_self]
  |4,_=>simp only[B,xB,F,ab,ae,af,ag,ah,ai, ↓reduceIte,eq_self]
  |5,_=>simp only[B,xB,F,ab,ae,af,ag,ah,ai, ↓reduceIte,eq_self]
  |6,_=>simp only[B,xB,F,ab,ae,af,ag,ah,ai, ↓reduceIte,eq_self]
  |7,_=>simp only[B,xB,F,ab,ae,af,ag,ah,ai, ↓reduceIte,eq_self]
  |8,_=>simp only[B,xB,F,ab,ae,af,ag,ah,ai, ↓reduceIte,eq_self]
  |9,_=>simp only[B,xB,F,ab,ae,af,ag,ah,ai, ↓reduceIte,eq_self]
  |10,_=>simp only[B,xB,F,ab,ae,af,ag,ah,ai, ↓reduceIte,eq_self]
 ·rw[aV,show decide ((x.main,x.sub)∈([]:List (Nat×Nat)))=false by simp,Bool.or_false]
  exact sT
 obtain⟨j,rfl,rfl,jj,tt,Jg,t12,rfl⟩:=hI;have t7':=(tt 7 (by omega)).trans t7;have Di:=(tt 10 (by omega)).trans t10;by_cases hj:j<ks.length
 ·have dj:decide (j<ks.length)=true:=decide_eq_true hj
  have dX:(j<ks.length)=True:=by simp[hj]
  obtain⟨p,hp⟩:∃p,ks[j]? =some p:=⟨_,ao hj⟩;obtain⟨bv,ov,cv,rfl,qw,-⟩:=sl.place (by omega);have e0:cellAt h' bv (ov+j*2)=some (.int .u64 (.ofNat p.1)):=jv M8 sl hp (k:=0) (by omega);have e1:cellAt h' bv (ov+(j*2+1))=some (.int .u64 (.ofNat p.2)):=jv M8 sl hp (k:=1) (by omega);have w1:bV .i64 (ak j+ak 1)=ak (j+1):=cq (by omega);have hm:decide ((x.main,x.sub)∈ks.take (j+1))=(decide ((x.main,x.sub)∈ks.take j)||(decide (p.1=x.main)&&decide (p.2=x.sub))):=by
   rw[aC,hp,aag];simp only[Option.toList_some,aL,au,aah,aQ,decide_eq_true_iff];constructor
   ·rintro(h|rfl)
    ·exact .inl h
    ·exact .inr ⟨rfl,rfl⟩
   ·rintro(h|⟨h1,h2⟩)
    ·exact .inl h
    ·exact .inr (Prod.ext h1.symm h2.symm)
  obtain⟨a,ha⟩:∃a,a=(b||decide ((x.main,x.sub)∈ks.take j)):=⟨_,rfl⟩;have hn:(b||decide ((x.main,x.sub)∈ks.take (j+1)))=(a||(decide (p.1=x.main)&&decide (p.2=x.sub))):=by rw[hm,ha,Bool.or_assoc]
  rw[←ha]at Jg;have nx:∀bZ:T AV,(∀j,j<11→bZ.get j=tm'.get j)→bZ.get 11=some (.bool (a||(decide (p.1=x.main)&&decide (p.2=x.sub))))→bZ.get 12=some (.int .i64 (.ofNat (j+1)))→∃m,m<ks.length-j∧∃j,HkI tm h' ks (x.main,x.sub) b m [] bZ h' j:=fun bZ g1 g2 g3=>
   ⟨ks.length-(j+1),by omega,j+1,rfl,rfl,by omega,fun i hi=>(g1 i hi).trans (tt i hi),by rw[hn];exact g2,g3,rfl⟩
  cases a with
  |true=>
   refine rT ?_ (V t7'<|V Di<|V Jg<|V t12<|V hlen<|V dj<|V dX<|w1);refine nx _ (fun j hj=>?_) (by simp only[B,xB,F,ab,ae,af,ag,ah,ai, ↓reduceIte,eq_self,Jg,Bool.true_or]) (by exact sT);match j,hj with
   |0,_=>simp only[B,xB,F,ab,ae,af,ag,ah,ai, ↓reduceIte,eq_self]
   |1,_=>simp only[B,xB,F,ab,ae,af,ag,ah,ai, ↓reduceIte,eq_self]
   |2,_=>simp only[B,xB,F,ab,ae,af,ag,ah,ai, ↓reduceIte,eq_self]
   |3,_=>simp only[B,xB,F,ab,ae,af,ag,ah,ai, ↓reduceIte,eq_self]
   |4,_=>simp only[B,xB,F,ab,ae,af,ag,ah,ai, ↓reduceIte,eq_self]
   |5,_=>simp only[B,xB,F,ab,ae,af,ag,ah,ai, ↓reduceIte,eq_self]
   |6,_=>simp only[B,xB,F,ab,ae,af,ag,ah,ai, ↓reduceIte,eq_self]
   |7,_=>simp only[B,xB,F,ab,ae,af,ag,ah,ai, ↓reduceIte,eq_self]
   |8,_=>simp only[B,xB,F,ab,ae,af,ag,ah,ai, ↓reduceIte,eq_self]
   |9,_=>simp only[B,xB,F,ab,ae,af,ag,ah,ai, ↓reduceIte,eq_self]
   |10,_=>simp only[B,xB,F,ab,ae,af,ag,ah,ai, ↓reduceIte,eq_self]
  | false=>
   by_cases q1:p.1=x.main
   ·have d1:decide (p.1=x.main)=true:=decide_eq_true q1
    by_cases q2:p.2=x.sub
    ·have d2:decide (p.2=x.sub)=true:=decide_eq_true q2
     refine rT ?_ (V t7'<|V Di<|V Jg<|V t12<|V hlen<|V dj<|V dX<|V e0<|V e1<|V y0<|V y1<|V d1<|V d2<|w1);refine nx _ (fun j hj=>?_) (by rw[d1,d2];simp only[B,xB,F,ab,ae,af,ag,ah,ai, ↓reduceIte,eq_self];rfl) (by simp only[B,xB,F,ab,ae,af,ag,ah,ai, ↓reduceIte,eq_self]);match j,hj with
     |0,_=>simp only[B,xB,F,ab,ae,af,ag,ah,ai, ↓reduceIte,eq_self]
     |1,_=>simp only[B,xB,F,ab,ae,af,ag,ah,ai, ↓reduceIte,eq_self]
     |2,_=>simp only[B,xB,F,ab,ae,af,ag,ah,ai, ↓reduceIte,eq_self]
     |3,_=>simp only[B,xB,F,ab,ae,af,ag,ah,ai, ↓reduceIte,eq_self]
     |4,_=>simp only[B,xB,F,ab,ae,af,ag,ah,ai, ↓reduceIte,eq_self]
     |5,_=>simp only[B,xB,F,ab,ae,af,ag,ah,ai, ↓reduceIte,eq_self]
     |6,_=>simp only[B,xB,F,ab,ae,af,ag,ah,ai, ↓reduceIte,eq_self]
     |7,_=>simp only[B,xB,F,ab,ae,af,ag,ah,ai, ↓reduceIte,eq_self]
     |8,_=>simp only[B,xB,F,ab,ae,af,ag,ah,ai, ↓reduceIte,eq_self]
     |9,_=>simp only[B,xB,F,ab,ae,af,ag,ah,ai, ↓reduceIte,eq_self]
     |10,_=>simp only[B,xB,F,ab,ae,af,ag,ah,ai, ↓reduceIte,eq_self]
    ·have d2:decide (p.2=x.sub)=false:=decide_eq_false q2
     refine rT ?_ (V t7'<|V Di<|V Jg<|V t12<|V hlen<|V dj<|V dX<|V e0<|V e1<|V y0<|V y1<|V d1<|V d2<|w1);refine nx _ (fun j hj=>?_) (by rw[d1,d2];simp only[B,xB,F,ab,ae,af,ag,ah,ai, ↓reduceIte,eq_self];rfl) (by simp only[B,xB,F,ab,ae,af,ag,ah,ai, ↓reduceIte,eq_self]);match j,hj with
     |0,_=>simp only[B,xB,F,ab,ae,af,ag,ah,ai, ↓reduceIte,eq_self]
     |1,_=>simp only[B,xB,F,ab,ae,af,ag,ah,ai, ↓reduceIte,eq_self]
     |2,_=>simp only[B,xB,F,ab,ae,af,ag,ah,ai, ↓reduceIte,eq_self]
     |3,_=>simp only[B,xB,F,ab,ae,af,ag,ah,ai, ↓reduceIte,eq_self]
     |4,_=>simp only[B,xB,F,ab,ae,af,ag,ah,ai, ↓reduceIte,eq_self]
     |5,_=>simp only[B,xB,F,ab,ae,af,ag,ah,ai, ↓reduceIte,eq_self]
     |6,_=>simp only[B,xB,F,ab,ae,af,ag,ah,ai, ↓reduceIte,eq_self]
     |7,_=>simp only[B,xB,F,ab,ae,af,ag,ah,ai, ↓reduceIte,eq_self]
     |8,_=>simp only[B,xB,F,ab,ae,af,ag,ah,ai, ↓reduceIte,eq_self]
     |9,_=>simp only[B,xB,F,ab,ae,af,ag,ah,ai, ↓reduceIte,eq_self]
     |10,_=>simp only[B,xB,F,ab,ae,af,ag,ah,ai, ↓reduceIte,eq_self]
   ·have d1:decide (p.1=x.main)=false:=decide_eq_false q1
    refine rT ?_ (V t7'<|V Di<|V Jg<|V t12<|V hlen<|V dj<|V dX<|V e0<|V e1<|V y0<|V y1<|V d1<|w1);refine nx _ (fun j hj=>?_) (by rw[d1];simp only[B,xB,F,ab,ae,af,ag,ah,ai, ↓reduceIte,eq_self,aak];rfl) (by exact sT);match j,hj with
    |0,_=>simp only[B,xB,F,ab,ae,af,ag,ah,ai, ↓reduceIte,eq_self]
    |1,_=>simp only[B,xB,F,ab,ae,af,ag,ah,ai, ↓reduceIte,eq_self]
    |2,_=>simp only[B,xB,F,ab,ae,af,ag,ah,ai, ↓reduceIte,eq_self]
    |3,_=>simp only[B,xB,F,ab,ae,af,ag,ah,ai, ↓reduceIte,eq_self]
    |4,_=>simp only[B,xB,F,ab,ae,af,ag,ah,ai, ↓reduceIte,eq_self]
    |5,_=>simp only[B,xB,F,ab,ae,af,ag,ah,ai, ↓reduceIte,eq_self]
    |6,_=>simp only[B,xB,F,ab,ae,af,ag,ah,ai, ↓reduceIte,eq_self]
    |7,_=>simp only[B,xB,F,ab,ae,af,ag,ah,ai, ↓reduceIte,eq_self]
    |8,_=>simp only[B,xB,F,ab,ae,af,ag,ah,ai, ↓reduceIte,eq_self]
    |9,_=>simp only[B,xB,F,ab,ae,af,ag,ah,ai, ↓reduceIte,eq_self]
    |10,_=>simp only[B,xB,F,ab,ae,af,ag,ah,ai, ↓reduceIte,eq_self]
 ·have dj:decide (j<ks.length)=false:=decide_eq_false hj
  obtain rfl:j=ks.length:=by omega
  rw[aK]at Jg;refine rN ?_ (V t7'<|V Di<|V Jg<|V t12<|V hlen<|dj);refine hK _ (fun j hj=>Eq.trans ?_ (tt j hj)) (by exact sT);match j,hj with
  |0,_=>simp only[B,xB,F,ab,ae,af,ag,ah,ai, ↓reduceIte,eq_self]
  |1,_=>simp only[B,xB,F,ab,ae,af,ag,ah,ai, ↓reduceIte,eq_self]
  |2,_=>simp only[B,xB,F,ab,ae,af,ag,ah,ai, ↓reduceIte,eq_self]
  |3,_=>simp only[B,xB,F,ab,ae,af,ag,ah,ai, ↓reduceIte,eq_self]
  |4,_=>simp only[B,xB,F,ab,ae,af,ag,ah,ai, ↓reduceIte,eq_self]
  |5,_=>simp only[B,xB,F,ab,ae,af,ag,ah,ai, ↓reduceIte,eq_self]
  |6,_=>simp only[B,xB,F,ab,ae,af,ag,ah,ai, ↓reduceIte,eq_self]
  |7,_=>simp only[B,xB,F,ab,ae,af,ag,ah,ai, ↓reduceIte,eq_self]
  |8,_=>simp only[B,xB,F,ab,ae,af,ag,ah,ai, ↓reduceIte,eq_self]
  |9,_=>simp only[B,xB,F,ab,ae,af,ag,ah,ai, ↓reduceIte,eq_self]
  |10,_=>simp only[B,xB,F,ab,ae,af,ag,ah,ai, ↓reduceIte,eq_self]
theorem Sn{size base:Nat}{h:H}{v:AV}{n:Nat}{cs:List AV}(g:bK size base h v n cs)(hn:0<n):∃c,v= .slice c 0 n (.iK 0):=by
 cases g with
 |none=>omega
 |cell b _ _ _ _=>exact⟨b,rfl⟩
structure Lo(base:Nat)(h h':H):Prop where
 nx:h.nx≤h'.nx
 old:∀d,d<base→h'.t.get d=h.t.get d
 g:h'.g=h.g
theorem Cq(h:H)(base:Nat)(ks:List (Nat×Nat))(v7:AV)(sl:br h v7 ks.length (ks.flatMap Sk))(hkz:ks.length≤900000)(x:Rec)(b0:Bool)(ki:Nat)(Y:bj h ki 0 x.cs)(l10:ki<h.nx)(lb:base≤ki)(out:List Rec)(w:AV)(gr:bK 8 base h w out.length (out.flatMap Rec.cs))(hz:out.length≤900000)(nb:∀c,bA w=some c→c≠ki)
  (tm:T AV)(t7:tm.get 7=some v7)(t8:tm.get 8=some w)(t10:tm.get 10=some (.ptr ki 0))(t11:tm.get 11=some (.bool b0))(K:KQ)
  (hK:∀o bZ h2 w2,(o= .norm∨o= .exit 1)→(∀j,j<10→j≠8→bZ.get j=tm.get j)→bZ.get 8=some w2→Lo base h h2→bK 8 base h2 w2 (if b0||decide ((x.main,x.sub)∈ks)then v8 x out else out).length ((if b0||decide ((x.main,x.sub)∈ks)then v8 x out else out).flatMap Rec.cs)→K o [] bZ h2):
  bB P 45 104 none (bL (bD Tryz.f45) [1,1,0,0,1,0,0,1,0,1,1,1]) [] tm h K:=by
 have nR:=gr.one;have hl8:=gr.slice.len (P:=P) jl;obtain⟨y0,y1,y2,y3,y4,y5,y6,y7⟩:=Y.u8;refine Iy ?_ (@sc [0,1,1,0,0,1,0,0,1,0,1,1,1]);refine⟨?_⟩;refine histIn h ks v7 sl hkz x b0 ki Y tm t7 t10 t11 _ ?_;intro tm1 e1 s11;have s8:=(e1 8 (by omega)).trans t8;have s10:=(e1 10 (by omega)).trans t10;obtain⟨a,ha⟩:∃a,a=(b0||decide ((x.main,x.sub)∈ks)):=⟨_,rfl⟩;rw[←ha]at s11 hK;cases a with
 |false=>
  refine rN ?_ (V s8<|V s10<|V s11<|@aN);refine hK _ _ h w (.inr rfl) (fun j hj _=>Eq.trans ?_ (e1 j (by omega))) (by exact sT) ⟨aJ _,fun _ _=>rfl,rfl⟩ (by rw[if_neg (by simp)];exact gr);revert j;intro j hj _;match j,hj with
  |0,_=>simp only[B,xB,F,ab,ae,af,ag,ah,ai, ↓reduceIte,eq_self]
  |1,_=>simp only[B,xB,F,ab,ae,af,ag,ah,ai, ↓reduceIte,eq_self]
  |2,_=>simp only[B,xB,F,ab,ae,af,ag,ah,ai, ↓reduceIte,eq_self]
  |3,_=>simp only[B,xB,F,ab,ae,af,ag,ah,ai, ↓reduceIte,eq_self]
  |4,_=>simp only[B,xB,F,ab,ae,af,ag,ah,ai, ↓reduceIte,eq_self]
  |5,_=>simp only[B,xB,F,ab,ae,af,ag,ah,ai, ↓reduceIte,eq_self]
  |6,_=>simp only[B,xB,F,ab,ae,af,ag,ah,ai, ↓reduceIte,eq_self]
  |7,_=>simp only[B,xB,F,ab,ae,af,ag,ah,ai, ↓reduceIte,eq_self]
  |8,_=>simp only[B,xB,F,ab,ae,af,ag,ah,ai, ↓reduceIte,eq_self]
  |9,_=>simp only[B,xB,F,ab,ae,af,ag,ah,ai, ↓reduceIte,eq_self]
 | true=>
  rw[if_pos rfl]at hK;obtain⟨h3,cB⟩:∃h3,h3=h.bq 91 x.cs:=⟨_,rfl⟩;have o3:Og h h3 []:=by rw[cB];exact(Og.refl _ _).new _ _
  have x3:h3.nx=h.nx+1:=by rw[cB];rfl
  have eZ:h3.row h.nx 0 8=some x.cs:=gK (o:=0) (cs:=x.cs) (fun j hj=>by rw[cB,bJ,aA,if_pos rfl]) (by simp[Rec.cs]);have Mx:bK 8 base h3 w _ _:=gr.bG o3.1.1 (fun d e=>o3.1.2 d (gr.base e).2 (by simp));unfold Rec.cs at cB;refine rN ?_ (V s8<|V s10<|V s11<|V @aS<|V hl8<|V nR<|V y0<|V y1<|V y2<|V y3<|V y4<|V y5<|V y6<|V y7<|V cB.symm<|eZ);refine dz (m:=1) (new:=x.cs) Mx (by omega) (by omega) (by omega) rfl (by omega) (fun v6 h6 g6 x6 II bl6 Zm=>?_);have Y6:bj h6 ki 0 x.cs:=fun j hj=>by rw[bo (II ki (by omega) (fun e=>nb ki e rfl)),bo (o3.1.2 ki l10 (by simp))];exact Y j hj
  obtain⟨cc,rfl⟩:=Sn g6 (by omega);obtain rfl:cc=h3.nx:=by cases bl6;rfl
  refine oq ?_ (@sc [1,1,1,1,1,1,0,0,1,0,0,1,0,1,1,1]) (V s8<|V s10<|s11);refine⟨?_⟩;refine insW h6 h3.nx base x x out (by rw[aX];simpa using g6) hz ki Y6 (by omega) (by omega) _ (by exact sT) (by exact sT) (by exact sT) _ ?_;intro bZ h7 e2 o7 g7;refine hK .norm bZ h7 (.slice h3.nx 0 (out.length+1) (.iK 0)) (.inl rfl) (fun j hj hj8=>(e2 j (by omega)).trans (Eq.trans ?_ (e1 j (by omega)))) ((e2 8 (by omega)).trans (by exact sT)) ⟨?_,fun d hd=>?_,?_⟩ (by rw[Jc];exact g7)
  ·match j,hj,hj8 with
   |0,_,_=>exact sT
   |1,_,_=>exact sT
   |2,_,_=>exact sT
   |3,_,_=>exact sT
   |4,_,_=>exact sT
   |5,_,_=>exact sT
   |6,_,_=>exact sT
   |7,_,_=>exact sT
   |8,_,h=>exact absurd rfl h
   |9,_,_=>exact sT
  ·have:=o7.1.1;omega
  ·rw[o7.1.2 d (by omega) (by simp;omega),II d (by omega) (fun e=>by have:=(gr.base e).1;omega),o3.1.2 d (by omega) (by simp)]
  ·rw[o7.2,Zm,o3.2]
structure HyI(h1:H)(iq:Nat)(v7:AV)(main c:Nat)(L:List Rec)(m:Nat)(ds:List Nat)(tm:T AV)(h:H)(i:Nat)(w:AV):Prop where
 ds:ds=[]
 nn:m=L.length-i
 ii:i≤L.length
 t0:tm.get 0=some (.ptr iq 0)
 t1:tm.get 1=some (.int .u64 (.ofNat main))
 t2:tm.get 2=some (.int .u64 (.ofNat c))
 t7:tm.get 7=some v7
 t8:tm.get 8=some w
 t9:tm.get 9=some (.int .i64 (.ofNat i))
 gr:bK 8 h1.nx h w (kP main c L (L.take i)).length ((kP main c L (L.take i)).flatMap Rec.cs)
 oo:Og h1 h []
theorem histC(h0:H)(iq b:Nat)(L:List Rec)(rev cp:Nat)(v2:AV)(sr0:jM h0 b L rev cp v2 [] .bh 0)(km0:cellAt h0 iq 0=some (.ptr b 0))(lm0:iq<h0.nx)(main c:Nat)(hz:L.length≤900000):
  bW P (.enter 45 [.ptr iq 0,.int .u64 (.ofNat main),.int .u64 (.ofNat c)] h0) fun w h'=>Og h0 h' []∧bK 8 h0.nx h' w (kP main c L L).length ((kP main c L L).flatMap Rec.cs):=by
 have hlen:=sr0.gv.slice.len (P:=P) jl;have vo:=sr0.gv.one;refine bn (fn:=Tryz.f45) (c:=bD Tryz.f45) Tryz.func45 rfl ?_;show bB P 45 104 none _ _ _ _ _;refine bp ?_;refine rN ?_ (km0);refine((keptC h0 b L rev cp v2 sr0 c hz).call P).mono P ?_;rintro v7 h1 ⟨o1,g7⟩;have wG:=g7.one;have sr:=sr0.bU o1;have km:=kc km0 o1 lm0 (by simp);have lm:iq<h1.nx:=Nat.lt_of_lt_of_le lm0 o1.1.1;have kl:=xG c L L.length;refine rN ?_ (wG);refine cn (fun m ds tm h=>∃i w,HyI h1 iq v7 main c L m ds tm h i w) L.length rfl ⟨0,.bh,rfl,rfl,az _,by exact sT,by exact sT,by exact sT,by exact sT,by exact sT,by exact sT,bK.none,Og.refl _ _⟩ (fun m ds tm h hI=>?_);obtain⟨i,w,rfl,rfl,ii,t0,t1,t2,t7,t8,t9,gr,oo⟩:=hI;have nR:=gr.one;have s:=sr.bU oo;have km':=kc km oo lm (by simp);obtain⟨c0,-,-,-,-,-,-,-⟩:=s.c.u8;by_cases hi:i<L.length
 ·have di:decide (i<L.length)=true:=decide_eq_true hi
  have dX:(i<L.length)=True:=by simp[hi]
  obtain⟨x,hx⟩:∃x,L[i]? =some x:=⟨_,ao hi⟩;have jk:=s.gv.slice;obtain⟨bv,ov,cv,rfl,qw,-⟩:=jk.place (by omega);obtain⟨q0,q1,q2,q3,q4,q5,q6,q7⟩:=Rec.at jk hx;have w1:bV .i64 (ak i+ak 1)=ak (i+1):=cq (by omega);have hs:=MZ (main:=main) (c:=c) (L:=L) hx;have CQ:=xJ main c L L i ii;obtain⟨out,Rt⟩:∃out,out=kP main c L (L.take i):=⟨_,rfl⟩;rw[←Rt]at gr hs CQ;unfold yP at hs;obtain⟨h2,cJ⟩:∃h2,h2=(h.bq 91 [.int .u64 (.ofNat 0),.int .u64 (.ofNat 0),.str [],.str [],.int .u64 (.ofNat 0),.int .u64 (.ofNat 0),.int .u64 (.ofNat 0),.bool false]).cm h.nx 0 x.cs:=⟨_,rfl⟩;have o2:Og h h2 []:=by rw[cJ];exact((Og.refl _ _).new _ _).cm (.inr (aJ _))
  have x2:h2.nx=h.nx+1:=by rw[cJ,bI,dt]
  have Y2:bj h2 h.nx 0 x.cs:=by rw[cJ];exact bj.box _ _ _ _
  obtain⟨y0,y1,y2,y3,y4,y5,y6,y7⟩:=Y2.u8;unfold Rec.cs at cJ;have f_:=oo.t o2;have x12:=f_.1.1;have yJ:bK 8 h1.nx h2 w _ _:=gr.bG o2.1.1 (fun d e=>o2.1.2 d (gr.base e).2 (by simp));have sl7:br h2 v7 _ _:=g7.slice.only f_.1 (fun _ _=>by simp);have nb:∀d,bA w=some d→d≠h.nx:=fun d e=>by have:=(gr.base e).2;omega
  have lb1:=oo.1.1;have fin:∀(b0:Bool),b0=(decide (c<x.main)&&decide (x.main≤main))→(∀(bZ:T AV)(h3:H)(w3:AV),Lo h1.nx h2 h3→bK 8 h1.nx h3 w3 (if b0||decide ((x.main,x.sub)∈jy c L L.length)then v8 x out else out).length ((if b0||decide ((x.main,x.sub)∈jy c L L.length)then v8 x out else out).flatMap Rec.cs)→bZ.get 0=some (.ptr iq 0)→bZ.get 1=some (.int .u64 (.ofNat main))→bZ.get 2=some (.int .u64 (.ofNat c))→bZ.get 7=some v7→bZ.get 8=some w3→bZ.get 9=some (.int .i64 (.ofNat (i+1)))→
    ∃m,m<L.length-i∧∃i w,HyI h1 iq v7 main c L m [] bZ h3 i w):=fun b0 hb bZ h3 w3 lo g3 g0 g1 g2 g7 g8 g9=>
   ⟨L.length-(i+1),by omega,i+1,w3,rfl,rfl,by omega,g0,g1,g2,g7,g8,g9,by rw[hs];unfold EW;rw[←hb];exact g3,⟨⟨by have:=lo.nx;omega,fun d hd _=>by rw[lo.old d hd,f_.1.2 d hd (by simp)]⟩,lo.g.trans f_.2⟩⟩
  by_cases p1:c<x.main
  ·have d1:decide (c<x.main)=true:=decide_eq_true p1
   by_cases p2:x.main≤main
   ·have d2:decide (x.main≤main)=true:=decide_eq_true p2
    refine oq ?_ (@sc [1,1,0,0,1,0,0,1,0,1,1,1]) (V t0<|V t1<|V t2<|V t7<|V t8<|V t9<|V km'<|V c0<|V vo<|V hlen<|V di<|V dX<|V q0<|V q1<|V q2<|V q3<|V q4<|V q5<|V q6<|V q7<|V cJ.symm<|V y0<|V d1<|d2);refine⟨?_⟩;refine Cq h2 h1.nx _ v7 sl7 (by omega) x true h.nx Y2 (by omega) lb1 out w yJ (by omega) nb _ (by exact sT) (by exact sT) (by exact sT) (by exact sT) _ ?_;intro o bZ h3 w3 ho e2 g8 lo g3;have g0:bZ.get 0=some (.ptr iq 0):=(e2 0 (by omega) (by omega)).trans (by exact sT);have g1:bZ.get 1=some (.int .u64 (.ofNat main)):=(e2 1 (by omega) (by omega)).trans (by exact sT);have g2:bZ.get 2=some (.int .u64 (.ofNat c)):=(e2 2 (by omega) (by omega)).trans (by exact sT);have g7':bZ.get 7=some v7:=(e2 7 (by omega) (by omega)).trans (by exact sT);have g9:bZ.get 9=some (.int .i64 (.ofNat i)):=(e2 9 (by omega) (by omega)).trans (by exact sT);have fin:=fun bZ=>fin true (by rw[d1,d2];rfl) bZ h3 w3 lo g3;rcases ho with rfl|rfl
    ·refine rN ?_ (V g9<|w1)
     exact fin _ (by exact sT) (by exact sT) (by exact sT) (by exact sT) (by exact sT) (by exact sT)
    ·refine rN ?_ (V g9<|w1)
     exact fin _ (by exact sT) (by exact sT) (by exact sT) (by exact sT) (by exact sT) (by exact sT)
   ·have d2:decide (x.main≤main)=false:=decide_eq_false p2
    refine oq ?_ (@sc [1,1,0,0,1,0,0,1,0,1,1,1]) (V t0<|V t1<|V t2<|V t7<|V t8<|V t9<|V km'<|V c0<|V vo<|V hlen<|V di<|V dX<|V q0<|V q1<|V q2<|V q3<|V q4<|V q5<|V q6<|V q7<|V cJ.symm<|V y0<|V d1<|d2);refine⟨?_⟩;refine Cq h2 h1.nx _ v7 sl7 (by omega) x false h.nx Y2 (by omega) lb1 out w yJ (by omega) nb _ (by exact sT) (by exact sT) (by exact sT) (by exact sT) _ ?_;intro o bZ h3 w3 ho e2 g8 lo g3;have g0:bZ.get 0=some (.ptr iq 0):=(e2 0 (by omega) (by omega)).trans (by exact sT);have g1:bZ.get 1=some (.int .u64 (.ofNat main)):=(e2 1 (by omega) (by omega)).trans (by exact sT);have g2:bZ.get 2=some (.int .u64 (.ofNat c)):=(e2 2 (by omega) (by omega)).trans (by exact sT);have g7':bZ.get 7=some v7:=(e2 7 (by omega) (by omega)).trans (by exact sT);have g9:bZ.get 9=some (.int .i64 (.ofNat i)):=(e2 9 (by omega) (by omega)).trans (by exact sT);have fin:=fun bZ=>fin false (by rw[d1,d2];rfl) bZ h3 w3 lo g3;rcases ho with rfl|rfl
    ·refine rN ?_ (V g9<|w1)
     exact fin _ (by exact sT) (by exact sT) (by exact sT) (by exact sT) (by exact sT) (by exact sT)
    ·refine rN ?_ (V g9<|w1)
     exact fin _ (by exact sT) (by exact sT) (by exact sT) (by exact sT) (by exact sT) (by exact sT)
  ·have d1:decide (c<x.main)=false:=decide_eq_false p1
   refine oq ?_ (@sc [1,1,0,0,1,0,0,1,0,1,1,1]) (V t0<|V t1<|V t2<|V t7<|V t8<|V t9<|V km'<|V c0<|V vo<|V hlen<|V di<|V dX<|V q0<|V q1<|V q2<|V q3<|V q4<|V q5<|V q6<|V q7<|V cJ.symm<|V y0<|d1);refine⟨?_⟩;refine Cq h2 h1.nx _ v7 sl7 (by omega) x false h.nx Y2 (by omega) lb1 out w yJ (by omega) nb _ (by exact sT) (by exact sT) (by exact sT) (by exact sT) _ ?_;intro o bZ h3 w3 ho e2 g8 lo g3;have g0:bZ.get 0=some (.ptr iq 0):=(e2 0 (by omega) (by omega)).trans (by exact sT);have g1:bZ.get 1=some (.int .u64 (.ofNat main)):=(e2 1 (by omega) (by omega)).trans (by exact sT);have g2:bZ.get 2=some (.int .u64 (.ofNat c)):=(e2 2 (by omega) (by omega)).trans (by exact sT);have g7':bZ.get 7=some v7:=(e2 7 (by omega) (by omega)).trans (by exact sT);have g9:bZ.get 9=some (.int .i64 (.ofNat i)):=(e2 9 (by omega) (by omega)).trans (by exact sT);have fin:=fun bZ=>fin false (by rw[d1];rfl) bZ h3 w3 lo g3;rcases ho with rfl|rfl
   ·refine rN ?_ (V g9<|w1)
    exact fin _ (by exact sT) (by exact sT) (by exact sT) (by exact sT) (by exact sT) (by exact sT)
   ·refine rN ?_ (V g9<|w1)
    exact fin _ (by exact sT) (by exact sT) (by exact sT) (by exact sT) (by exact sT) (by exact sT)
 ·have di:decide (i<L.length)=false:=decide_eq_false hi
  obtain rfl:i=L.length:=by omega
  rw[aK]at gr;refine rN ?_ (V t0<|V t1<|V t2<|V t7<|V t8<|V t9<|V km'<|V c0<|V vo<|V nR<|V hlen<|di);exact⟨o1.t oo,gr.wk o1.1.1⟩
end
end Go.Proofs.YtnedigoajoflaaaGreat.M
namespace Go.AX
noncomputable section
def pY(x:Nat):Nat:=(x>>>1)^^^(if x%2=1 then 0x82f63b78 else 0)
def Dj(x:Nat):Nat:=pY (pY (pY (pY (pY (pY (pY (pY x)))))))
def ly(r k b:Nat):Nat:=(r>>>1)^^^(if r%2=(b>>>k)%2 then 0 else 0x82f63b78)
def gZ(r b:Nat):Nat:=ly (ly (ly (ly (ly (ly (ly (ly r 0 b) 1 b) 2 b) 3 b) 4 b) 5 b) 6 b) 7 b
theorem Vh(x y:Nat):pY (x^^^y)=pY x^^^pY y:=by
 unfold pY;rw[aO];have e:(x^^^y)%2=(x%2^^^y%2):=aY (n:=1);rcases aE x with hx|hx<;>rcases aE y with hy|hy<;>rw[e,hx,hy]
 ·simp
 ·simp[aw]
 ·simp only[aB,if_pos]
  simp only[show ¬(0:Nat)=1 by decide,if_false,aB];rw[aw,aae (y>>>1),←aw]
 ·simp only[aZ,show ¬(0:Nat)=1 by decide,if_false,aB,if_true]
  rw[aae (y>>>1),aw,←aw 2197175160,aZ,Nat.zero_xor]
theorem Sp(x y:Nat):Dj (x^^^y)=Dj x^^^Dj y:=by unfold Dj;simp only[Vh]
theorem Sq(z:Nat):pY (2*z)=z:=by
 unfold pY;rw[if_neg (by omega),aB,aq];omega
theorem OI(z:Nat):Dj (256*z)=z:=by
 unfold Dj;rw[show 256*z=2*(2*(2*(2*(2*(2*(2*(2*z)))))))by omega];simp only[Sq]
theorem Sr(x:Nat):(256*(x/256))^^^(x%256)=x:=by
 apply Nat.eq_of_testBit_eq;intro i;rw[Nat.testBit_xor,show 256=2^8 from rfl,Nat.testBit_two_pow_mul,Nat.testBit_mod_two_pow,Nat.testBit_div_two_pow];by_cases h:i<8
 ·simp[h,show ¬8≤i by omega]
 ·have h:8≤i:=by omega
  simp[h,show ¬i<8 by omega]
theorem Jh(r k b:Nat):ly r k b^^^(b>>>(k+1))=pY (r^^^(b>>>k)):=by
 unfold ly pY;rw[aO,Nat.shiftRight_add];have e:(r^^^b>>>k)%2=(r%2^^^(b>>>k)%2):=aY (n:=1);rcases aE r with hx|hx<;>rcases aE (b>>>k)with hy|hy<;>rw[e,hx,hy]
 ·simp
 ·simp only[Nat.zero_xor,if_true,show ¬(0:Nat)=1 by decide,if_false]
  rw[aw,aae _ (b>>>k>>>1),←aw]
 ·simp only[aB,if_true,show ¬(1:Nat)=0 by decide,if_false]
  rw[aw,aae _ (b>>>k>>>1),←aw]
 ·simp
theorem E3{r b:Nat}(hb:b<256):gZ r b=Dj (r^^^b):=by
 have e:∀k,ly r k b=pY (r^^^(b>>>k))^^^(b>>>(k+1)):=fun k=>by rw[←Jh,aw,aZ,aB]
 have g:∀(x:Nat) k,ly x k b=pY (x^^^(b>>>k))^^^(b>>>(k+1)):=fun x k=>by rw[←Jh,aw,aZ,aB]
 have c:∀(x:Nat) k,ly (x^^^(b>>>k)) k b=pY x^^^(b>>>(k+1)):=fun x k=>by rw[g,aw,aZ,aB]
 unfold gZ Dj;rw[g r 0];simp only[c,show b>>>0=b from rfl];rw[show b>>>(7+1)=0 by rw[aq];exact Nat.div_eq_of_lt hb,aB]
theorem OJ{r b:Nat}(hb:b<256):gZ r b=(r/256)^^^Dj ((r%256)^^^b):=by
 rw[E3 hb]
 conv =>lhs;rw[←Sr (r^^^b)]
 rw[Sp,OI];have e1:(r^^^b)/256=r/256:=by
  have :(r^^^b)>>>8=r>>>8^^^b>>>8:=aO;rw[aq,aq,aq]at this;rw[show(2:Nat)^8=256 from rfl]at this;rw[this,Nat.div_eq_of_lt hb,aB]
 have e2:(r^^^b)%256=(r%256)^^^b:=by
  have :(r^^^b)%2^8=(r%2^8)^^^(b%2^8):=aY;rw[show(2:Nat)^8=256 from rfl,aD hb]at this;exact this
 rw[e1,e2]
theorem mD{r k b:Nat}(hx:r<2^32):ly r k b<2^32:=by
 unfold ly;apply Nat.xor_lt_two_pow
 ·exact Nat.lt_of_le_of_lt (by rw[aq];exact Nat.div_le_self _ _) hx
 ·split<;>omega
theorem Ji{r b:Nat}(hx:r<2^32):gZ r b<2^32:=by
 unfold gZ;exact mD (mD (mD (mD (mD (mD (mD (mD hx)))))))
end
end Go.AX
namespace Go.Proofs.YtnedigoajoflaaaGreat.M
open Go Go.AX
noncomputable section
set_option maxRecDepth 100000
theorem z84:dv P 84=some .dB:=by kernel_rfl
theorem st84(h:H)(v:AV)(hv:v.cells=[v])(b o:Nat):eT P h 84 b o v=h.put b o [v]:=dx (by kernel_rfl) hv b o
theorem fd91_0(c0 c1 c2 c3 c4 c5 c6 c7:AV):wL P 91 (.agg [c0,c1,c2,c3,c4,c5,c6,c7]) 0=some (.agg [c0,c1]):=by kernel_rfl
theorem Ss(dO:AV):iF P 92 1 [(0,[dO])]=some (9,[dO]):=by kernel_rfl
def Vi{h}:=@fG P h _ _ _ _ 1 u92 u92 (fun _ q=>nomatch q) (by kernel_rfl)
theorem fa97_0(b o:Nat):bO P 97 (.ptr b o) 0=some (.ptr b o):=by kernel_rfl
theorem ok94:eQ P 94=true:=by kernel_rfl
theorem ld94(h:H)(b o:Nat):dJ P h 94 b o=cellAt h b o:=c_ (by kernel_rfl) h b o
theorem u94:P.underlying 94=some (.pointer 97):=by kernel_rfl
def eq94{h x y}:=@LZ P h _ _ x y u94
theorem en94(h:H)(x y:Operand):ed P h .eql 94 x y .cN .cN= .val (.bool true) h:=TL u94
theorem st94(h:H)(v:AV)(hv:v.cells=[v])(b o:Nat):eT P h 94 b o v=h.put b o [v]:=dx (by kernel_rfl) hv b o
def cf108{h}:=@bz P h 108 (by kernel_rfl)
theorem St:lQ P (eA (bL (bD Tryz.f108) [0])) [0,1,2,3,4,5,6,7,9,10,11,12,13,8,14,15]=true:=by kernel_rfl
def F2:=aI (aI (aI @z84 (aI @st84 @fd91_0)) (aI @Ss (aI @Vi @fa97_0))) (aI (aI @ok94 (aI @ld94 @eq94)) (aI @en94 (aI @st94 @cf108)))
end
end Go.Proofs.YtnedigoajoflaaaGreat.M
namespace Go.Proofs.YtnedigoajoflaaaGreat.M
open Go Go.AX
noncomputable section
set_option maxRecDepth 100000
section
variable{h:H}{t:TypeId}{x y:Operand}
theorem Na(k:IntKind)(m n:Int):ed P h .and t x y (.int k m) (.int k n)= .val (.int k (bV k (.ofNat (Nat.land (low k m) (low k n))))) h:=by simp only[ed,d_,jR,fZ,qj,eM,cT]
theorem Su(k:IntKind)(m n:Int):ed P h .xor t x y (.int k m) (.int k n)= .val (.int k (bV k (.ofNat (Nat.xor (low k m) (low k n))))) h:=by simp only[ed,d_,jR,fZ,qj,eM,cT]
def NY(v:AV)(h:H):R:=
 match v with
 | .int k n=>.val (.int k (bV k (.ofNat (Nat.xor (low k (zk k)) (low k n))))) h
 |_=>.fail
theorem Jj(k:IntKind)(n:Int):NY (.int k n) h= .val (.int k (bV k (.ofNat (Nat.xor (low k (zk k)) (low k n))))) h:=id rfl
theorem Sv{tm:T AV}(x:Operand):bF P tm h (.unOp .xor t x)=ob (bP tm x) fun v=>NY v h:=by
 simp only[bF];cases bP tm x with
 |none=>rfl
 |some v=>cases v<;>first|(simp only[unA,qj,cT,eM,ob,NY];done)|rfl
end
theorem Nb(a:Nat):low .u32 (.ofNat a)=a%4294967296:=rfl
theorem Sw(a:Nat):bV .u32 (.ofNat a)= .ofNat (a%4294967296):=rfl
theorem and1(a:Nat):bV .u32 (.ofNat (Nat.land (low .u32 (.ofNat a)) (low .u32 (.ofNat 1))))= .ofNat (a%2):=by
 rw[Nb,Nb,Sw];have h3:Nat.land (a%4294967296) (1%4294967296)=a%4294967296%2:=Nat.and_two_pow_sub_one_eq_mod (a%4294967296) 1;rw[h3];congr 1;omega
theorem E4{a b:Nat}(ha:a<2^32)(hb:b<2^32):bV .u32 (.ofNat (Nat.xor (low .u32 (.ofNat a)) (low .u32 (.ofNat b))))= .ofNat (a^^^b):=by
 rw[Nb,Nb,Sw,aD ha,aD hb];congr 1;exact aD (Nat.xor_lt_two_pow ha hb)
theorem shr1(u:Nat):(ak u).fdiv (ak (2^min 1 IntKind.u32.bits))=ak (u>>>1):=by
 have :(2^min 1 IntKind.u32.bits:Nat)=2:=rfl;rw[this];exact(aaj u 2).symm
theorem shrB(b k:Nat)(hk:k<8):(ak b).fdiv (ak (2^min k IntKind.u8.bits))=ak (b>>>k):=by
 have :min k IntKind.u8.bits=k:=Nat.min_eq_left (by show k≤8;omega);rw[this,aq];exact(aaj b (2^k)).symm
def qd(r b:Nat):Nat→Nat
 |0=>r
 |k+1=>ly (qd r b k) k b
theorem Cr{r b:Nat}(h:r<2^32):∀k,qd r b k<2^32
 |0=>h
 |k+1=>mD (Cr h k)
def xK(s:List Nat):Nat:=s.foldl gZ 4294967295
theorem wq:∀(s:List Nat)(r:Nat),r<2^32→s.foldl gZ r<2^32
 |[],_,h=>h
 |a::s,r,h=>wq s _ (Ji h)
def um(s:List Nat):Nat:=4294967295^^^xK s
structure SuI(h0:H)(s:List Nat)(m:Nat)(ds:List Nat)(tm:T AV)(h:H)(i:Nat):Prop where
 ds:ds=[]
 nn:m=s.length-i
 ii:i≤s.length
 t0:tm.get 0=some (.str s)
 t3:tm.get 3=some (.int .u32 (.ofNat (xK (s.take i))))
 t4:tm.get 4=some (.int .i64 (.ofNat i))
 he:h=h0
structure SvI(h0:H)(s:List Nat)(i r b:Nat)(m:Nat)(ds:List Nat)(tm:T AV)(h:H)(k:Nat):Prop where
 ds:ds=[]
 nn:m=8-k
 kk:k≤8
 t0:tm.get 0=some (.str s)
 t3:tm.get 3=some (.int .u32 (.ofNat (qd r b k)))
 t4:tm.get 4=some (.int .i64 (.ofNat i))
 t5:tm.get 5=some (.int .i64 (.ofNat k))
 he:h=h0
theorem sumC(h0:H)(s:List Nat)(hz:s.length≤4194304):bW P (.enter 47 [.str s] h0) (cQ h0 (.int .u32 (.ofNat (um s)))):=by
 refine bn (fn:=Tryz.f47) (c:=bD Tryz.f47) Tryz.func47 rfl ?_;show bB P 47 34 none _ _ _ _ _;refine bp ?_;refine rN ?_ (F2);refine cn (fun m ds tm h=>∃i,SuI h0 s m ds tm h i) s.length rfl ⟨0,rfl,rfl,az _,by simp only[B,F,F2,ab,ae,af,ag,ah,ai, ↓reduceIte,eq_self],by rw[aV];simp only[B,F,F2,ab,ae,af,ag,ah,ai, ↓reduceIte,eq_self];rfl,by simp only[B,F,F2,ab,ae,af,ag,ah,ai, ↓reduceIte,eq_self],rfl⟩ (fun m ds tm h hI=>?_);obtain⟨i,rfl,rfl,ii,t0,t3,t4,rfl⟩:=hI;by_cases hi:i<s.length
 ·have di:decide (i<s.length)=true:=decide_eq_true hi
  obtain⟨b,hb⟩:∃b,s[i]? =some b:=⟨_,ao hi⟩;have w1:bV .i64 (ak i+ak 1)=ak (i+1):=cq (by omega);have hix:nV P 9 (.str s) (.int .i64 (.ofNat i))=some (.int .u8 (.ofNat b)):=by simp only[nV,ZU,hb]
  obtain⟨r,hr⟩:∃r,r=xK (s.take i):=⟨_,rfl⟩;have Vj:r<2^32:=by rw[hr];exact wq _ _ (by omega)
  rw[←hr]at t3;refine rN ?_ (V F2<|V t0<|V t3<|V t4<|di);refine cn (fun m ds tm h'=>∃k,SvI h s i r b m ds tm h' k) 8 rfl ⟨0,rfl,rfl,az _,by simp only[B,F,F2,ab,ae,af,ag,ah,ai, ↓reduceIte,eq_self,t0],by simp only[B,F,F2,ab,ae,af,ag,ah,ai, ↓reduceIte,eq_self,t3];rfl,by simp only[B,F,F2,ab,ae,af,ag,ah,ai, ↓reduceIte,eq_self,t4],by simp only[B,F,F2,ab,ae,af,ag,ah,ai, ↓reduceIte,eq_self],rfl⟩ (fun m ds tm h' hJ=>?_);clear t0 t3 t4;obtain⟨k,rfl,rfl,kk,t0,t3,t4,t5,rfl⟩:=hJ;obtain⟨q,hq⟩:∃q,q=qd r b k:=⟨_,rfl⟩;have hq32:q<2^32:=by rw[hq];exact Cr Vj k
  rw[←hq]at t3;by_cases hk:k<8
  ·have dk:decide (k<8)=true:=decide_eq_true hk
   have w2:bV .i64 (ak k+ak 1)=ak (k+1):=cq (by omega);have sB:=shrB b k hk;have s1:=shr1 q;have a1:=and1 q;have c1:=Sw (b>>>k);have a2:=and1 ((b>>>k)%4294967296);have e2:(b>>>k)%4294967296%2=(b>>>k)%2:=by omega
   rw[e2]at a2;have nx:qd r b (k+1)=ly q k b:=by show ly (qd r b k) k b=_;rw[hq]
   have CH:q>>>1<2^32:=by rw[aq];omega
   have xr:=E4 (a:=q>>>1) (b:=2197175160) CH (by omega);by_cases p:q%2=(b>>>k)%2
   ·have d1:(ak (q%2) != ak ((b>>>k)%2))=false:=by rw[p];simp
    have ev:ly q k b=q>>>1:=by unfold ly;rw[if_pos p,aB]
    refine rN ?_ (V F2<|V t0<|V t3<|V t4<|V t5<|V dk<|V hix<|V @Na<|V @EU<|V sB<|V s1<|V a1<|V c1<|V a2<|V d1<|w2);exact⟨8-(k+1),by omega,k+1,rfl,rfl,by omega,by exact sT,by rw[nx,ev];exact sT,by exact sT,by exact sT,rfl⟩
   ·have d1:(ak (q%2) != ak ((b>>>k)%2))=true:=by rw[bne_iff_ne];intro e;exact p (Int.ofNat.inj e)
    have ev:ly q k b=(q>>>1)^^^2197175160:=by unfold ly;rw[if_neg p]
    refine rN ?_ (V F2<|V t0<|V t3<|V t4<|V t5<|V dk<|V hix<|V @Na<|V @EU<|V @Su<|V sB<|V s1<|V a1<|V c1<|V a2<|V d1<|V xr<|w2);exact⟨8-(k+1),by omega,k+1,rfl,rfl,by omega,by exact sT,by rw[nx,ev];exact sT,by exact sT,by exact sT,rfl⟩
  ·have dk:decide (k<8)=false:=decide_eq_false hk
   obtain rfl:k=8:=by omega
   have e8:xK (s.take (i+1))=q:=by
    rw[hq];unfold xK;rw[aC,hb,aG];show gZ (xK (s.take i)) b=_;rw[←hr];rfl
   refine rN ?_ (V F2<|V t0<|V t3<|V t4<|V t5<|V dk<|w1);exact⟨s.length-(i+1),by omega,i+1,rfl,rfl,by omega,by exact sT,by rw[e8];exact sT,by exact sT,rfl⟩
 ·have di:decide (i<s.length)=false:=decide_eq_false hi
  obtain rfl:i=s.length:=by omega
  rw[aK]at t3;have hs32:xK s<2^32:=wq _ _ (by omega);have xr:=E4 (a:=4294967295) (b:=xK s) (by omega) hs32;refine rN ?_ (V F2<|V t0<|V t3<|V t4<|V di<|V @Sv<|@Jj);exact⟨congrArg (AV.int .u32) xr,Og.refl _ _⟩
end
end Go.Proofs.YtnedigoajoflaaaGreat.M
