/-
  'ModelTells' returns true, whatever the input; each argument reads as it did. No condition.
-/
import Derived.Test.YtnedigoajoflaaaGreatAxI
import Derived.Test.YtnedigoajoflaaaGreatG4
import Derived.Test.YtnedigoajoflaaaGreatG0
import Derived.Test.YtnedigoajoflaaaGreatAxF
import Derived.Test.YtnedigoajoflaaaGreatG1
import Derived.Shelf.SlIter.Nil
import Derived.Shelf.SortM.Plain
import Derived.Shelf.SortM.SortNone
import Derived.Ground.GgzProg
import Derived.Ground.SlgmProg
import Derived.Test.YtnedigoajoflaaaGreatProg
import Derived.Test.YtnedigoajoflaaaGreatRows
import Derived.OpenShut
set_option linter.unusedSimpArgs false
set_option linter.unusedVariables false
set_option linter.unusedSectionVars false
set_option linter.defProp false
set_option maxHeartbeats 8000000
open Nat renaming reduceLT→ab,reduceLeDiff→ae,reduceEqDiff→af,reduceAdd→ag,reduceMul→ah,reduceSub→ai,le_refl→ao,zero_le→aw,lt_of_lt_of_le→aD,lt_succ_self→aJ,mod_eq_of_lt→aK,shiftRight_eq_div_pow→aM,mod_lt→aO,le_trans→aQ,beq_refl→aR,zero_add→aS,ble_eq→aZ,xor_lt_two_pow→bg,ble_eq_true_of_le→aaf,mul_one→aag,mul_le_mul_right→aai,ble→aao,zero_mul→aap
open Int renaming ofNat→ak
open List renaming length_map→al,getElem?_eq_getElem→an,length_append→aq,take_length→au,map_cons→az,flatMap_cons→aA,mem_of_getElem?→aB,getElem?_map→aC,nodup_cons→aE,mem_cons→aF,length_filter_le→aG,take_add_one→aH,mem_nil_iff→aL,map_append→aN,take_zero→aP,not_mem_nil→aV,append_nil→aX,flatten_append→aY,filter_append→a_,length_cons→aaa,length_take→aab,getElem?_replicate→aad,take_of_length_le→aae,replicate→aah,flatMap_append→aaj,map_congr_left→aak,getElem?_tail→aam,mem_singleton→aan
open Array renaming getElem?_toList→aU
open Bool renaming not_true→aW,and_eq_true→aac,true_and→aal
open Option renaming bind_some→aaq
namespace Go.Proofs.YtnedigoajoflaaaGreat.M
open Go Go.AX
noncomputable section
set_option maxRecDepth 100000
def uq(r:Rec):Rc:=⟨r.main,r.sub,r.kv.key,r.kv.val,r.kv.iC,r.kv.mod,r.kv.im,r.dW⟩
theorem Nc(r:Rec):(uq r).av= .agg r.cs:=rfl
def gq(r:Rec):List Nat:=I_ (uq r)
theorem Nd{n rev:Nat}{r:Rec}(h:Gg n rev r)(hn:n≤1000)(hr:rev≤1000):(uq r).ok∧r.kv.key.length≤60∧r.kv.val.length≤60:=by
 have:=h.mn;have:=h.sb;have:=h.cr;have:=h.md;have:=h.vr;have:=h.kl;have:=h.vl;have e:sR=18446744073709551616:=rfl;exact⟨⟨by show r.main<sR;omega,by show r.sub<sR;omega,by show r.kv.iC<sR;omega,by show r.kv.mod<sR;omega,by show r.kv.im<sR;omega⟩,by omega,by omega⟩
theorem Cs{r:Rec}(h:(uq r).ok)(hk:r.kv.key.length≤60)(hv:r.kv.val.length≤60):0<(gq r).length∧(gq r).length≤200:=by
 obtain⟨q1,q2,q3,q4,q5⟩:=h;have l1:=cZ q1;have l2:=cZ q2;have l3:=cZ q3;have l5:=cZ q5;have e:sR=18446744073709551616:=rfl;have lk:=cZ (n:=r.kv.key.length) (by omega);have lv:=cZ (n:=r.kv.val.length) (by omega);have lt:=cZ (vY r.dW);have p1:0<(cD r.kv.key.length).length:=by unfold cD;split<;>simp
 unfold gq I_;simp only[uq,aq,List.length_nil]at *;omega
theorem zE{α β:Type}{f:α→List β}{k:Nat}:∀{l:List α},(∀x,x∈l→(f x).length≤k)→(l.flatMap f).length≤l.length*k
 |[],_=>by simp
 |a::l,h=>by
  rw[aA,aq,aaa,Nat.add_mul];have:=h a (by simp);have:=zE (l:=l) (fun x hx=>h x (by simp[hx]));omega
structure HaI(h1:H)(w:AV)(l:List Rec)(m:Nat)(ds:List Nat)(tm:T AV)(h:H)(i:Nat):Prop where
 ds:ds=[]
 nn:m=l.length-i
 ii:i≤l.length
 t7:tm.get 7=some w
 t8:tm.get 8=some (.str ((l.take i).flatMap gq))
 t9:tm.get 9=some (.int .i64 (.ofNat i))
 oo:Og h1 h []
theorem Sx(main c:Nat)(L:List Rec):∀(M:List Rec)(x:Rec),x∈kP main c L M→x∈M:=by
 have :∀(M:List Rec)(out:List Rec)(x:Rec),x∈M.foldl (yP main c L) out→x∈out∨x∈M:=by
  intro M;induction M with
  |nil=>intro out x h;exact .inl h
  | cons r M ih=>
   intro out x h;rw[List.foldl_cons]at h;rcases ih _ x h with q|q
   ·unfold yP at q
    split at q
    ·rcases(Jd r x out).1 q with rfl|q
     ·exact .inr (by simp)
     ·exact .inl q
    ·exact .inl q
   ·exact .inr (by simp[q])
 intro M x h;exact(this M [] x h).resolve_left (by simp)
theorem rHashC(h0:H)(iq b:Nat)(L:List Rec)(n rev cp:Nat)(v2:AV)(sr0:jM h0 b L rev cp v2 [] .bh 0)(km0:cellAt h0 iq 0=some (.ptr b 0))(lm0:iq<h0.nx)(main c:Nat)(hs:qA n rev L)(hn:n≤200)(hr:rev≤1000):
  bW P (.enter 17 [.ptr iq 0,.int .u64 (.ofNat main),.int .u64 (.ofNat c)] h0) (cQ h0 (.int .u32 (.ofNat (um ((kP main c L L).flatMap gq))))):=by
 have hlL:L.length≤400:=by have:=hs.ln;omega
 refine bn (fn:=Tryz.f17) (c:=bD Tryz.f17) Tryz.func17 rfl ?_;show bB P 17 29 none _ _ _ _ _;refine bp ?_;refine kM ?_;refine((histC h0 iq b L rev cp v2 sr0 km0 lm0 main c (by omega)).call P).mono P ?_;rintro w h1 ⟨o1,g1⟩;have hlh:=xJ main c L L L.length (ao _);rw[au]at hlh;have tI:=Sx main c L L;obtain⟨l,hl⟩:∃l,l=kP main c L L:=⟨_,rfl⟩;rw[←hl]at g1 hlh tI ⊢;have g1o:=g1.one;have hlen:=g1.slice.len (P:=P) jl;have ok:∀x,x∈l→(uq x).ok∧x.kv.key.length≤60∧x.kv.val.length≤60:=fun x hx=>Nd (hs.nm x (tI x hx)) (by omega) hr;have cl:∀i,((l.take i).flatMap gq).length≤400*200:=fun i=>by
  have:=zE (f:=gq) (k:=200) (l:=l.take i) (fun x hx=>by
   obtain⟨k1,k2,k3⟩:=ok x (List.mem_of_mem_take hx);exact(Cs k1 k2 k3).2)
  have :(l.take i).length≤400:=by rw[aab];omega
  omega
 refine rN ?_ (V g1o<|ez);refine cn (fun m ds tm h=>∃i,HaI h1 w l m ds tm h i) l.length rfl ⟨0,rfl,rfl,aw _,by simp only[B,F,ab,ae,af,ag,ah,ai, ↓reduceIte,eq_self],by rw[aP];simp only[B,F,ab,ae,af,ag,ah,ai, ↓reduceIte,eq_self];rfl,by simp only[B,F,ab,ae,af,ag,ah,ai, ↓reduceIte,eq_self],Og.refl _ _⟩ (fun m ds tm h hI=>?_);obtain⟨i,rfl,rfl,ii,t7,t8,t9,oo⟩:=hI;by_cases hi:i<l.length
 ·have di:decide (i<l.length)=true:=decide_eq_true hi
  have dX:(i<l.length)=True:=by simp[hi]
  obtain⟨x,hx⟩:∃x,l[i]? =some x:=⟨_,an hi⟩;have jk:=g1.slice.only oo.1 (fun _ _=>by simp);obtain⟨bv,ov,cv,rfl,qw,-⟩:=jk.place (by omega);obtain⟨q0,q1,q2,q3,q4,q5,q6,q7⟩:=Rec.at jk hx;have w1:bV .i64 (ak i+ak 1)=ak (i+1):=cq (by omega);obtain⟨k1,k2,k3⟩:=ok x (aB hx);have cc:=U_ h (uq x) k1 k2 k3;rw[Nc]at cc;unfold Rec.cs at cc;have cl1:=cl i;have ad:=fun h t y z=>pT (a:=(l.take i).flatMap gq) (b:=gq x) (by have:=(Cs k1 k2 k3).2;omega) h t y z;have hs1:(l.take (i+1)).flatMap gq=(l.take i).flatMap gq++gq x:=by rw[aH,hx,aaj];simp
  refine rN ?_ (V t7<|V t8<|V t9<|V hlen<|V di<|V dX<|V q0<|V q1<|V q2<|V q3<|V q4<|V q5<|V q6<|q7);refine(cc.call P).mono P ?_;rintro _ h2 ⟨rfl,o2⟩;rw[show I_ (uq x)=gq x from rfl];refine rN ?_ (V t7<|V t8<|V t9<|V ad<|w1);exact⟨l.length-(i+1),by omega,i+1,rfl,rfl,by omega,by exact sT,by rw[hs1];exact sT,by exact sT,oo.t o2⟩
 ·have di:decide (i<l.length)=false:=decide_eq_false hi
  obtain rfl:i=l.length:=by omega
  rw[au]at t8;have cl1:=cl l.length;rw[au]at cl1;refine rN ?_ (V t7<|V t8<|V t9<|V hlen<|di);refine((sumC h _ (by omega)).call P).mono P ?_;rintro _ h2 ⟨rfl,o2⟩;refine kM ?_;exact⟨rfl,(o1.t oo).t o2⟩
end
end Go.Proofs.YtnedigoajoflaaaGreat.M
namespace Go.AX
noncomputable section
@[reducible] def Dk(l:List Nat):List AV:=l.map fun b=>.int .u8 (ak b)
def yR(l:List Nat):List Nat:=l.map (· %256)
theorem OK(l:List Nat):o_ (Dk l)=some (yR l):=by
 have h1:nG (Dk l)=true∧(Dk l).map AX.byteOf=yR l:=by
  induction l with
  |nil=>exact⟨rfl,rfl⟩
  | cons a l ih=>
   obtain⟨i1,i2⟩:=ih;refine⟨?_,?_⟩
   ·have hb:isByte (AV.int .u8 (.ofNat a))=true:=rfl
    show(match isByte (AV.int .u8 (.ofNat a))with|true=>nG (Dk l)|false=>false)=true;rw[hb];exact i1
   ·show(a%256)::(Dk l).map AX.byteOf=(a%256)::yR l
    rw[i2]
 unfold o_;rw[h1.1];simp only[h1.2]
inductive zG(e base:Nat)(h:H):AV→List Nat→Prop
 |none:zG e base h .bh []
 |row (b:Nat) (s:List Nat) (t:T AV):base≤b→b<h.nx→h.t.get b=some (.cells s.length t ⟨1,e+1⟩ false)→(∀j,t.get j=(Dk s)[j]?)→zG e base h (.slice b 0 s.length (.iK 0)) s
theorem zG.one{e base:Nat}{h:H}{w:AV}{s:List Nat}(g:zG e base h w s):w.cells=[w]:=by cases g<;>rfl
theorem zG.o{e base:Nat}{h:H}{w:AV}{s:List Nat}(g:zG e base h w s):w.one=true:=by cases g<;>rfl
theorem zG.base{e base:Nat}{h:H}{w:AV}{s:List Nat}(g:zG e base h w s):∀c,bA w=some c→base≤c∧c<h.nx:=by
 intro c hc;cases g with
 |none=>cases hc
 |row b _ t h1 h2=>cases hc;exact⟨h1,h2⟩
theorem zG.bG{e base:Nat}{h h':H}{w:AV}{s:List Nat}(g:zG e base h w s)(x:h.nx≤h'.nx)(k:∀c,bA w=some c→h'.t.get c=h.t.get c):zG e base h' w s:=by
 cases g with
 |none=>exact .none
 |row b _ t h1 h2 h3 h4=>exact .row b s t h1 (aD h2 x) ((k b rfl).trans h3) h4
theorem zG.wk{e a b:Nat}{h:H}{w:AV}{s:List Nat}(g:zG e b h w s)(NB:a≤b):zG e a h w s:=by
 cases g with
 |none=>exact .none
 |row c _ t h1 h2 h3 h4=>exact .row c s t (aQ NB h1) h2 h3 h4
theorem zG.fresh{e base:Nat}{h:H}(hb:base≤h.nx):zG e base (h.alloc (.cells 0 .e ⟨1,e+1⟩ false)) (.slice h.nx 0 0 (.iK 0)) []:=by
 refine .row h.nx [] .e hb (aJ _) ?_ (fun j=>by simp[T.get]);show(h.t.set h.nx _).get h.nx=_;rw[T.bS,if_pos rfl];rfl
theorem by_app{P:Program}{t ts e:TypeId}(hu:P.underlying t=some (.slice e))(hs:P.underlying ts=some .string)(hi:lf P e 1=true){base:Nat}{h:H}{w:AV}{s:List Nat}(g:zG e base h w s)(hb:base≤h.nx)(x:List Nat)(hz:s.length+x.length≤4194304){K:AV→H→Prop}
  (hk:∀v' h',zG e base h' v' (s++x)→h.nx≤h'.nx→(∀b,b<h.nx→bA w≠some b→h'.t.get b=h.t.get b)→(∀b,bA v'=some b→bA w=some b∨h.nx≤b)→h'.g=h.g→K v' h'):jf P (bQ P .append [t,ts] [w,.str x] h) K:=by
 unfold lf at hi;split at hi
 ·rename_i info Ew
  rw[aac]at hi;have e2:=Nat.eq_of_beq_eq_true hi.2;have e0:bQ P .append [t,ts] [w,.str x] h=du e 1 w x.length (Dk x) h:=by
   have hx:x.take x.length=x:=au;simp only[bQ,hu,hs,lz,Ew,hZ,dY,hi.1,qm,hx,e2]
  rw[e0];have el:Nat.beq (kQ (Dk x)) (x.length*1)=true:=by rw[dY,al,aag,aR]
  cases x with
  | nil=>
   have :du e 1 w 0 [] h= .val w h:=by
    cases g with
    |none=>rfl
    |row b _ t h1 h2 h3 h4=>rfl
   show jf P (du e 1 w 0 [] h) K;rw[this];exact hk w h (by rw[aX];exact g) (ao _) (fun _ _ _=>rfl) (fun _ e=>.inl e) rfl
  | cons a x=>
   obtain⟨m,hm⟩:∃m,(a::x).length=m+1:=⟨_,rfl⟩;obtain⟨y,hy⟩:∃y,y=a::x:=⟨_,rfl⟩;rw[←hy]at hm el hz hk ⊢;cases g with
   | none=>
    have e2:small (m+1)=true:=by unfold small;rw[aZ];omega
    have :du e 1 .bh y.length (Dk y) h= .val (.slice h.nx 0 y.length (.iK 0)) (h.grown none ⟨1,e+1⟩ (Dk y)):=by
     rw[hm]at el ⊢;unfold du;simp only[el,e2]
    rw[this];refine hk _ _ ?_ (Nat.le_succ _) (fun b mz _=>by rw[pD _ _ _ _ _ mz,if_neg (by simp)]) (fun b mz=>?_) rfl
    ·rw[List.nil_append]
     refine .row h.nx y (T.ofRow (Dk y)) hb (aJ _) ?_ (T.eG _);rw[iS,al]
    ·cases mz;exact .inr (ao _)
   | row b _ t h1 h2 h3 h4=>
    have e2:small (s.length+(m+1))=true:=by unfold small;rw[aZ];omega
    have e3:aao (0+(s.length+(m+1))*1) s.length=false:=by rw[←Bool.not_eq_true,aZ];omega
    have e4:H.my t 0 (s.length*1)=some (Dk s):=by
     rw[rz h4 _ _ (by rw[al];omega),List.drop_zero,aag,aae (by rw[al];omega)]
    have kk:kG ⟨1,e+1⟩ 1 e=⟨1,e+1⟩:=by unfold kG;simp only[aR]
    have :du e 1 (.slice b 0 s.length (.iK 0)) y.length (Dk y) h= .val (.slice h.nx 0 (s.length+y.length) (.iK 0)) (h.grown (some b) ⟨1,e+1⟩ (Dk s++Dk y)):=by
     rw[hm]at el ⊢;unfold du;simp only[el,e2,e3,e4,h3,aap,aR,kk]
    rw[this];have ea:Dk s++Dk y=Dk (s++y):=by unfold Dk;rw[aN]
    have en:s.length+y.length=(s++y).length:=by rw[aq]
    rw[ea,en];refine hk _ _ ?_ (Nat.le_succ _) (fun c hc dH=>by rw[pD _ _ _ _ _ hc];exact if_neg dH) (fun c hc=>?_) rfl
    ·refine .row h.nx (s++y) (T.ofRow (Dk (s++y))) hb (aJ _) ?_ (T.eG _)
     rw[iS,al]
    ·cases hc;exact .inr (ao _)
 ·cases hi
theorem by_str{P:Program}{pt e:TypeId}(hu:P.underlying pt=some (.pointer e))(hc:P.cellsOf e=1)(eH:eQ P e=true){base:Nat}{h:H}{w:AV}{s:List Nat}(g:zG e base h w s)(hz:s.length≤4194304)(hn:w= .bh∨s≠[]):
  ∃p,kT w=some p∧∃h',iN P pt p s.length h= .val (.str (yR s)) h'∧h'.nx=h.nx∧h'.g=h.g∧∀c,bA w≠some c→h'.t.get c=h.t.get c:=by
 cases g with
 |none=>exact⟨_,rfl,h,rfl,rfl,rfl,fun _ _=>rfl⟩
 | row b _ t h1 h2 h3 h4=>
  have hn:s≠[]:=hn.resolve_left (by simp);obtain⟨m,hm⟩:∃m,s.length=m+1:=⟨s.length-1,by have:=List.length_pos_iff.2 hn;omega⟩;have e1:Nat.beq s.length 0=false:=by rw[hm];rfl
  have e2:small (m+1)=true:=by unfold small;rw[aZ];omega
  have e4:H.my t 0 (m+1)=some (Dk s):=by
   rw[rz h4 _ _ (by rw[al];omega),List.drop_zero,aae (by rw[al];omega)]
  refine⟨.ptr b 0,by simp only[kT,e1],{h with t:=h.t.set b (some (.cells s.length t ⟨1,e+1⟩ true))},?_,rfl,rfl,fun c hc=>?_⟩
  ·rw[hm]
   unfold iN;simp only[hu,h3,hc,aR,eH,e2,e4,Bool.and_self,OK,hm]
  ·show(h.t.set b _).get c=_
   rw[T.bS,if_neg (fun e=>hc (by rw[e];rfl))]
end
end Go.AX
namespace Go.Proofs.YtnedigoajoflaaaGreat.M
open Go Go.AX
noncomputable section
set_option maxRecDepth 100000
theorem E5{p q r:Prop}(hq:q)(fs:r)(f:r→q→p:=by intro fs hq;(repeat' (first|((with_reducible refine gh ?_);(conv =>whnf);(with_reducible refine⟨?_⟩))|((with_reducible refine cV St ?_ rfl rfl ?_);exact rfl;(conv =>arg 4;whnf);(conv =>arg 3;whnf))|((with_reducible refine bE rfl ?_);(conv =>arg 2;whnf))|((with_reducible first|refine iB ?_ ?_|refine g_ ?_ ?_|refine hP ?_ ?_|refine pL ?_ ?_|refine pM ?_ ?_)<;>intro hb<;>(try simp only[hb]))|((with_reducible show dh _ _ _ _ _ _ _ _ _);first|((with_reducible apply gM);exact rfl;exact rfl)|((with_reducible apply gN);exact rfl;exact rfl;exact rfl)|((with_reducible apply gP);exact rfl;exact rfl;kernel_rfl)|((with_reducible apply gQ);exact rfl;exact rfl;exact rfl)|((with_reducible apply gT);exact rfl;exact rfl;exact rfl)|((with_reducible apply gR);exact rfl;exact rfl;kernel_rfl;exact rfl)|((with_reducible apply gS);exact rfl;exact rfl;kernel_rfl;exact rfl)|((with_reducible refine gL ?_ ?_)))|((with_reducible show il _ _ _ _ _ _);first|(exact cK)|(refine eB ?_ ?_ ?_;exact rfl)|(apply eC;exact rfl;exact rfl)|(refine eD ?_ ?_ ?_ ?_;exact rfl;kernel_rfl)|(apply eF;exact rfl)|(apply eE;exact rfl;exact rfl))|((with_reducible refine bX ?_);kernel_rfl)|(simp only[B,xB,F,F2,ab,ae,af,ag,ah,ai, ↓reduceIte,eq_self,fs])));exact hq):p:=f fs hq
theorem ext107:Ht P 107 Extern.AbiNoEscape.same:=⟨Tryz.f107,Tryz.func107,by kernel_rfl,by kernel_rfl,by kernel_rfl,by kernel_rfl⟩
theorem ext123:Ht P 123 (Extern.BytealgMakeNoZero.makeNoZero Tryz.f123.params #[95]):=⟨Tryz.f123,Tryz.func123,by kernel_rfl,by kernel_rfl,by kernel_rfl,by kernel_rfl⟩
theorem Sy:eN P (pA 107):=zh ext107
theorem Dl:P.underlying 95=some (.slice 5):=by kernel_rfl
theorem Vk:eN P (AT 123 5):=Hu Dl ext123
theorem ce107(first cap args:List AV)(h:H):je P (.func 107 first cap) args h= .ext 107 (first ++args++cap) h:=by
 have e:nF P 107=false:=by kernel_rfl
 simp only[je,e]
theorem ce123(first cap args:List AV)(h:H):je P (.func 123 first cap) args h= .ext 123 (first ++args++cap) h:=by
 have e:nF P 123=false:=by kernel_rfl
 simp only[je,e]
structure jn(h:H)(base b:Nat)(a w:AV)(s:List Nat):Prop where
 lt:b<h.nx
 ob:∃t,h.t.get b=some (.cells 2 t ⟨0,98⟩ false)
 c0:cellAt h b 0=some a
 c1:cellAt h b 1=some w
 aa:a= .cN∨a= .ptr b 0
 gw:zG 5 base h w s
 nb:b<base
theorem jn.wr{h:H}{base b:Nat}{a w:AV}{s:List Nat}(k:jn h base b a w s):cj h b=true:=by
 obtain⟨t,ht⟩:=k.ob;unfold cj;rw[ht]
theorem jn.move{h h':H}{base b:Nat}{a w:AV}{s:List Nat}(k:jn h base b a w s)(x:h.nx≤h'.nx)(e:h'.t.get b=h.t.get b)(ew:∀c,bA w=some c→h'.t.get c=h.t.get c):jn h' base b a w s:=
 ⟨aD k.lt x,by obtain⟨t,ht⟩:=k.ob;exact⟨t,e.trans ht⟩,by rw[bo e];exact k.c0,by rw[bo e];exact k.c1,k.aa,k.gw.bG x ew,k.nb⟩
theorem jn.bU{h h':H}{base b:Nat}{a w:AV}{s:List Nat}(k:jn h base b a w s)(o:Og h h' []):jn h' base b a w s:=
 k.move o.1.1 (o.1.2 b k.lt (by simp)) (fun c e=>o.1.2 c (k.gw.base c e).2 (by simp))
theorem jn.new(h:H):jn (h.bq 97 [.cN,.bh]) (h.nx+1) h.nx .cN .bh []:=by
 refine⟨aJ _,⟨T.ofRow [.cN,.bh],?_⟩,by rw[bJ,if_pos rfl];rfl,by rw[bJ,if_pos rfl];rfl,.inl rfl,.none,aJ _⟩;show(h.t.set h.nx _).get h.nx=_;rw[T.bS,if_pos rfl];rfl
theorem Sz{h:H}{b:Nat}(o:∃t,h.t.get b=some (.cells 2 t ⟨0,98⟩ false))(i:Nat)(l:List AV):∃t,(h.cm b i l).t.get b=some (.cells 2 t ⟨0,98⟩ false):=by
 obtain⟨t,ht⟩:=o;refine⟨Bd t i l,?_⟩;unfold H.cm;rw[ht];show(h.t.set b _).get b=_;rw[T.bS,if_pos rfl]
theorem jn.own{h:H}{base b:Nat}{a w:AV}{s:List Nat}(k:jn h base b a w s):jn (h.cm b 0 [.ptr b 0]) base b (.ptr b 0) w s:=by
 have wr:=k.wr;refine⟨by rw[bI];exact k.lt,Sz k.ob _ _,by rw[b_ wr,if_pos ⟨rfl,ao _,by simp⟩];rfl,by rw[b_ wr,if_neg (by simp)];exact k.c1,.inr rfl,k.gw.bG (by rw[bI];exact ao _) (fun c e=>bT _ _ _ _ (by have:=(k.gw.base c e).1;have:=k.nb;omega)),k.nb⟩
theorem jn.put{h:H}{base b:Nat}{a v:AV}{s2:List Nat}(lt:b<h.nx)(ob:∃t,h.t.get b=some (.cells 2 t ⟨0,98⟩ false))(c0:cellAt h b 0=some a)(aa:a= .cN∨a= .ptr b 0)(nb:b<base)(g:zG 5 base h v s2):jn (h.cm b 1 [v]) base b a v s2:=by
 have wr:cj h b=true:=by
  obtain⟨t,ht⟩:=ob;unfold cj;rw[ht]
 refine⟨by rw[bI];exact lt,Sz ob _ _,by rw[b_ wr,if_neg (by simp)];exact c0,by rw[b_ wr,if_pos ⟨rfl,ao _,by simp⟩];rfl,aa,g.bG (by rw[bI];exact ao _) (fun c e=>bT _ _ _ _ (by have:=(g.base c e).1;omega)),nb⟩
theorem ok97:eQ P 97=true:=by kernel_rfl
theorem ne94s(h:H)(x y:Operand)(b:Nat):ed P h .neq 94 x y (.ptr b 0) (.ptr b 0)= .val (.bool false) h:=by
 simp only[ed,d_,jR,jZ,sM,u94,eM,aR,ok97,aW]
theorem W1:P.underlying 165=some .unsafePointer:=by kernel_rfl
theorem un1{h:H}{b:Nat}(o:∃t,h.t.get b=some (.cells 2 t ⟨0,98⟩ false)):mq P 94 165 (.ptr b 0) h= .val (.ptr b 0) h:=by
 obtain⟨t,ht⟩:=o;have e:(eQ P 97&&aao 1 (P.cellsOf 97))=true:=by kernel_rfl
 simp only[mq,u94,W1,iz,ht];rw[show(Nat.blt 0 2&&eQ P 97&&aao 1 (P.cellsOf 97))=true by rw[show Nat.blt 0 2=true from rfl,aal];exact e]
theorem un2{h:H}{b:Nat}(o:∃t,h.t.get b=some (.cells 2 t ⟨0,98⟩ false)):mq P 165 94 (.ptr b 0) h= .val (.ptr b 0) h:=by
 obtain⟨t,ht⟩:=o;have e:(Nat.beq 98 (97+1)&&eQ P 97&&aao 1 (P.cellsOf 97)&&aao (P.cellsOf 97) 2)=true:=by kernel_rfl
 simp only[mq,u94,W1,fA,ht,e]
theorem W3(h0:H)(base b:Nat)(a w:AV)(s:List Nat)(k:jn h0 base b a w s):bW P (.enter 80 [.ptr b 0] h0) fun v h'=>v= .tuple []∧jn h' base b (.ptr b 0) w s∧h'.nx=h0.nx∧Og h0 h' [b]:=by
 have c0:=k.c0;have wr:=k.wr;have v1:=un1 k.ob;have v2:=un2 k.ob;rcases k.aa with rfl|rfl
 ·refine bn (fn:=Tryz.f80) (c:=bD Tryz.f80) Tryz.func80 rfl ?_
  show bB P 80 20 none _ _ _ _ _;refine bp ?_;refine rN ?_ (V F2<|V c0<|V v1<|ce107);refine⟨_,_,_,Sy,rfl,?_⟩;obtain⟨h1,cC⟩:∃h1,h1=h0.cm b 0 [.ptr b 0]:=⟨_,rfl⟩;have k1:=k.own;rw[←cC]at k1;refine rN ?_ (V F2<|V c0<|V v2<|V wr<|cC.symm);exact⟨_,rfl,_,rfl,rfl,k1,by rw[cC,bI],by rw[cC];exact(Og.refl _ _).cm (.inl (by simp))⟩
 ·refine bn (fn:=Tryz.f80) (c:=bD Tryz.f80) Tryz.func80 rfl ?_
  show bB P 80 20 none _ _ _ _ _;refine bp ?_;refine rN ?_ (V F2<|V c0<|ne94s);exact⟨_,rfl,_,rfl,rfl,k,rfl,Og.refl _ _⟩
structure Bf(base b:Nat)(h h':H):Prop where
 nx:h.nx≤h'.nx
 old:∀d,d<base→d≠b→h'.t.get d=h.t.get d
 g:h'.g=h.g
theorem Gn(h0:H)(base b:Nat)(a w:AV)(s:List Nat)(k:jn h0 base b a w s)(lb:base≤h0.nx)(x:List Nat)(hz:s.length+x.length≤4194304):
  bW P (.enter 41 [.ptr b 0,.str x] h0) fun v h'=>v= .tuple [.int .i64 (.ofNat x.length),.nilIface]∧Bf base b h0 h'∧∃w',jn h' base b (.ptr b 0) w' (s++x):=by
 have hlen:∀(h':H)(ts:List TypeId)(xs:List AV),bQ P .len (9::ts) (.str x::xs) h'= .val (.int .i64 (.ofNat x.length)) h':=fun h' ts xs=>by simp only[bQ,qE,dY,ZU]
 refine bn (fn:=Tryz.f41) (c:=bD Tryz.f41) Tryz.func41 rfl ?_;show bB P 41 19 none _ _ _ _ _;refine bp ?_;refine rN ?_ (F2);refine((W3 h0 base b a w s k).call P).mono P ?_;rintro _ h1 ⟨rfl,k1,x1,o1⟩;have c1:=k1.c1;have wo:=k1.gw.o;refine rN ?_ (V F2<|V c1<|wo);refine by_app Dl ZU (by kernel_rfl) k1.gw (by omega) x hz (fun v' h2 g2 x2 UG bl2 gg2=>?_);have g2o:=g2.o;have g2c:=g2.one;have dX:=k1.lt;have nb:=k1.nb;have hw:∀c,bA w=some c→base≤c:=fun c e=>(k1.gw.base c e).1;have e2:=UG b dX (fun e=>by have:=hw _ e;omega);have ob2:∃t,h2.t.get b=some (.cells 2 t ⟨0,98⟩ false):=by obtain⟨t,ht⟩:=k1.ob;exact⟨t,e2.trans ht⟩
 have d0:cellAt h2 b 0=some (.ptr b 0):=by rw[bo e2];exact k1.c0
 have d1:cellAt h2 b 1=some w:=by rw[bo e2];exact c1
 have Jy:cj h2 b=true:=by rw[bC e2];exact k1.wr
 have k3:=jn.put (aD dX x2) ob2 d0 (.inr rfl) nb g2;obtain⟨h3,cB⟩:∃h3,h3=h2.cm b 1 [v']:=⟨_,rfl⟩;rw[←cB]at k3;refine rN ?_ (V F2<|V g2o<|V g2c<|V d1<|V Jy<|V cB.symm<|hlen);refine⟨⟨by rw[cB,bI];omega,fun d hd dH=>?_,by rw[cB,dD,gg2,o1.2]⟩,v',k3⟩;rw[cB,bT _ _ _ _ dH,UG d (by omega) (fun e=>by have:=hw _ e;omega),o1.1.2 d (by omega) (by simp;exact dH)]
theorem growC(h0:H)(base b:Nat)(k:jn h0 base b (.ptr b 0) .bh [])(lb:base≤h0.nx)(n:Nat)(hz:n≤4194304):
  bW P (.enter 108 [.ptr b 0,.int .i64 (.ofNat n)] h0) fun v h'=>v= .tuple []∧Bf base b h0 h'∧∃w',jn h' base b (.ptr b 0) w' []:=by
 have c1:=k.c1;refine bn (fn:=Tryz.f108) (c:=bD Tryz.f108) Tryz.func108 rfl ?_;show bB P 108 30 none _ _ _ _ _;refine bp ?_;have Jk:∀(h':H)(ts:List TypeId)(xs:List AV),bQ P .cap (95::ts) (.bh::xs) h'= .val (.int .i64 (.ofNat 0)) h':=fun h' ts xs=>by simp only[bQ,O7,Dl]
 have sS:∀(h':H)(ts:List TypeId)(xs:List AV),bQ P .len (95::ts) (.bh::xs) h'= .val (.int .i64 (.ofNat 0)) h':=fun h' ts xs=>by simp only[bQ,qE,Dl]
 have w0:bV .i64 (ak 2*ak 0)=ak 0:=rfl;have w1:bV .i64 (ak 0+ak n)=ak n:=by have:=cq (a:=0) (b:=n) (by omega);simpa using this
 refine E5 ?_ (V F2<|V c1<|V ce123<|V Jk<|V w0<|w1);have sm:small n=true:=by unfold small;rw[aZ];exact hz
 refine⟨_,.slice h0.nx 0 n (.iK 0),h0.alloc (.cells 0 .e ⟨1,6⟩ false),Vk,?_,?_⟩
 ·show zw 123 5 123 [.int .i64 (.ofNat n)] h0=_
  unfold zw;simp only[aR,sm]
 obtain⟨h1,cC⟩:∃h1,h1=h0.alloc (.cells 0 .e ⟨1,6⟩ false):=⟨_,rfl⟩;have o1:Og h0 h1 []:=by rw[cC];exact(Og.refl _ _).alloc _
 have g1:zG 5 base h1 (.slice h0.nx 0 0 (.iK 0)) []:=by rw[cC];exact zG.fresh lb
 have e1:h1.t.get h0.nx=some (.cells 0 .e ⟨1,6⟩ false):=by
  rw[cC];show(h0.t.set h0.nx _).get h0.nx=_;rw[T.bS,if_pos rfl]
 obtain⟨hp,hpe⟩:∃hp,hp={h1 with t:=h1.t.set h0.nx (some (.cells 0 .e ⟨1,6⟩ false))}:=⟨_,rfl⟩;have op:Og h1 hp []:=by
  rw[hpe];refine⟨⟨ao _,fun c _ _=>?_⟩,rfl⟩;show(h1.t.set h0.nx _).get c=_;rw[T.bS];split
  ·rename_i e;rw[e];exact e1.symm
  ·rfl
 have Fo:h1.put h0.nx 0 []=some hp:=by
  rw[hpe];unfold H.put;rw[e1];rfl
 have x1:h1.nx=h0.nx+1:=by rw[cC];rfl
 have gp:zG 5 base hp (.slice h0.nx 0 0 (.iK 0)) []:=g1.bG op.1.1 (fun c e=>op.1.2 c (by cases e;omega) (by simp));have k1:=k.bU o1;have kp:=k1.bU op;have d1:=k1.c1;have d2:=kp.c1;have wrp:=kp.wr;rw[←cC];have sl0:dF P 95 (.slice h0.nx 0 n (.iK 0)) none (some (.int .i64 (.ofNat 0))) none=some (.slice h0.nx 0 0 (.iK 0)):=by
  have hb:aao 0 n=true:=by rw[aZ];exact aw _
  simp only[dF,Dl,show eQ P 5=true from YZ,jz,j0,CA,hb]
 have cp0:∀(ts:List TypeId)(xs:List AV),bQ P .copy (95::ts) (.slice h0.nx 0 0 (.iK 0):: .bh::xs) h1= .val (.int .i64 (.ofNat 0)) hp:=by
  intro ts xs;simp only[bQ,Dl,zN,hZ,qm,show eQ P 5=true from YZ,Nat.min_self,Fo]
 obtain⟨h2,cJ⟩:∃h2,h2=hp.cm b 1 [.slice h0.nx 0 0 (.iK 0)]:=⟨_,rfl⟩;have k2:=jn.put kp.lt kp.ob kp.c0 kp.aa kp.nb gp;rw[←cJ]at k2;refine E5 ?_ (V F2<|V c1<|V d1<|V sS<|V @vG<|V sl0<|V cp0<|V d2<|V wrp<|cJ.symm);exact⟨_,rfl,_,rfl,rfl,⟨by rw[cJ,bI];exact(o1.t op).1.1,fun d hd dH=>by rw[cJ,bT _ _ _ _ dH,(o1.t op).1.2 d (by omega) (by simp)],by rw[cJ,dD,(o1.t op).2]⟩,_,k2⟩
theorem growsC(h0:H)(base b:Nat)(a:AV)(k:jn h0 base b a .bh [])(lb:base≤h0.nx)(n:Nat)(hn:0<n)(hz:n≤4194304):
  bW P (.enter 81 [.ptr b 0,.int .i64 (.ofNat n)] h0) fun v h'=>v= .tuple []∧Bf base b h0 h'∧∃w',jn h' base b (.ptr b 0) w' []:=by
 have Jk:∀(h':H)(ts:List TypeId)(xs:List AV),bQ P .cap (95::ts) (.bh::xs) h'= .val (.int .i64 (.ofNat 0)) h':=fun h' ts xs=>by simp only[bQ,O7,Dl]
 have sS:∀(h':H)(ts:List TypeId)(xs:List AV),bQ P .len (95::ts) (.bh::xs) h'= .val (.int .i64 (.ofNat 0)) h':=fun h' ts xs=>by simp only[bQ,qE,Dl]
 have d0:decide (n<0)=false:=decide_eq_false (by omega);have d1:decide (0<n)=true:=decide_eq_true hn;have w0:bV .i64 (ak 0-ak 0)=ak 0:=rfl;refine bn (fn:=Tryz.f81) (c:=bD Tryz.f81) Tryz.func81 rfl ?_;show bB P 81 25 none _ _ _ _ _;refine bp ?_;refine rN ?_ (F2);refine((W3 h0 base b a .bh [] k).call P).mono P ?_;rintro _ h1 ⟨rfl,k1,x1,o1⟩;have c1:=k1.c1;refine rT ?_ (V F2<|V c1<|V Jk<|V sS<|V d0<|V d1<|w0);refine((growC h1 base b k1 (by omega) n hz).call P).mono P ?_;rintro _ h2 ⟨rfl,f2,w',k2⟩;refine rN ?_ (F2);exact⟨_,rfl,_,rfl,rfl,⟨by have:=f2.nx;omega,fun d hd dH=>by rw[f2.old d hd dH,o1.1.2 d (by omega) (by simp;exact dH)],by rw[f2.g,o1.2]⟩,w',k2⟩
theorem SA{p q r:Prop}(hq:q)(fs:r)(f:r→q→p:=by intro fs hq;(repeat' (first|((with_reducible refine gh ?_);(conv =>whnf);(with_reducible refine⟨?_⟩))|((with_reducible refine cV Ub ?_ rfl rfl ?_);exact rfl;(conv =>arg 4;whnf);(conv =>arg 3;whnf))|((with_reducible refine bE rfl ?_);(conv =>arg 2;whnf))|((with_reducible first|refine iB ?_ ?_|refine g_ ?_ ?_|refine hP ?_ ?_|refine pL ?_ ?_|refine pM ?_ ?_)<;>intro hb<;>(try simp only[hb]))|((with_reducible show dh _ _ _ _ _ _ _ _ _);first|((with_reducible apply gM);exact rfl;exact rfl)|((with_reducible apply gN);exact rfl;exact rfl;exact rfl)|((with_reducible apply gP);exact rfl;exact rfl;kernel_rfl)|((with_reducible apply gQ);exact rfl;exact rfl;exact rfl)|((with_reducible apply gT);exact rfl;exact rfl;exact rfl)|((with_reducible apply gR);exact rfl;exact rfl;kernel_rfl;exact rfl)|((with_reducible apply gS);exact rfl;exact rfl;kernel_rfl;exact rfl)|((with_reducible refine gL ?_ ?_)))|((with_reducible show il _ _ _ _ _ _);first|(exact cK)|(refine eB ?_ ?_ ?_;exact rfl)|(apply eC;exact rfl;exact rfl)|(refine eD ?_ ?_ ?_ ?_;exact rfl;kernel_rfl)|(apply eF;exact rfl)|(apply eE;exact rfl;exact rfl))|((with_reducible refine bX ?_);kernel_rfl)|(simp only[B,xB,F,F2,ab,ae,af,ag,ah,ai, ↓reduceIte,eq_self,fs])));exact hq):p:=f fs hq
theorem Nf(h0:H)(base b:Nat)(a w:AV)(s:List Nat)(k:jn h0 base b a w s)(hz:s.length≤4194304)(hn:w= .bh∨s≠[]):
  bW P (.enter 44 [.ptr b 0] h0) fun v h'=>v= .str (yR s)∧h'.nx=h0.nx∧h'.g=h0.g∧∀c,bA w≠some c→h'.t.get c=h0.t.get c:=by
 have c1:=k.c1;have hlen:∀(h':H)(ts:List TypeId)(xs:List AV),bQ P .len (95::ts) (w::xs) h'= .val (.int .i64 (.ofNat s.length)) h':=fun h' ts xs=>by
  cases k.gw with
  |none=>simp only[bQ,qE,Dl];rfl
  |row _ _ _=>simp only[bQ,qE,Dl]
 obtain⟨p,hp,h1,hu,x1,g1,old⟩:=by_str (P:=P) (pt:=146) (e:=5) (by kernel_rfl) (by kernel_rfl) YZ k.gw hz hn;have sd:∀(h':H)(ts:List TypeId),bQ P .unsafeSliceData ts [w] h'= .val p h':=fun h' ts=>by simp only[bQ,hp,eM]
 have us:bQ P .unsafeString [146,3] [p,.int .i64 (.ofNat s.length)] h0= .val (.str (yR s)) h1:=by simp only[bQ];exact hu
 refine bn (fn:=Tryz.f44) (c:=bD Tryz.f44) Tryz.func44 rfl ?_;show bB P 44 14 none _ _ _ _ _;refine bp ?_;refine SA ?_ (V F2<|V c1<|V hlen<|V sd<|us)
 trace_state
 exact⟨x1,g1,old⟩
theorem u92a:P.underlying 92=some (.slice 9):=by kernel_rfl
def kA(ts:List (List Nat)):List Nat:=if ts.length=1 then ts.flatten else yR ts.flatten
structure JaI(h0:H)(va:AV)(ts:List (List Nat))(m:Nat)(ds:List Nat)(tm:T AV)(h:H)(i:Nat):Prop where
 ds:ds=[]
 nn:m=ts.length-i
 ii:i≤ts.length
 t0:tm.get 0=some va
 t1:tm.get 1=some (.str [])
 t5:tm.get 5=some (.int .i64 (.ofNat (ts.take i).flatten.length))
 t39:tm.get 39=some va
 t40:tm.get 40=some (.int .i64 (.ofNat ts.length))
 t41:tm.get 41=some (.int .i64 (.ofNat i))
 he:h=h0
structure JnI(h1:H)(b:Nat)(v63:AV)(ts:List (List Nat))(m:Nat)(ds:List Nat)(tm:T AV)(h:H)(i:Nat)(w:AV):Prop where
 ds:ds=[]
 nn:m=ts.tail.length-i
 ii:i≤ts.tail.length
 t1:tm.get 1=some (.str [])
 t8:tm.get 8=some (.ptr b 0)
 t63:tm.get 63=some v63
 t64:tm.get 64=some (.int .i64 (.ofNat ts.tail.length))
 t65:tm.get 65=some (.int .i64 (.ofNat i))
 bu:jn h (b+1) b (.ptr b 0) w ((ts.take (i+1)).flatten)
 bf:Bf (b+1) b h1 h
theorem Bf.t{base b:Nat}{h h1 h2:H}(a:Bf base b h h1)(c:Bf base b h1 h2):Bf base b h h2:=⟨aQ a.nx c.nx,fun d hd hn=>(c.old d hd hn).trans (a.old d hd hn),c.g.trans a.g⟩
theorem lV{ts:List (List Nat)}{z:Nat}(hz:ts.flatten.length≤z)(i:Nat):(ts.take i).flatten.length≤z:=by
 have e:ts.flatten=(ts.take i).flatten++(ts.drop i).flatten:=by rw[←aY,List.take_append_drop]
 rw[e,aq]at hz;omega
theorem xL{ts:List (List Nat)}{i:Nat}{s:List Nat}(h:ts[i]? =some s):(ts.take (i+1)).flatten=(ts.take i).flatten++s:=by
 rw[aH,h,aY];simp
theorem E6{size base:Nat}{h:H}{v:AV}{n:Nat}{cs:List AV}(g:bK size base h v n cs)(hn:0<n):∃c,v= .slice c 0 n (.iK 0):=by
 cases g with
 |none=>omega
 |cell b _ _ _ _=>exact⟨b,rfl⟩
theorem joinC(h0:H)(b0:Nat)(va:AV)(ts:List (List Nat))(g:bK 1 b0 h0 va ts.length (strs ts))(hn:0<ts.length)(dH:∀t,t∈ts→t≠[])(hz:ts.flatten.length≤4000000)(hl:ts.length≤1000000):
  bW P (.enter 42 [va,.str []] h0) fun v h'=>v= .str (kA ts)∧Og h0 h' []:=by
 have hlen:=g.slice.len (P:=P) u92a;have vo:=g.one;unfold kA;by_cases h1:ts.length=1
 ·obtain⟨s,rfl⟩:∃s,ts=[s]:=by
   match ts,h1 with
   |[s],_=>exact⟨s,rfl⟩
  rw[if_pos h1];obtain⟨bv,ov,cv,rfl,qw,-⟩:=g.slice.place (by simp);have q0:=nQ g.slice (i:=0) (k:=s) rfl;rw[aap,Nat.add_zero]at q0;have hlen:∀(h':H)(ts_1:List TypeId)(xs:List AV),bQ P .len (92::ts_1) (.slice bv ov 1 cv::xs) h'= .val (.int .i64 (.ofNat 1)) h':=hlen;refine bn (fn:=Tryz.f42) (c:=bD Tryz.f42) Tryz.func42 rfl ?_;show bB P 42 75 none _ _ _ _ _;refine bp ?_;refine rN ?_ (V F2<|V hlen<|V q0<|vo);exact⟨by simp,Og.refl _ _⟩
 ·rw[if_neg h1]
  have e0:decide (ts.length=0)=false:=decide_eq_false (by omega);have e1:decide (ts.length=1)=false:=decide_eq_false h1;refine bn (fn:=Tryz.f42) (c:=bD Tryz.f42) Tryz.func42 rfl ?_;show bB P 42 75 none _ _ _ _ _;refine bp ?_;refine rN ?_ (V F2<|V hlen<|V vo<|V e0<|V e1<|ez);refine cn (fun m ds tm h=>∃i,JaI h0 va ts m ds tm h i) ts.length rfl ⟨0,rfl,rfl,aw _,by simp only[B,F,F2,ab,ae,af,ag,ah,ai, ↓reduceIte,eq_self],by simp only[B,F,F2,ab,ae,af,ag,ah,ai, ↓reduceIte,eq_self],by rw[aP];simp only[B,F,F2,ab,ae,af,ag,ah,ai, ↓reduceIte,eq_self];rfl,by simp only[B,F,F2,ab,ae,af,ag,ah,ai, ↓reduceIte,eq_self],by simp only[B,F,F2,ab,ae,af,ag,ah,ai, ↓reduceIte,eq_self],by simp only[B,F,F2,ab,ae,af,ag,ah,ai, ↓reduceIte,eq_self],rfl⟩ (fun m ds tm h hI=>?_);obtain⟨i,rfl,rfl,ii,t0,t1,t5,t39,t40,t41,rfl⟩:=hI;have Tj:=lV hz i;by_cases hi:i<ts.length
  ·have di:decide (i<ts.length)=true:=decide_eq_true hi
   have dX:(i<ts.length)=True:=by simp[hi]
   obtain⟨s,hs⟩:∃s,ts[i]? =some s:=⟨_,an hi⟩;have hfs:=lV hz (i+1);have hsn:=xL hs;rw[hsn,aq]at hfs;obtain⟨bv,ov,cv,rfl,qw,-⟩:=g.slice.place (by omega);have q0:=nQ g.slice hs;have w1:bV .i64 (ak i+ak 1)=ak (i+1):=cq (by omega);have w2:bV .i64 (ak 9223372036854775807-ak (ts.take i).flatten.length)=ak (9223372036854775807-(ts.take i).flatten.length):=sD (by omega) (by omega);have w3:bV .i64 (ak (ts.take i).flatten.length+ak s.length)=ak ((ts.take i).flatten.length+s.length):=cq (by omega);have d2:decide (9223372036854775807-(ts.take i).flatten.length<s.length)=false:=decide_eq_false (by omega);have hls:∀(h':H)(ts:List TypeId)(xs:List AV),bQ P .len (9::ts) (.str s::xs) h'= .val (.int .i64 (.ofNat s.length)) h':=fun h' ts xs=>by simp only[bQ,qE,dY,ZU]
   refine rN ?_ (V F2<|V t0<|V t1<|V t5<|V t39<|V t40<|V t41<|V di<|V dX<|V q0<|V hls<|V w2<|V w3<|V d2<|w1);exact⟨ts.length-(i+1),by omega,i+1,rfl,rfl,by omega,by exact sT,by exact sT,by rw[hsn,aq];exact sT,by exact sT,by exact sT,by exact sT,rfl⟩
  ·have di:decide (i<ts.length)=false:=decide_eq_false hi
   obtain rfl:i=ts.length:=by omega
   rw[au]at t5;obtain⟨s0,sq⟩:∃s,ts[0]? =some s:=⟨_,an (by omega)⟩;have ht1:(ts.take 1).flatten=s0:=by rw[xL sq,aP];rfl
   have hs0z:=lV hz 1;have hs0f:=lV (ao ts.flatten.length) 1;rw[ht1]at hs0z hs0f;have LF:0<ts.flatten.length:=by
    have:=List.length_pos_iff.2 (dH s0 (aB sq));omega
   obtain⟨hb,Tc⟩:∃hb,hb=h.bq 97 [.cN,.bh]:=⟨_,rfl⟩;have kb:=jn.new h;rw[←Tc]at kb;have xb:hb.nx=h.nx+1:=by rw[Tc];rfl
   have ob:Og h hb []:=by rw[Tc];exact(Og.refl _ _).new _ _
   refine rN ?_ (V F2<|V t0<|V t1<|V t5<|V t39<|V t40<|V t41<|V di<|Tc.symm);refine((growsC hb (h.nx+1) h.nx _ kb (by omega) ts.flatten.length LF (by omega)).call P).mono P ?_;rintro _ h2 ⟨rfl,f2,w2,k2⟩;have x2:=f2.nx;obtain⟨c,rfl⟩:=E6 g (by omega);have hc:c<h.nx:=(g.base rfl).2;have g2:bK 1 b0 h2 (.slice c 0 ts.length (.iK 0)) ts.length (strs ts):=g.bG (by omega) (fun d e=>by cases e;rw[f2.old c (by omega) (by omega),ob.1.2 c hc (by simp)]);have q0:=nQ g2.slice sq;have dX:(0<ts.length)=True:=by simp[hn]
   refine rN ?_ (V F2<|V t0<|V dX<|q0);refine((Gn h2 (h.nx+1) h.nx _ _ _ k2 (by omega) s0 (by simp;omega)).call P).mono P ?_;rintro _ h3 ⟨rfl,f3,w3,k3⟩;have x3:=f3.nx;have sl63:dF P 92 (.slice c 0 ts.length (.iK 0)) (some (.int .i64 (.ofNat 1))) none none=some (.slice c (0+1*1) (ts.length-1) (.iK (0+1))):=FY u92a (by kernel_rfl) (by kernel_rfl) c 0 ts.length 0 1 .i64 (by omega);have Zi:ts.tail.length=ts.length-1:=List.length_tail;have g3:bK 1 b0 h3 (.slice c 0 ts.length (.iK 0)) ts.length (strs ts):=g2.bG x3 (fun d e=>by cases e;rw[f3.old c (by omega) (by omega)]);have st:br h3 (.slice c (0+1*1) (ts.length-1) (.iK (0+1))) (ts.length-1) (strs ts.tail):=by
    refine .cell c _ _ _ _ (by omega) (fun j hj=>?_);have hj':j<ts.tail.length:=by unfold strs at hj;rwa[al]at hj
    obtain⟨s,hs⟩:∃s,ts.tail[j]? =some s:=⟨_,an hj'⟩;have hs2:ts[j+1]? =some s:=by rw[aam]at hs;exact hs
    have:=nQ g3.slice hs2;rw[show 0+1*1+j=0+(j+1)*1 by omega,this];unfold strs;rw[aC,hs];rfl
   have hl63:=st.len (P:=P) u92a;have st2:=st;obtain⟨v63,Vl⟩:∃v,v=AV.slice c (0+1*1) (ts.length-1) (.iK (0+1)):=⟨_,rfl⟩;rw[←Vl]at sl63 st2 hl63;have vo63:v63.one=true:=by rw[Vl];rfl
   rw[←Zi]at hl63;refine rN ?_ (V F2<|V t0<|V t1<|V @vF<|V sl63<|V hl63<|vo63);refine cn (fun m ds tm h'=>∃i w,JnI h3 h.nx v63 ts m ds tm h' i w) ts.tail.length rfl ⟨0,w3,rfl,rfl,aw _,by exact sT,by exact sT,by exact sT,by exact sT,by exact sT,by rw[ht1];simpa using k3,⟨ao _,fun _ _ _=>rfl,rfl⟩⟩ (fun m ds bZ h' hI=>?_);clear t0 t1 t5 t39 t40 t41;obtain⟨i,w,rfl,rfl,ii,t1,t8,t63,t64,t65,bu,bf⟩:=hI;have xn:=bf.nx;by_cases hi:i<ts.tail.length
   ·have di:decide (i<ts.tail.length)=true:=decide_eq_true hi
    have uv:(i<ts.length-1)=True:=by simp;omega
    obtain⟨s,hs⟩:∃s,ts.tail[i]? =some s:=⟨_,an hi⟩;have hs2:ts[i+1]? =some s:=by rw[aam]at hs;exact hs
    have st4:br h' (.slice c (0+1*1) (ts.length-1) (.iK (0+1))) (ts.length-1) (strs ts.tail):=st.move xn (fun d e=>by cases e;exact bf.old c (by omega) (by omega));rw[←Zi]at st4;have q1:=nQ st4 hs;have w1:bV .i64 (ak i+ak 1)=ak (i+1):=cq (by omega);have hfs:=lV hz (i+1+1);have hsn:=xL hs2;rw[hsn,aq]at hfs;rw[Vl]at t63;refine rN ?_ (V F2<|V t1<|V t8<|V t63<|V t64<|V t65<|V di<|V uv<|q1);refine((Gn h' (h.nx+1) h.nx _ _ _ bu (by omega) [] (by rw[List.length_nil];omega)).call P).mono P ?_;rintro _ h5 ⟨rfl,f5,w5,k5⟩;rw[aX]at k5;have x5:=f5.nx;refine rN ?_ (V F2<|V t1<|V t8<|V t63<|V t64<|t65);refine((Gn h5 (h.nx+1) h.nx _ _ _ k5 (by omega) s (by omega)).call P).mono P ?_;rintro _ h6 ⟨rfl,f6,w6,k6⟩;rw[←hsn]at k6;refine rN ?_ (V F2<|V t1<|V t8<|V t63<|V t64<|V t65<|w1);exact⟨ts.tail.length-(i+1),by omega,i+1,w6,rfl,rfl,by omega,by exact sT,by exact sT,by rw[Vl];exact sT,by exact sT,by exact sT,k6,(bf.t f5).t f6⟩
   ·have di:decide (i<ts.tail.length)=false:=decide_eq_false hi
    obtain rfl:i=ts.tail.length:=by omega
    have ef:(ts.take (ts.tail.length+1)).flatten=ts.flatten:=by rw[Zi,show ts.length-1+1=ts.length by omega,au]
    rw[ef]at bu;refine rN ?_ (V F2<|V t1<|V t8<|V t63<|V t64<|V t65<|di);refine((Nf h' (h.nx+1) h.nx _ _ _ bu (by omega) (.inr (List.length_pos_iff.1 LF))).call P).mono P ?_;rintro _ h7 ⟨rfl,x7,g7,gV⟩;refine rN ?_ (F2);refine⟨⟨by omega,fun d hd _=>?_⟩,by rw[g7,bf.g,f3.g,f2.g,ob.2]⟩;rw[gV d (fun e=>by have:=(bu.gw.base d e).1;omega),bf.old d (by omega) (by omega),f3.old d (by omega) (by omega),f2.old d (by omega) (by omega),ob.1.2 d hd (by simp)]
end
end Go.Proofs.YtnedigoajoflaaaGreat.M
namespace Go.Proofs
open Go.Shelf
def Tryz.Ct:Go.Shelf.Ren:=⟨fun|7=>40|10=>79|n=>n,fun|23=>84|26=>9|3=>92|28=>100|0=>0|27=>99|33=>141|4=>4|n=>n,fun|n=>n⟩
theorem Tryz.keys40:Go.Proofs.SlLaysZ.n7 Tryz.prog Tryz.Ct:={
 mixed:=by kernel_rfl
 f7:=⟨Tryz.f40.name,by decide,Tryz.func40.trans (congrArg some (by kernel_rfl))⟩
 f10:=⟨Tryz.f79.name,by decide,Tryz.func79.trans (congrArg some (by kernel_rfl))⟩
 t0:=Tryz.underlying0
 a0:=Tryz.isAgg0
 z0:=Tryz.sizeOf0
 v0:=Tryz.zeroValue0
 t4:=Tryz.underlying4
 a4:=Tryz.isAgg4
 z4:=Tryz.sizeOf4
 v4:=Tryz.zeroValue4
 t23:=Tryz.underlying84
 a23:=Tryz.isAgg84
 z23:=Tryz.sizeOf84
 v23:=Tryz.zeroValue84
 t26:=Tryz.underlying9
 a26:=Tryz.isAgg9
 z26:=Tryz.sizeOf9
 v26:=Tryz.zeroValue9
 t27:=Tryz.underlying99
 a27:=Tryz.isAgg99
 z27:=Tryz.sizeOf99
 v27:=Tryz.zeroValue99
 t28:=Tryz.underlying100
 a28:=Tryz.isAgg100
 z28:=Tryz.sizeOf100
 v28:=Tryz.zeroValue100
 t33:=Tryz.underlying141
 a33:=Tryz.isAgg141
 z33:=Tryz.sizeOf141
 v33:=Tryz.zeroValue141}
end Go.Proofs
namespace Go.Proofs.YtnedigoajoflaaaGreat.M
open Go.RowKit Go.Maps Go.Sort Go.Shelf Go.Proofs Go.AX
theorem OL:AX.AM Tryz.prog 39 79 9:=by
 intro Bm b nn D0 R w hBm yl P1 wN qQ;exact(callsIn_wide (n:=5)).1 (AnyZ.sorted_in Tryz.IE Fence.wide 5 trivial trivial trivial trivial rfl (by omega) (Mu _) (enters_of Tryz.func78 (by kernel_rfl) rfl) 79 #[.pointer (some ⟨Bm,0,none⟩)] trivial (enters_of Tryz.func79 (by kernel_rfl) rfl) _ _ wN qQ _ (AnyZ.keys_gives (ρ:=Tryz.Ct) {Tryz.keys40 with} Fence.wide _ trivial rfl (by omega) Bm b nn D0 _ hBm yl P1))
noncomputable def SB:lI:=pw 39 79
theorem yS:eN Tryz.prog SB:=tn (by kernel_rfl) OL
end Go.Proofs.YtnedigoajoflaaaGreat.M
namespace Go.Proofs.YtnedigoajoflaaaGreat.M
open Go Go.AX
noncomputable section
set_option maxRecDepth 100000
abbrev TM:=List (List Nat×AV)
theorem Cu{clock:Nat}:∀{es:List (AV×AV×Nat)}{X:TM},es.map xg=X.map (xh encS)→(X.map (·.1)).Nodup→(es.map (·.2.2)).Nodup→(∀e,e∈es→e.2.2<clock)→(∀p,p∈X→p.1.length≤1000000)→keysOf clock es=some (X.map (·.1),es.map (·.2.2))
 |[],[],_,_,_,_,_=>rfl
 |[],p::X,h,_,_,_,_=>by simp at h
 |e::es,[],h,_,_,_,_=>by simp at h
 |e::es,p::X,h,nd,ns,lt,hz=>by
  rw[az,az,List.cons.injEq]at h;have e1:e.1= .str p.1:=congrArg Prod.fst h.1;rw[az,aE]at nd ns;have ih:=Cu (clock:=clock) (es:=es) (X:=X) h.2 nd.2 ns.2 (fun x hx=>lt x (by simp[hx])) (fun q hq=>hz q (by simp[hq]));obtain⟨a,b,c⟩:=e;simp only at e1;subst e1;unfold keysOf;have h1:tS p.1 (X.map (·.1))=true:=pz.2 nd.1;have h2:iM (es.map (·.2.2)) c=true:=B5.2 ns.1;have h3:Nat.blt c clock=true:=by rw[Nat.blt_eq];exact lt _ (List.mem_cons_self ..)
  have h4:small p.1.length=true:=aaf (by have:=hz p (by simp);omega);simp only[ih,h1,h2,h3,h4,Bool.and_self,az]
theorem SC{h0:H}{r:Nat}{X:TM}(m:fu encS h0 r X)(nd:(X.map (·.1)).Nodup)(hz:X.length≤1000000)(hk:∀p,p∈X→p.1.length≤1000000){Q:AV→H→Prop}
  (hq:∀v h',bK 1 (h0.nx+1) h' v X.length (strs (fJ (X.map (·.1))))→Og h0 h' []→Q v h'):kL P (.enter 39 [.func 79 [] [.ptr h0.nx 0]] (h0.bq 84 [.map r])) Q:=by
 obtain⟨es,clock,g1,g2,g3,g4⟩:=m.has;have Wg:=m.lt;have hl:es.length=X.length:=by have:=congrArg List.length g2;simpa using this
 have hko:=Cu g2 nd g3 g4 hk;have hgb:(h0.bq 84 [.map r]).t.get h0.nx=some (.cells (kQ [AV.map r]) (T.ofRow [AV.map r]) ⟨0,85⟩ false):=by
  unfold H.bq H.alloc;rw[T.bS,if_pos rfl]
 have hgr:(h0.bq 84 [.map r]).t.get r=some (.map es clock):=by
  unfold H.bq H.alloc;rw[T.bS,if_neg (by omega)];exact g1
 have s_:small es.length=true:=aaf (by omega);have hT:(T.ofRow [AV.map r]).get 0=some (.map r):=by rw[T.eG];rfl
 have tI:jq (h0.bq 84 [.map r]) h0.nx=iv (h0.bq 84 [.map r]) es clock:=by
  unfold jq;simp only[hgb,hT,hgr]
 have o1:Og h0 (h0.bq 84 [.map r]) []:=(Og.refl _ _).new _ _;cases X with
 | nil=>
  have Jz:iv (h0.bq 84 [.map r]) es clock=some (.bh,h0.bq 84 [.map r]):=by
   unfold iv;simp only[s_,hko,List.map_nil]
  refine kL.uY P yS (v:=.bh) (h':=h0.bq 84 [.map r]) ?_ (hq _ _ .none o1);show jq (h0.bq 84 [.map r]) h0.nx=_;rw[tI,Jz]
 | cons p X=>
  obtain⟨h1,cC⟩:∃h1,h1=h0.bq 84 [.map r]:=⟨_,rfl⟩;have x1:h1.nx=h0.nx+1:=by rw[cC];rfl
  have Jz:iv h1 es clock=some (.slice h1.nx 0 (X.length+1) (.iK 0),h1.grown none ⟨1,0⟩ ((fJ ((p::X).map (·.1))).map .str)):=by
   unfold iv;simp only[s_,hko,az,aaa,al]
  rw[←cC]at tI o1 ⊢;refine kL.uY P yS (v:=.slice h1.nx 0 (X.length+1) (.iK 0)) (h':=h1.grown none ⟨1,0⟩ ((fJ ((p::X).map (·.1))).map .str)) ?_ (hq _ _ ?_ (o1.t ⟨t_,rfl⟩))
  ·show jq h1 h0.nx=_
   rw[tI,Jz]
  ·have zo:((fJ ((p::X).map (·.1))).map AV.str).length=(X.length+1)*1:=by
    rw[al,(fe _).length_eq,al,aaa,aag]
   refine .cell h1.nx (X.length+1) _ (T.ofRow ((fJ ((p::X).map (·.1))).map .str)) 0 (by omega) (by rw[sE];omega) zo ?_ (T.eG _);rw[←zo];exact iS _ _ _ _
theorem keys2C(h0:H)(r:Nat):bW P (.enter 40 [.map r] h0) (fun v h'=>v= .func 79 [] [.ptr h0.nx 0]∧h'=h0.bq 84 [.map r]):=by
 refine bn (fn:=Tryz.f40) (c:=bD Tryz.f40) Tryz.func40 rfl ?_;show bB P 40 4 none _ _ _ _ _;refine bp ?_;repeat' (first|((with_reducible refine gh ?_);(conv =>whnf);(with_reducible refine⟨?_⟩))|((with_reducible refine bE rfl ?_);(conv =>arg 2;whnf))|((with_reducible first|refine iB ?_ ?_|refine g_ ?_ ?_|refine hP ?_ ?_)<;>intro hb<;>(try simp only[hb]))|(simp only[B,F,F2,ab,ae,af,ag,ah,ai, ↓reduceIte,eq_self]))
def tx(k:List Nat)(S:List Rec):List (List Nat):=(S.filter fun x=>decide (x.kv.key=k)).map gq
theorem OM(S:List Rec)(x:Rec):tx x.kv.key (S++[x])=tx x.kv.key S++[gq x]:=by
 unfold tx;rw[a_,aN];simp
theorem ON{k:List Nat}(S:List Rec){x:Rec}(h:¬x.kv.key=k):tx k (S++[x])=tx k S:=by
 unfold tx;rw[a_];simp[h]
theorem tx_nil{k:List Nat}{S:List Rec}(h:∀x,x∈S→¬x.kv.key=k):tx k S=[]:=by
 unfold tx;rw[List.filter_eq_nil_iff.2 (fun x hx=>by simp[h x hx])];rfl
theorem Cv{k a:List Nat}{v:AV}:∀{M:TM},a∈(fH k v M).map (·.1)↔a=k∨a∈M.map (·.1)
 |[]=>by simp[fH]
 | (b,x)::M=>by
  unfold fH;by_cases q:k=b
  ·rw[if_pos q];simp[q]
  ·rw[if_neg q,az,aF,Cv (M:=M),az,aF]
   constructor
   ·rintro(h|h|h)
    ·exact .inr (.inl h)
    ·exact .inl h
    ·exact .inr (.inr h)
   ·rintro(h|h|h)
    ·exact .inr (.inl h)
    ·exact .inl h
    ·exact .inr (.inr h)
theorem SD{k:List Nat}{v:AV}:∀{M:TM},(M.map (·.1)).Nodup→((fH k v M).map (·.1)).Nodup
 |[],_=>by simp[fH]
 | (b,x)::M,h=>by
  rw[az,aE]at h;unfold fH;by_cases q:k=b
  ·rw[if_pos q,az,aE];exact h
  ·rw[if_neg q,az,aE]
   exact⟨fun hm=>by rcases Cv.1 hm with e|e;exact q e.symm;exact h.1 e,SD h.2⟩
theorem wx{k a:List Nat}{v u:AV}:∀{M:TM},(M.map (·.1)).Nodup→(a,u)∈fH k v M→(a=k∧u=v)∨(a≠k∧(a,u)∈M)
 |[],_,h=>by simp[fH]at h;exact .inl h
 | (b,x)::M,nd,h=>by
  rw[az,aE]at nd;unfold fH at h;by_cases q:k=b
  ·rw[if_pos q]at h
   rcases List.mem_cons.1 h with e|e
   ·cases e;exact .inl ⟨q.symm,rfl⟩
   ·exact .inr ⟨fun e2=>nd.1 (by rw[←q,←e2];exact List.mem_map.2 ⟨_,e,rfl⟩),by simp[e]⟩
  ·rw[if_neg q]at h
   rcases List.mem_cons.1 h with e|e
   ·cases e;exact .inr ⟨fun e=>q e.symm,by simp⟩
   ·rcases wx nd.2 e with h|h
    ·exact .inl h
    ·exact .inr ⟨h.1,by simp[h.2]⟩
theorem get_mem{k:List Nat}{w:AV}:∀{M:TM},gU k M=some w→(k,w)∈M
 |[],h=>by cases h
 | (b,x)::M,h=>by
  unfold gU at h;rw[List.find?_cons]at h;by_cases q:k=b
  ·simp only[q,decide_true]at h;cases h;rw[q];simp
  ·simp only[decide_eq_false q]at h
   have:=get_mem (M:=M) h;simp[this]
theorem get_none{k:List Nat}:∀{M:TM},gU k M=none→k∉M.map (·.1)
 |[],_=>by simp
 | (b,x)::M,h=>by
  unfold gU at h;rw[List.find?_cons]at h;by_cases q:k=b
  ·simp only[q,decide_true]at h;cases h
  ·simp only[decide_eq_false q]at h
   have:=get_none (M:=M) h;rw[az,aF];rintro(e|e)
   ·exact q e
   ·exact this e
structure Ng(h:H)(lo r:Nat)(M:TM)(S:List Rec):Prop where
 mp:fu encS h r M
 nd:(M.map (·.1)).Nodup
 ky:∀k,k∈M.map (·.1)↔∃x,x∈S∧x.kv.key=k
 gr:∀k w,(k,w)∈M→bK 1 lo h w (tx k S).length (strs (tx k S))
 dj:∀k w k2 w2,(k,w)∈M→(k2,w2)∈M→k≠k2→∀c,bA w=some c→bA w2≠some c
 rl:r<lo
theorem Ng.bU{h h':H}{lo r:Nat}{M:TM}{S:List Rec}(b:Ng h lo r M S)(o:Og h h' []):Ng h' lo r M S:=
 ⟨b.mp.bU o.1 (by simp),b.nd,b.ky,fun k w hm=>(b.gr k w hm).bG o.1.1 (fun c e=>o.1.2 c ((b.gr k w hm).base e).2 (by simp)),b.dj,b.rl⟩
theorem Ng.get{h h':H}{lo r:Nat}{M:TM}{S:List Rec}(b:Ng h lo r M S)(x:h.nx≤h'.nx)(e:∀c,c=r∨lo≤c→c<h.nx→h'.t.get c=h.t.get c):Ng h' lo r M S:=
 ⟨b.mp.get x (e r (.inl rfl) b.mp.lt),b.nd,b.ky,fun k w hm=>(b.gr k w hm).bG x (fun c ec=>e c (.inr ((b.gr k w hm).base ec).1) ((b.gr k w hm).base ec).2),b.dj,b.rl⟩
theorem Ng.row{h:H}{lo r:Nat}{M:TM}{S:List Rec}(b:Ng h lo r M S)(k:List Nat):bK 1 lo h ((gU k M).getD .bh) (tx k S).length (strs (tx k S)):=by
 cases q:gU k M with
 |none=>
  have:=get_none q;rw[b.ky]at this;rw[tx_nil (fun x hx e=>this ⟨x,hx,e⟩)];exact .none
 |some w=>exact b.gr k w (get_mem q)
theorem Ng.add{h h3 h4:H}{lo r:Nat}{M:TM}{S:List Rec}(b:Ng h lo r M S)(x:Rec){v':AV}(g:bK 1 lo h3 v' ((tx x.kv.key S).length+1) (strs (tx x.kv.key S)++[.str (gq x)]))(x3:h.nx≤h3.nx)(old:∀d,d<h.nx→bA ((gU x.kv.key M).getD .bh)≠some d→h3.t.get d=h.t.get d)(bl:∀c,bA v'=some c→h.nx≤c)
  (m4:fu encS h4 r (fH x.kv.key v' M))(x4:h4.nx=h3.nx)(o4:iw h3 h4 [r]):Ng h4 lo r (fH x.kv.key v' M) (S++[x]):=by
 have rl:=b.rl;have ge:∀d,d<h3.nx→d≠r→h4.t.get d=h3.t.get d:=fun d hd hn=>o4.2 d hd (by simp[hn]);refine⟨m4,SD b.nd,fun k=>?_,fun k w hm=>?_,fun k w k2 w2 hm hm2 dH c ec=>?_,rl⟩
 ·rw[Cv,b.ky]
  constructor
  ·rintro(rfl|⟨y,hy,e⟩)
   ·exact⟨x,by simp,rfl⟩
   ·exact⟨y,by simp[hy],e⟩
  ·rintro⟨y,hy,e⟩
   rcases List.mem_append.1 hy with q|q
   ·exact .inr ⟨y,q,e⟩
   ·rw[aan]at q;subst q;exact .inl e.symm
 ·rcases wx b.nd hm with⟨rfl,rfl⟩|⟨dH,hm⟩
  ·rw[OM,aq]
   have e:strs (tx x.kv.key S++[gq x])=strs (tx x.kv.key S)++[.str (gq x)]:=by unfold strs;rw[aN];rfl
   rw[e];exact g.bG (by omega) (fun c ec=>ge c (g.base ec).2 (by have:=(g.base ec).1;omega))
  ·rw[ON S (fun e=>dH e.symm)]
   have gk:=b.gr k w hm;refine gk.bG (by omega) (fun c ec=>?_);obtain⟨l1,l2⟩:=gk.base ec;rw[ge c (by omega) (by omega),old c l2 (fun e=>?_)];cases q:gU x.kv.key M with
   |none=>rw[q]at e;cases e
   |some w0=>rw[q]at e;exact b.dj _ _ _ _ (get_mem q) hm (fun e=>dH e.symm) c e ec
 ·rcases wx b.nd hm with⟨rfl,rfl⟩|⟨hk,hm'⟩
  ·rcases wx b.nd hm2 with⟨rfl,rfl⟩|⟨Jv,hm2'⟩
   ·exact absurd rfl dH
   ·intro e2
    have:=(b.gr _ _ hm2').base e2;have:=bl c ec;omega
  ·rcases wx b.nd hm2 with⟨rfl,rfl⟩|⟨Jv,hm2'⟩
   ·intro e2
    have:=(b.gr _ _ hm').base ec;have:=bl c e2;omega
   ·exact b.dj _ _ _ _ hm' hm2' dH c ec
theorem u84a:P.underlying 84=some (.map 9 92):=by kernel_rfl
theorem z92a:dv P 92=some .bh:=by kernel_rfl
theorem Nh{h:H}{r:Nat}{M:TM}(m:fu encS h r M)(k:List Nat):lA P 84 (.map r) (.str k) false h=some ((gU k M).getD .bh):=vD (P:=P) u84a Wy z92a m k false
theorem SE(o:Option Rec):EV o=((o.getD Db).main,(o.getD Db).sub):=by cases o<;>rfl
structure Gw(hk:H)(ro:Nat)(R:fC)(S:List Rec)(h:H)(M:TM):Prop where
 nx:hk.nx+2≤h.nx
 old:∀b,b<hk.nx→b≠ro→h.t.get b=hk.t.get b
 lp:h.t.get (hk.nx+1)=some (.loop R)
 df:h.t.get hk.nx=some (.deferred (some []))
 bk:Ng h (hk.nx+2) ro M S
 g:h.g=hk.g
section
variable{hk h h':H}{ro:Nat}{R R':fC}{S:List Rec}{M:TM}
theorem Gw.bU(j:Gw hk ro R S h M)(o:Og h h' []):Gw hk ro R S h' M:=
 ⟨aQ j.nx o.1.1,fun b hb hn=>(o.1.2 b (by have:=j.nx;omega) (by simp)).trans (j.old b hb hn),(o.1.2 _ (by have:=j.nx;omega) (by simp)).trans j.lp,(o.1.2 _ (by have:=j.nx;omega) (by simp)).trans j.df,j.bk.bU o,o.2.trans j.g⟩
theorem Gw.state(j:Gw hk ro R S h M)(pW:ro<hk.nx):Gw hk ro R' S (h.obj (hk.nx+1) (.loop R')) M:=
 ⟨j.nx,fun b hb hn=>by rw[cF (by omega)];exact j.old b hb hn,kg _ _,by rw[cF (by omega)];exact j.df,j.bk.get (ao _) (fun c e _=>cF (by omega) _),j.g⟩
end
noncomputable abbrev qg(hk:H)(tm:T AV):fC:=yF 16 69 tm [25] (bL (bD Tryz.f16) [0,0,1,0,1,1,1,1]) (bL (bD Tryz.f16) [1,0,1,0,1,1,1,1]) hk.nx .ready
structure HaB(hk:H)(ro rk b5 b7 b8:Nat)(V:View)(c:Nat):Prop where
 lr:ro<hk.nx
 lk:rk<hk.nx
 nk:rk≠ro
 l5:b5<hk.nx∧b5≠ro
 l7:b7<hk.nx∧b7≠ro
 l8:b8<hk.nx∧b8≠ro
 c5:cellAt hk b5 0=some (.int .u64 (.ofNat c))
 c7:cellAt hk b7 0=some (.map rk)
 c8:cellAt hk b8 0=some (.map ro)
 mp:fu encS hk rk (mR V)
theorem Gw.mk2{hk h:H}{ro rk b5 b7 b8:Nat}{R:fC}{S:List Rec}{M:TM}{V:View}{c:Nat}(j:Gw hk ro R S h M)(k:HaB hk ro rk b5 b7 b8 V c):fu encS h rk (mR V):=k.mp.get (by have:=j.nx;omega) (j.old rk k.lk k.nk)
theorem Ni(l:Nat){hk h:H}{ro rk b5 b7 b8:Nat}{R:fC}{S:List Rec}{M:TM}{V:View}{c:Nat}(k:HaB hk ro rk b5 b7 b8 V c)(j:Gw hk ro R S h M)(hz:S.length≤1000000)(x:Rec)(hx:(uq x).ok∧x.kv.key.length≤60∧x.kv.val.length≤60)(b9:Nat)(Y:bj h b9 0 x.cs)(l9:b9<h.nx)
  (tm:T AV)(t8:tm.get 8=some (.ptr b8 0))(t9:tm.get 9=some (.ptr b9 0))(t10:tm.get 10=some (.str x.kv.key))(K:KQ)
  (hK:∀tm' h' M',Gw hk ro R (S++[x]) h' M'→K .norm [] tm' h'):bB P 16 69 (some l) (bL (bD Tryz.f16) [0,1,1,0,1,0,1,0,1,1,1,1]) [] tm h K:=by
 have c8:cellAt h b8 0=some (.map ro):=by rw[bo (j.old b8 k.l8.1 k.l8.2)];exact k.c8
 have lk:=Nh j.bk.mp x.kv.key;obtain⟨y0,y1,y2,y3,y4,y5,y6,y7⟩:=Y.u8;have gw:=j.bk.row x.kv.key;obtain⟨w,hw⟩:∃w,w=(gU x.kv.key M).getD .bh:=⟨_,rfl⟩;rw[←hw]at lk gw;have WW:=gw.one;have cc:=ZV h (uq x) hx.1 hx.2.1 hx.2.2;rw[Nc]at cc;unfold Rec.cs at cc;repeat' (first|((with_reducible refine gh ?_);(conv =>whnf);(with_reducible refine⟨?_⟩))|((with_reducible refine fh ?_ rfl rfl ?_ ?_);exact rfl;kernel_rfl;(conv =>arg 5;whnf);(conv =>arg 3;whnf))|((with_reducible refine bE rfl ?_);(conv =>arg 2;whnf))|((with_reducible first|refine iB ?_ ?_|refine g_ ?_ ?_|refine hP ?_ ?_|refine pL ?_ ?_|refine pM ?_ ?_)<;>intro hb<;>(try simp only[hb]))|((with_reducible show cU _ _ _ _ _ _ _ _ _);first|((with_reducible refine fj ?_ ?_);exact rfl)|((with_reducible apply fm);exact rfl;exact rfl)|((with_reducible refine fo ?_ ?_ ?_);exact rfl;kernel_rfl)|((with_reducible apply fp);exact rfl;exact rfl)|((with_reducible refine fq ?_ ?_ ?_ ?_ ?_);exact rfl;kernel_rfl;exact rfl)|((with_reducible apply ft);exact rfl;kernel_rfl;exact rfl)|((with_reducible refine fi ?_ ?_)))|((with_reducible show il _ _ _ _ _ _);first|(exact cK)|(refine eB ?_ ?_ ?_;exact rfl)|(apply eC;exact rfl;exact rfl)|(refine eD ?_ ?_ ?_ ?_;exact rfl;kernel_rfl)|(apply eF;exact rfl)|(apply eE;exact rfl;exact rfl))|((with_reducible refine bX ?_);kernel_rfl)|(simp only[B,xB,F,F2,ab,ae,af,ag,ah,ai, ↓reduceIte,eq_self,t8,t9,t10,c8,@fb,lk,WW,y0,y1,y2,y3,y4,y5,y6,y7]))
 refine(cc.call P).mono P ?_;rintro _ h1 ⟨rfl,o1⟩;rw[show I_ (uq x)=gq x from rfl];have j1:=j.bU o1;have x1:=o1.1.1;have d8:cellAt h1 b8 0=some (.map ro):=by rw[bo (j1.old b8 k.l8.1 k.l8.2)];exact k.c8
 have lk1:=Nh j1.bk.mp x.kv.key;rw[←hw]at lk1;have gw1:=j1.bk.row x.kv.key;rw[←hw]at gw1;obtain⟨z0,z1,z2,z3,z4,z5,z6,z7⟩:=(gC Y o1 l9 (by simp)).u8;obtain⟨h2,cJ⟩:∃h2,h2=h1.bq 9 [.str (gq x)]:=⟨_,rfl⟩;have o2:Og h1 h2 []:=by rw[cJ];exact(Og.refl _ _).new _ _
 have x2:h2.nx=h1.nx+1:=by rw[cJ];rfl
 have eZ:h2.row h1.nx 0 1=some [.str (gq x)]:=gK (o:=0) (cs:=[.str (gq x)]) (fun j hj=>by rw[cJ,bJ,aS,if_pos rfl]) (by simp);have j2:=j1.bU o2;have d82:cellAt h2 b8 0=some (.map ro):=by rw[bo (j2.old b8 k.l8.1 k.l8.2)];exact k.c8
 have lk2:=Nh j2.bk.mp x.kv.key;rw[←hw]at lk2;have gw2:=j2.bk.row x.kv.key;rw[←hw]at gw2;have hnx:=j2.nx;have Zi:(tx x.kv.key S).length≤S.length:=by unfold tx;rw[al];exact aG _ _
 repeat' (first|((with_reducible refine gh ?_);(conv =>whnf);(with_reducible refine⟨?_⟩))|((with_reducible refine fh ?_ rfl rfl ?_ ?_);exact rfl;kernel_rfl;(conv =>arg 5;whnf);(conv =>arg 3;whnf))|((with_reducible refine bE rfl ?_);(conv =>arg 2;whnf))|((with_reducible first|refine iB ?_ ?_|refine g_ ?_ ?_|refine hP ?_ ?_|refine pL ?_ ?_|refine pM ?_ ?_)<;>intro hb<;>(try simp only[hb]))|((with_reducible show cU _ _ _ _ _ _ _ _ _);first|((with_reducible refine fj ?_ ?_);exact rfl)|((with_reducible apply fm);exact rfl;exact rfl)|((with_reducible refine fo ?_ ?_ ?_);exact rfl;kernel_rfl)|((with_reducible apply fp);exact rfl;exact rfl)|((with_reducible refine fq ?_ ?_ ?_ ?_ ?_);exact rfl;kernel_rfl;exact rfl)|((with_reducible apply ft);exact rfl;kernel_rfl;exact rfl)|((with_reducible refine fi ?_ ?_)))|((with_reducible show il _ _ _ _ _ _);first|(exact cK)|(refine eB ?_ ?_ ?_;exact rfl)|(apply eC;exact rfl;exact rfl)|(refine eD ?_ ?_ ?_ ?_;exact rfl;kernel_rfl)|(apply eF;exact rfl)|(apply eE;exact rfl;exact rfl))|((with_reducible refine bX ?_);kernel_rfl)|(simp only[B,xB,F,F2,ab,ae,af,ag,ah,ai, ↓reduceIte,eq_self,t8,t9,t10,c8,d8,d82,@fb,lk,lk1,lk2,WW,y0,y1,y2,y3,y4,y5,y6,y7,z0,z1,z2,z3,z4,z5,z6,z7,←cJ,eZ]))
 refine dz (m:=1) (new:=[.str (gq x)]) gw2 (by omega) (by omega) (by omega) rfl (by omega) (fun v3 h3 g3 x3 KM bl3 gg3=>?_);have S3:=g3.one;have rl:=j2.bk.rl;have pW:=k.lr;have e3:∀b,b<hk.nx+2→h3.t.get b=h2.t.get b:=fun b hb=>KM b (by omega) (fun e=>by have:=(gw2.base e).1;omega);have m3:fu encS h3 ro M:=j2.bk.mp.get (by omega) (e3 ro (by omega));obtain⟨h4,hu,m4,x4,o4,g4⟩:=BW (P:=P) u84a Wy m3 x.kv.key v3;have d83:cellAt h3 b8 0=some (.map ro):=by rw[bo (e3 b8 (by have:=k.l8.1;omega))];exact d82
 have b4:=j2.bk.add x g3 (by omega) (fun d hd dH=>KM d hd (by rw[hw];exact dH)) (fun c ec=>by rw[bl3]at ec;cases ec;exact ao _) m4 x4 o4;have Ih:lB P 84 (.map ro) (.str x.kv.key) v3 h3=some h4:=hu;repeat' (first|((with_reducible refine gh ?_);(conv =>whnf);(with_reducible refine⟨?_⟩))|((with_reducible refine fh ?_ rfl rfl ?_ ?_);exact rfl;kernel_rfl;(conv =>arg 5;whnf);(conv =>arg 3;whnf))|((with_reducible refine bE rfl ?_);(conv =>arg 2;whnf))|((with_reducible first|refine iB ?_ ?_|refine g_ ?_ ?_|refine hP ?_ ?_|refine pL ?_ ?_|refine pM ?_ ?_)<;>intro hb<;>(try simp only[hb]))|((with_reducible show cU _ _ _ _ _ _ _ _ _);first|((with_reducible refine fj ?_ ?_);exact rfl)|((with_reducible apply fm);exact rfl;exact rfl)|((with_reducible refine fo ?_ ?_ ?_);exact rfl;kernel_rfl)|((with_reducible apply fp);exact rfl;exact rfl)|((with_reducible refine fq ?_ ?_ ?_ ?_ ?_);exact rfl;kernel_rfl;exact rfl)|((with_reducible apply ft);exact rfl;kernel_rfl;exact rfl)|((with_reducible refine fi ?_ ?_)))|((with_reducible show il _ _ _ _ _ _);first|(exact cK)|(refine eB ?_ ?_ ?_;exact rfl)|(apply eC;exact rfl;exact rfl)|(refine eD ?_ ?_ ?_ ?_;exact rfl;kernel_rfl)|(apply eF;exact rfl)|(apply eE;exact rfl;exact rfl))|((with_reducible refine bX ?_);kernel_rfl)|(simp only[B,xB,F,F2,ab,ae,af,ag,ah,ai, ↓reduceIte,eq_self,t8,t9,t10,d83,S3,@pN,Ih,FV]))
 have e4:∀b,b<hk.nx+2→b≠ro→h4.t.get b=h2.t.get b:=fun b hb hn=>by rw[o4.2 b (by omega) (by simp[hn]),e3 b hb]
 refine hK _ h4 _ ⟨by omega,fun b hb hn=>by rw[e4 b (by omega) hn];exact j2.old b hb hn,by rw[e4 _ (by omega) (by omega)];exact j2.lp,by rw[e4 _ (by omega) (by omega)];exact j2.df,b4,by rw[g4,gg3];exact j2.g⟩
end
end Go.Proofs.YtnedigoajoflaaaGreat.M
namespace Go.Proofs.YtnedigoajoflaaaGreat.M
open Go Go.AX
noncomputable section
set_option maxRecDepth 100000
theorem zT:dv P 143=some (.agg (aah 256 (.int .u32 (.ofNat 0)))):=by kernel_rfl
def F3:=aI (aI (aI (aI @cf82 @ok143) (aI @ia92 @ok9)) (aI (aI @ld9 @ln9) (aI @YT (aI @ok31 @ld31)))) (aI (aI (aI @z31 @st31) (aI @Wl @cf109)) (aI (aI @YZ @ld5) (aI @QZ (aI @st5 @zT))))
theorem OO{p q r:Prop}(hq:q)(fs:r)(f:r→q→p:=by intro fs hq;(repeat' (first|((with_reducible refine gh ?_);(conv =>whnf);(with_reducible refine⟨?_⟩))|((with_reducible refine bE rfl ?_);(conv =>arg 2;whnf))|((with_reducible first|refine iB ?_ ?_|refine g_ ?_ ?_|refine hP ?_ ?_)<;>intro hb<;>(try simp only[hb]))|(simp only[B,F3,ab,ae,af,ag,ah,ai, ↓reduceIte,eq_self,fs])));exact hq):p:=f fs hq
theorem rN30{p q:Prop}(hq:q)(f:q→p:=by intro hq;(repeat' (first|((with_reducible refine gh ?_);(conv =>whnf);(with_reducible refine⟨?_⟩))|((with_reducible refine bE rfl ?_);(conv =>arg 2;whnf))|((with_reducible first|refine iB ?_ ?_|refine g_ ?_ ?_|refine hP ?_ ?_)<;>intro hb<;>(try simp only[hb]))|(simp only[B,F3,ab,ae,af,ag,ah,ai, ↓reduceIte,eq_self])));exact hq):p:=f hq
theorem rN3s{p q r s:Prop}(hq:q)(pY:s)(fs:r)(f:s→r→q→p:=by intro pY fs hq;(repeat' (first|(with_reducible refine pY ?_)|((with_reducible refine gh ?_);(conv =>whnf);(with_reducible refine⟨?_⟩))|((with_reducible refine bE rfl ?_);(conv =>arg 2;whnf))|((with_reducible first|refine iB ?_ ?_|refine g_ ?_ ?_|refine hP ?_ ?_)<;>intro hb<;>(try simp only[hb]))|(simp only[B,F3,ab,ae,af,ag,ah,ai, ↓reduceIte,eq_self,fs])));exact hq):p:=f pY fs hq
theorem bitsC(h0:H)(n:Nat):bW P (.enter 109 [.int .u8 (.ofNat n)] h0) (fun v h'=>v= .func 124 [] [.ptr h0.nx 0]∧h'=h0.bq 5 [.int .u8 (.ofNat n)]):=by
 refine bn (fn:=Tryz.f109) (c:=bD Tryz.f109) Tryz.func109 rfl ?_;show bB P 109 4 none _ _ _ _ _;refine bp ?_;repeat' (first|((with_reducible refine gh ?_);(conv =>whnf);(with_reducible refine⟨?_⟩))|((with_reducible refine bE rfl ?_);(conv =>arg 2;whnf))|((with_reducible first|refine iB ?_ ?_|refine g_ ?_ ?_|refine hP ?_ ?_)<;>intro hb<;>(try simp only[hb]))|(simp only[B,F3,ab,ae,af,ag,ah,ai, ↓reduceIte,eq_self]))
theorem Vm(a:Nat):low .u8 (.ofNat a)=a%256:=rfl
theorem wr8(a:Nat):bV .u8 (.ofNat a)= .ofNat (a%256):=rfl
theorem and1b(a:Nat):bV .u8 (.ofNat (Nat.land (low .u8 (.ofNat a)) (low .u8 (.ofNat 1))))= .ofNat (a%2):=by
 rw[Vm,Vm,wr8];have h3:Nat.land (a%256) (1%256)=a%256%2:=Nat.and_two_pow_sub_one_eq_mod (a%256) 1;rw[h3];congr 1;omega
theorem shr1b(u:Nat):(ak u).fdiv (ak (2^min 1 IntKind.u8.bits))=ak (u>>>1):=by
 have :(2^min 1 IntKind.u8.bits:Nat)=2:=rfl;rw[this];exact(Int.ofNat_fdiv u 2).symm
structure BiI(l b3 n:Nat)(J:Nat→H→Prop)(m:Nat)(ds:List Nat)(tm:T AV)(h:H)(k:Nat):Prop where
 ds:ds=[]
 nn:m=8-k
 kk:k≤8
 t0:tm.get 0=some (.yield l)
 t1:tm.get 1=some (.ptr b3 0)
 t3:tm.get 3=some (.int .i64 (.ofNat k))
 jj:J k h
theorem Vn(h0:H)(l b3 n:Nat)(J:Nat→H→Prop)(hJc:∀k h,J k h→cellAt h b3 0=some (.int .u8 (.ofNat (n>>>k)))∧cj h b3=true)
  (hJr:∀k h,J k h→k<8→bW P (.round l [.int .u32 (.ofNat ((n>>>k)%2))] h) fun v h'=>v= .bool true∧cellAt h' b3 0=some (.int .u8 (.ofNat (n>>>k)))∧cj h' b3=true∧J (k+1) (h'.cm b3 0 [.int .u8 (.ofNat (n>>>(k+1)))]))
  (h0J:J 0 h0):bW P (.enter 124 [.yield l,.ptr b3 0] h0) fun _ h'=>J 8 h':=by
 refine bn (fn:=Tryz.f124) (c:=bD Tryz.f124) Tryz.func124 rfl ?_;show bB P 124 14 none _ _ _ _ _;refine bp ?_;refine rN30 ?_;refine cn (fun m ds tm h=>∃k,BiI l b3 n J m ds tm h k) 8 rfl ⟨0,rfl,rfl,aw _,by exact sT,by exact sT,by exact sT,h0J⟩ (fun m ds tm h hI=>?_);obtain⟨k,rfl,rfl,kk,t0,t1,t3,jj⟩:=hI;obtain⟨c3,w3⟩:=hJc _ _ jj;by_cases hk:k<8
 ·have dk:decide (k<8)=true:=decide_eq_true hk
  have a1:=and1b (n>>>k);have c1:bV .u32 (ak ((n>>>k)%2))=ak ((n>>>k)%2):=by rw[Sw,aK (by omega)]
  have s1:=shr1b (n>>>k);have es:n>>>k>>>1=n>>>(k+1):=(Nat.shiftRight_add n k 1).symm;rw[es]at s1;have w1:bV .i64 (ak k+ak 1)=ak (k+1):=cq (by omega);refine OO ?_ (V t0<|V t1<|V t3<|V dk<|V c3<|V @Na<|V a1<|c1);refine((hJr k h jj hk).call P).mono P ?_;rintro _ h2 ⟨rfl,c4,w4,j2⟩;obtain⟨h3,cB⟩:∃h3,h3=h2.cm b3 0 [.int .u8 (.ofNat (n>>>(k+1)))]:=⟨_,rfl⟩;rw[←cB]at j2;refine OO ?_ (V t0<|V t1<|V t3<|V @aW<|V c4<|V @EU<|V s1<|V w4<|V cB.symm<|w1);exact⟨8-(k+1),by omega,k+1,rfl,rfl,by omega,by exact sT,by exact sT,by exact sT,j2⟩
 ·have dk:decide (k<8)=false:=decide_eq_false hk
  obtain rfl:k=8:=by omega
  refine OO ?_ (V t0<|V t1<|V t3<|dk);rw[DM];exact⟨_,rfl,_,rfl,jj⟩
structure Vo(hk:H)(b2 b3 n:Nat)(R:fC)(k:Nat)(h:H):Prop where
 nx:hk.nx+2≤h.nx
 old:∀b,b<hk.nx→b≠b2→b≠b3→h.t.get b=hk.t.get b
 lp:h.t.get (hk.nx+1)=some (.loop R)
 df:h.t.get hk.nx=some (.deferred (some []))
 c2:cellAt h b2 0=some (.int .u32 (.ofNat (qd 0 n k)))
 w2:cj h b2=true
 c3:cellAt h b3 0=some (.int .u8 (.ofNat (n>>>k)))
 w3:cj h b3=true
 g:h.g=hk.g
theorem Vo.state{hk:H}{b2 b3 n:Nat}{R R':fC}{k:Nat}{h:H}(j:Vo hk b2 b3 n R k h)(l2:b2<hk.nx)(l3:b3<hk.nx):Vo hk b2 b3 n R' k (h.obj (hk.nx+1) (.loop R')):=
 ⟨j.nx,fun b hb q2 q3=>by rw[cF (by omega)];exact j.old b hb q2 q3,kg _ _,by rw[cF (by omega)];exact j.df,by rw[bo (cF (by omega) _)];exact j.c2,by rw[bC (cF (by omega) _)];exact j.w2,by rw[bo (cF (by omega) _)];exact j.c3,by rw[bC (cF (by omega) _)];exact j.w3,j.g⟩
noncomputable abbrev qh(hk:H)(tm:T AV):fC:=yF 82 26 tm [11] (bL (bD Tryz.f82) [0,0,1,0,1,1,0,0,1,1,0,0,1,0,1]) (bL (bD Tryz.f82) [1,0,1,0,1,1,0,0,1,1,0,0,1,0,1]) hk.nx .ready
theorem Vp(q a:Nat)(ha:a<2):(q>>>1)^^^(2197175160*((q^^^a)%2))=(q>>>1)^^^(if q%2=a then 0 else 2197175160):=by
 have e:(q^^^a)%2=(q%2^^^a%2):=Nat.xor_mod_two_pow (n:=1);rw[e,aK ha];rcases Nat.mod_two_eq_zero_or_one q with h|h<;>rw[h]<;>(rcases(show a=0∨a=1 by omega)with rfl|rfl<;>rfl)
theorem roundT(hk:H)(b2 b3 n:Nat)(l2:b2<hk.nx)(l3:b3<hk.nx)(n23:b2≠b3)(tm:T AV)(t2:tm.get 2=some (.ptr b2 0))(k:Nat)(h:H)(hj:Vo hk b2 b3 n (qh hk tm) k h):
  bW P (.round (hk.nx+1) [.int .u32 (.ofNat ((n>>>k)%2))] h) fun v h'=>v= .bool true∧cellAt h' b3 0=some (.int .u8 (.ofNat (n>>>k)))∧cj h' b3=true∧Vo hk b2 b3 n (qh hk tm) (k+1) (h'.cm b3 0 [.int .u8 (.ofNat (n>>>(k+1)))]):=by
 refine pJ (tm:=tm.set 11 (some (.int .u32 (.ofNat ((n>>>k)%2))))) hj.lp rfl ?_;show bB P 82 26 (some (hk.nx+1)) (bL (bD Tryz.f82) [0,0,1,0,1,1,0,0,1,1,0,0,1,0,1]) _ _ _ _;refine rN30 ?_;refine vB hj.lp rfl ?_;show bB P 82 26 (some (hk.nx+1)) (bL (bD Tryz.f82) [1,0,1,0,1,1,0,0,1,1,0,0,1,0,1]) _ _ _ _;have j2:Vo hk b2 b3 n {qh hk tm with state:=.busy} k (h.obj (hk.nx+1) (.loop {qh hk tm with state:=.busy})):=hj.state l2 l3;obtain⟨h2,e2⟩:∃h2,h2=h.obj (hk.nx+1) (.loop {qh hk tm with state:=.busy}):=⟨_,rfl⟩;rw[←e2]at j2 ⊢;have c2:=j2.c2;have w2:=j2.w2;obtain⟨q,hq⟩:∃q,q=qd 0 n k:=⟨_,rfl⟩;have hq32:q<2^32:=by rw[hq];exact Cr (by omega) k
 rw[←hq]at c2;obtain⟨a,ha⟩:∃a,a=(n>>>k)%2:=⟨_,rfl⟩;have SS:a<2:=by rw[ha];omega
 rw[←ha];have x1:=E4 (a:=q) (b:=a) hq32 (by omega);have a1:=and1 (q^^^a);have s1:=shr1 q;have hod:(q^^^a)%2<2:=aO _ (by omega);have m1:bV .u32 (ak 2197175160*ak ((q^^^a)%2))=ak (2197175160*((q^^^a)%2)):=by
  have e:ak 2197175160*ak ((q^^^a)%2)=ak (2197175160*((q^^^a)%2)):=rfl;rw[e,Sw,aK];rcases(show(q^^^a)%2=0∨(q^^^a)%2=1 by omega)with e|e<;>rw[e]<;>decide
 have CH:q>>>1<2^32:=by rw[aM];omega
 have x2:=E4 (a:=q>>>1) (b:=2197175160*((q^^^a)%2)) CH (by rcases(show(q^^^a)%2=0∨(q^^^a)%2=1 by omega)with e|e<;>rw[e]<;>decide);have nxv:(q>>>1)^^^(2197175160*((q^^^a)%2))=qd 0 n (k+1):=by
  rw[Vp q a SS];show _=ly (qd 0 n k) k n;rw[←hq];unfold ly;rw[←ha]
 rw[nxv]at x2;obtain⟨h3,cB⟩:∃h3,h3=h2.cm b2 0 [.int .u32 (.ofNat (qd 0 n (k+1)))]:=⟨_,rfl⟩;have xk:=j2.nx;refine OO ?_ (V t2<|V c2<|V @Su<|V x1<|V @Na<|V a1<|V @EU<|V s1<|V m1<|V x2<|V w2<|cB.symm);have e3:∀b,b≠b2→h3.t.get b=h2.t.get b:=fun b hb=>by rw[cB];exact bT _ _ _ _ hb
 have d3:cellAt h3 b3 0=some (.int .u8 (.ofNat (n>>>k))):=by rw[bo (e3 b3 (fun e=>n23 e.symm))];exact j2.c3
 have v3:cj h3 b3=true:=by rw[bC (e3 b3 (fun e=>n23 e.symm))];exact j2.w3
 have d2:cellAt h3 b2 0=some (.int .u32 (.ofNat (qd 0 n (k+1)))):=by rw[cB,b_ w2,if_pos ⟨rfl,ao _,by simp⟩];rfl
 have lp3:h3.t.get (hk.nx+1)=some (.loop {qh hk tm with state:=.busy}):=by rw[e3 _ (by omega)];exact j2.lp
 refine ju (r:=qh hk tm) lp3 rfl rfl ⟨rfl,?_,?_,?_⟩
 ·rw[bo (cF (by omega) _)];exact d3
 ·rw[bC (cF (by omega) _)];exact v3
 obtain⟨h4,dm⟩:∃h4,h4=h3.obj (hk.nx+1) (.loop (qh hk tm)):=⟨_,rfl⟩;have e4:∀b,b≠hk.nx+1→h4.t.get b=h3.t.get b:=fun b hb=>by rw[dm];exact cF hb _
 have x4:h4.nx=h2.nx:=by rw[dm,BQ,cB,bI]
 have v4:cj h4 b3=true:=by rw[bC (e4 b3 (by omega))];exact v3
 rw[←dm];have e5:∀b,b≠b3→(h4.cm b3 0 [.int .u8 (.ofNat (n>>>(k+1)))]).t.get b=h4.t.get b:=fun b hb=>bT _ _ _ _ hb;refine⟨by rw[bI];omega,fun b hb q2 q3=>by rw[e5 b q3,e4 b (by omega),e3 b q2];exact j2.old b hb q2 q3,by rw[e5 _ (by omega),dm];exact kg _ _,by rw[e5 _ (by omega),e4 _ (by omega),e3 _ (by omega)];exact j2.df,?_,?_,?_,?_,?_⟩
 ·rw[bo (e5 b2 n23),bo (e4 b2 (by omega))];exact d2
 ·rw[bC (e5 b2 n23),bC (e4 b2 (by omega)),cB,bN];exact w2
 ·rw[b_ v4,if_pos ⟨rfl,ao _,by simp⟩];rfl
 ·rw[bN];exact v4
 ·rw[dD,dm];show h3.g=hk.g;rw[cB,dD];exact j2.g
theorem yT{fn:Func}{rl:List ResultVar}{tm:T AV}{Q:AV→H→Prop}(hl:fn.results.toList=rl):∀(ds:List Nat)(h:H),ds.Nodup→(∀d,d∈ds→h.t.get d=some (.deferred (some [])))→
  (∀h',h'.nx=h.nx→(∀c,c∉ds→h'.t.get c=h.t.get c)→h'.g=h.g→Qf P rl tm h' Q)→nc P fn Q .ret ds tm h
 |[],h,_,_,hw=>bE hl (hw h rfl (fun _ _=>rfl) rfl)
 | d::ds,h,hn,hd,hw=>by
  rw[aE]at hn;have ih:=yT (tm:=tm) (Q:=Q) hl ds (h.obj d (.deferred none)) hn.2 (fun e he=>by rw[cF (fun q=>hn.1 (by rw[←q];exact he))];exact hd e (by simp[he])) (fun h' e1 e2 e3=>hw h' e1 (fun c hc=>by
   simp only[aF,not_or]at hc;rw[e2 c hc.2,cF hc.1]) e3)
  rw[HB]at ih ⊢;obtain⟨h2,hu,r⟩:=ih;refine⟨h2,?_,r⟩;unfold AX.undef;rw[hd d (by simp)];exact hu
def Lb(i:Nat):AV:=.int .u32 (.ofNat (gZ 0 i))
def wB:List AV:=(List.range 256).map Lb
theorem oZ:wB.length=256:=by unfold wB;simp
theorem Nj{j:Nat}(hj:j<256):wB[j]? =some (Lb j):=by unfold wB;rw[aC,List.getElem?_range hj];rfl
theorem u143a:P.underlying 143=some (.array 256 31):=by kernel_rfl
theorem W4(b:Nat)(kd:IntKind)(i:Nat)(hi:i<256):eu P 143 (.ptr b 0) (.int kd (.ofNat i))=some (.ptr b i):=by
 have hb:Nat.blt i 256=true:=by rw[Nat.blt_eq];exact hi
 have c31:P.cellsOf 31=1:=by kernel_rfl
 unfold eu;simp only[u143a,hb,show eQ P 31=true from ok31,c31,aal,aS,aag]
theorem SF{h:H}{b:Nat}{cs:List AV}(hl:cs.length=256)(hc:∀j,j<256→cellAt h b j=cs[j]?):dJ P h 143 b 0=some (.agg cs):=by
 have ht:Fb P 143=true:=by kernel_rfl
 have hk:P.cellsOf 143=256:=by kernel_rfl
 have hr:=gK (h:=h) (b:=b) (o:=0) (cs:=cs) (fun j hj=>by rw[aS];exact hc j (by omega)) (by intro e;rw[e]at hl;cases hl);unfold dJ;rw[ht,hk,←hl,hr]
theorem Lc{h:H}{b o:Nat}:∀{n:Nat},(∀j,j<n→∃v,cellAt h b (o+j)=some v)→tV h b o n=true:=by
 intro n;induction n generalizing o with
 |zero=>intro _;rfl
 |succ n ih=>
  intro hc;obtain⟨v,hv⟩:=hc 0 (by omega);rw[nO];rw[Nat.add_zero]at hv;rw[hv];exact ih (fun j hj=>by obtain⟨v,hv⟩:=hc (j+1) (by omega);exact⟨v,by rw[←hv];congr 1;omega⟩)
theorem Jl{α:Type}:∀{n:Nat}{l:List α},l.length<n→oB n l=false
 |0,l,h=>by omega
 |n+1,[],_=>rfl
 |n+1,a::l,h=>by
  show oB n l=false;exact Jl (by simp at h;omega)
theorem SG{h:H}{b:Nat}{cs:List AV}(hl:cs.length=256)(h1:dN cs=true)(w:cj h b=true)(hc:∀j,j<256→∃v,cellAt h b j=some v):eT P h 143 b 0 (.agg cs)=some (h.cm b 0 cs):=by
 rw[ff (P:=P) (by kernel_rfl) hl b 0];have hh:=Lc (h:=h) (b:=b) (o:=0) (n:=256) (fun j hj=>by rw[aS];exact hc j hj);exact uZ w (by rw[hl];exact hh) h1 (Jl (by omega))
structure CrTaI(h0:H)(b0:Nat)(m:Nat)(ds:List Nat)(tm:T AV)(h:H)(i:Nat):Prop where
 nn:m=256-i
 ii:i≤256
 nd:ds.Nodup
 dd:∀d,d∈ds→h.t.get d=some (.deferred (some []))∧b0<d∧d<h.nx
 t0:tm.get 0=some (.ptr b0 0)
 t5:tm.get 5=some (.int .i64 (.ofNat i))
 cs:∀j,j<256→cellAt h b0 j=some (if j<i then Lb j else .int .u32 (.ofNat 0))
 wr:cj h b0=true
 oo:Og h0 h []
 lb:h0.nx≤b0∧b0<h.nx
theorem ni:∀{l:List AV},dN l=true↔∀v,v∈l→v.one=true
 |[]=>by simp[la]
 |a::l=>by rw[iT,aac,ni (l:=l)];simp
theorem loopTC(hk:H)(b2 b3 n:Nat)(hn:n<256)(l2:b2<hk.nx)(l3:b3<hk.nx)(n23:b2≠b3)(tm:T AV)(t2:tm.get 2=some (.ptr b2 0))(t10:tm.get 10=some (.func 124 [] [.ptr b3 0]))(c2:cellAt hk b2 0=some (.int .u32 (.ofNat 0)))(w2:cj hk b2=true)(c3:cellAt hk b3 0=some (.int .u8 (.ofNat n)))(w3:cj hk b3=true)(ds:List Nat)(K:KQ)
  (hK:∀h2,hk.nx+2≤h2.nx→(∀b,b<hk.nx→b≠b2→b≠b3→h2.t.get b=hk.t.get b)→h2.t.get hk.nx=some (.deferred (some []))→h2.g=hk.g→cellAt h2 b2 0=some (.int .u32 (.ofNat (gZ 0 n)))→K .norm (hk.nx::ds) tm h2):
  bB P 82 26 none (bL (bD Tryz.f82) [0,1,0,1,1,0,0,1,1,0,0,1,0,1]) ds tm hk K:=by
 refine Md rfl (f:=.tmp 10) (ps:= #[11]) rfl rfl ?_;refine zy (g:=124) (cap:=[.ptr b3 0]) (by rw[k_,t10];rfl) (fun args h=>bz 124 (by kernel_rfl) [] _ args) ?_;have eg:∀b,b<hk.nx→(pX hk 82 26 tm [11] (bL (bD Tryz.f82) [0,0,1,0,1,1,0,0,1,1,0,0,1,0,1]) (bL (bD Tryz.f82) [1,0,1,0,1,1,0,0,1,1,0,0,1,0,1])).t.get b=hk.t.get b:=fun b hb=>by rw[fR,if_neg (by omega),if_neg (by omega)]
 have Ze:Vo hk b2 b3 n (qh hk tm) 0 (pX hk 82 26 tm [11] (bL (bD Tryz.f82) [0,0,1,0,1,1,0,0,1,1,0,0,1,0,1]) (bL (bD Tryz.f82) [1,0,1,0,1,1,0,0,1,1,0,0,1,0,1])):=
  ⟨by rw[jt];omega,fun b hb _ _=>eg b hb,by rw[fR,if_pos rfl],by rw[fR,if_neg (by omega),if_pos rfl],by rw[bo (eg _ l2)];exact c2,by rw[bC (eg _ l2)];exact w2,by rw[bo (eg _ l3)];exact c3,by rw[bC (eg _ l3)];exact w3,rfl⟩
 refine(Vn _ (hk.nx+1) b3 n (fun k h=>Vo hk b2 b3 n (qh hk tm) k h) (fun k h j=>⟨j.c3,j.w3⟩) (fun k h j _=>roundT hk b2 b3 n l2 l3 n23 tm t2 k h j) Ze).mono P ?_;rintro _ h2 j;refine⟨j.lp,?_⟩;have j2:Vo hk b2 b3 n {qh hk tm with state:=.exhausted} _ _:=j.state (R':={qh hk tm with state:=.exhausted}) l2 l3;exact hK _ j2.nx j2.old j2.df j2.g j2.c2
theorem tableC(h0:H):bW P (.enter 82 [] h0) fun v h'=>v= .agg wB∧Og h0 h' []:=by
 obtain⟨zs,hzs⟩:∃zs,zs=aah 256 (AV.int .u32 (.ofNat 0)):=⟨_,rfl⟩;obtain⟨h1,cC⟩:∃h1,h1=h0.bq 143 zs:=⟨_,rfl⟩;have o1:Og h0 h1 []:=by rw[cC];exact(Og.refl _ _).new _ _
 have x1:h1.nx=h0.nx+1:=by rw[cC];rfl
 have c1:∀j,j<256→cellAt h1 h0.nx j=some (.int .u32 (.ofNat 0)):=fun j hj=>by rw[cC,bJ,if_pos rfl,hzs,aad,if_pos hj]
 have w1:cj h1 h0.nx=true:=by rw[cC];exact lu _ _ _
 refine bn (fn:=Tryz.f82) (c:=bD Tryz.f82) Tryz.func82 rfl ?_;show bB P 82 26 none _ _ _ _ _;refine bp ?_;rw[hzs]at cC;refine OO ?_ (cC.symm);refine cn (fun m ds tm h=>∃i,CrTaI h0 h0.nx m ds tm h i) 256 rfl ⟨0,rfl,by omega,List.nodup_nil,fun d hd=>(by cases hd),by exact sT,by exact sT,fun j hj=>by rw[if_neg (by omega)];exact c1 j hj,w1,o1,⟨ao _,by omega⟩⟩ (fun m ds tm h hI=>?_);obtain⟨i,rfl,ii,nd,dd,t0,t5,cs,wr,oo,lb1,lb2⟩:=hI;by_cases hi:i<256
 ·have di:decide (i<256)=true:=decide_eq_true hi
  have w2:bV .i64 (ak i+ak 1)=ak (i+1):=cq (by omega);have w8:bV .u8 (ak i)=ak i:=by rw[wr8,aK hi]
  obtain⟨h2,cJ⟩:∃h2,h2=(h.bq 31 [.int .u32 (.ofNat 0)]).cm h.nx 0 [.int .u32 (.ofNat 0)]:=⟨_,rfl⟩;have o2:Og h h2 []:=by rw[cJ];exact((Og.refl _ _).new _ _).cm (.inr (ao _))
  have x2:h2.nx=h.nx+1:=by rw[cJ,bI,dt]
  have c2:cellAt h2 h.nx 0=some (.int .u32 (.ofNat 0)):=by rw[cJ,b_ (by rw[cY,if_pos rfl]),if_pos ⟨rfl,ao _,by simp⟩];rfl
  have v2:cj h2 h.nx=true:=by rw[cJ];exact F8 _ _ _ _
  refine OO ?_ (V t0<|V t5<|V di<|V cJ.symm<|w8);refine((bitsC h2 i).call P).mono P ?_;rintro _ h3 ⟨rfl,cB⟩;have o3:Og h2 h3 []:=by rw[cB];exact(Og.refl _ _).new _ _
  have x3:h3.nx=h2.nx+1:=by rw[cB];rfl
  have c3:cellAt h3 h2.nx 0=some (.int .u8 (.ofNat i)):=by rw[cB,bJ,if_pos rfl];rfl
  have v3:cj h3 h2.nx=true:=by rw[cB];exact lu _ _ _
  have c23:=kc c2 o3 (by omega) (by simp);have v23:=kw v2 o3 (by omega) (by simp);refine rN3s ?_ (@sc [0,1,0,1,1,0,0,1,1,0,0,1,0,1]) (V t0<|t5);refine⟨?_⟩;refine loopTC h3 h.nx h2.nx i hi (by omega) (by omega) (by omega) _ (by exact sT) (by exact sT) c23 v23 c3 v3 ds _ ?_;intro h5 nx5 IH df5 g5 k5;have e5:∀b,b<h3.nx→b≠h.nx→b≠h2.nx→h5.t.get b=h3.t.get b:=IH;have z0:∀b,b<h.nx→h5.t.get b=h.t.get b:=fun b hb=>by rw[IH b (by omega) (by omega) (by omega),o3.1.2 b (by omega) (by simp),o2.1.2 b hb (by simp)]
  have cs5:∀j,cellAt h5 h0.nx j=cellAt h h0.nx j:=fun j=>bo (z0 _ lb2) j;have wr5:cj h5 h0.nx=true:=by rw[bC (z0 _ lb2)];exact wr
  have ia:=W4 h0.nx .i64 i hi;have Oq:=cs i hi;rw[if_neg (by omega),←cs5]at Oq;obtain⟨h6,kO⟩:∃h6,h6=h5.cm h0.nx i [Lb i]:=⟨_,rfl⟩;unfold Lb at kO;have e6:∀b,b≠h0.nx→h6.t.get b=h5.t.get b:=fun b hb=>by rw[kO];exact bT _ _ _ _ hb
  have x6:h6.nx=h5.nx:=by rw[kO,bI]
  refine OO ?_ (V t0<|V t5<|V k5<|V ia<|V wr5<|V Oq<|V kO.symm<|w2);have x0:=oo.1.1;refine⟨256-(i+1),by omega,i+1,rfl,by omega,?_,fun d hd=>?_,by exact sT,by exact sT,fun j hj=>?_,?_,⟨⟨by omega,fun c hc _=>?_⟩,?_⟩,⟨lb1,by omega⟩⟩
  ·rw[aE]
   exact⟨fun hm=>by have:=(dd _ hm).2.2;omega,nd⟩
  ·rcases List.mem_cons.1 hd with rfl|hd
   ·exact⟨by rw[e6 _ (by omega)];exact df5,by omega,by omega⟩
   ·obtain⟨q1,q2,q3⟩:=dd d hd
    exact⟨by rw[e6 _ (by omega),z0 _ q3];exact q1,q2,by omega⟩
  ·rw[kO,b_ wr5]
   by_cases q:j=i
   ·subst q
    rw[if_pos ⟨rfl,ao _,by simp⟩,if_pos (by omega),Nat.sub_self];rfl
   ·rw[if_neg (by simp;omega),cs5,cs j hj]
    by_cases q2:j<i
    ·rw[if_pos q2,if_pos (by omega)]
    ·rw[if_neg q2,if_neg (by omega)]
  ·rw[kO,bN];exact wr5
  ·rw[e6 c (by omega),z0 c (by omega)];exact oo.1.2 c hc (by simp)
  ·rw[kO,dD,g5,o3.2,o2.2,oo.2]
 ·have di:decide (i<256)=false:=decide_eq_false hi
  obtain rfl:i=256:=by omega
  have P4:∀j,j<256→cellAt h h0.nx j=wB[j]? :=fun j hj=>by rw[cs j hj,if_pos hj,Nj hj]
  have hld:=SF oZ P4;have a1:dN wB=true:=by
   rw[ni];intro v hv;unfold wB at hv;obtain⟨j,-,rfl⟩:=List.mem_map.1 hv;rfl
  have jV:=SG (h:=h) (b:=h0.nx) oZ a1 wr (fun j hj=>⟨_,cs j hj⟩);obtain⟨h2,cJ⟩:∃h2,h2=h.cm h0.nx 0 wB:=⟨_,rfl⟩;rw[←cJ]at jV;have cs3:∀j,j<256→cellAt h2 h0.nx j=wB[j]? :=fun j hj=>by rw[cJ,b_ wr,if_pos ⟨rfl,aw _,by rw[oZ];omega⟩,Nat.sub_zero]
  have e2:∀b,b≠h0.nx→h2.t.get b=h.t.get b:=fun b hb=>by rw[cJ];exact bT _ _ _ _ hb
  have x2:h2.nx=h.nx:=by rw[cJ,bI]
  have x0:=oo.1.1;refine OO ?_ (V t0<|V t5<|V di<|V hld<|jV);refine yT rfl ds h2 nd (fun d hd=>by rw[e2 d (by have:=(dd d hd).2.1;omega)];exact(dd d hd).1) (fun h3 q1 q2 q3=>?_);have cs4:∀j,j<256→cellAt h3 h0.nx j=wB[j]? :=fun j hj=>by rw[bo (q2 h0.nx (fun hm=>by have:=(dd _ hm).2.1;omega))];exact cs3 j hj
  have hld3:=SF oZ cs4
  (conv =>arg 2;whnf)
  simp only[B,F3,ab,ae,af,ag,ah,ai, ↓reduceIte,eq_self,t0,hld3];refine⟨⟨by omega,fun c hc _=>?_⟩,by rw[q3,cJ,dD,oo.2]⟩;rw[q2 c (fun hm=>by have:=(dd _ hm).2.1;omega),e2 c (by omega),oo.1.2 c hc (by simp)]
theorem Jm(r b:Nat):gZ r b=gZ r (b%256):=by
 have e:∀(q:Nat) k,k<8→ly q k b=ly q k (b%256):=fun q k hk=>by
  unfold ly;have :(b>>>k)%2=((b%256)>>>k)%2:=by
   rw[aM,aM];rcases(show k=0∨k=1∨k=2∨k=3∨k=4∨k=5∨k=6∨k=7 by omega)with rfl|rfl|rfl|rfl|rfl|rfl|rfl|rfl<;>simp only[Nat.reducePow]<;>omega
  rw[this]
 unfold gZ;rw[e _ 0 (by omega),e _ 1 (by omega),e _ 2 (by omega),e _ 3 (by omega),e _ 4 (by omega),e _ 5 (by omega),e _ 6 (by omega),e _ 7 (by omega)]
theorem Vq{x:Nat}(hx:x<256):gZ 0 x=Dj x:=by rw[E3 hx,Nat.zero_xor]
theorem Ld(r b:Nat):gZ r b=(r/256)^^^gZ 0 ((r%256)^^^(b%256)):=by
 have h1:b%256<256:=aO _ (by omega);have h2:(r%256)^^^(b%256)<2^8:=bg (aO _ (by omega)) h1;rw[Jm,OJ h1,Vq h2]
theorem xor8(a b:Nat):bV .u8 (.ofNat (Nat.xor (low .u8 (.ofNat (a%256))) (low .u8 (.ofNat b))))= .ofNat ((a%256)^^^(b%256)):=by
 rw[Vm,Vm,wr8,Nat.mod_mod];congr 1;exact aK (bg (n:=8) (aO _ (by omega)) (aO _ (by omega)))
theorem shr8w(u:Nat):(ak u).fdiv (ak (2^min 8 IntKind.u32.bits))=ak (u/256):=by
 have :(2^min 8 IntKind.u32.bits:Nat)=256:=rfl;rw[this];exact(Int.ofNat_fdiv u 256).symm
structure CsI(h1:H)(va:AV)(b3:Nat)(ts:List (List Nat))(m:Nat)(ds:List Nat)(tm:T AV)(h:H)(i:Nat):Prop where
 ds:ds=[]
 nn:m=ts.length-i
 ii:i≤ts.length
 t3:tm.get 3=some (.ptr b3 0)
 t4:tm.get 4=some (.int .u32 (.ofNat (xK (ts.take i).flatten)))
 t9:tm.get 9=some va
 t10:tm.get 10=some (.int .i64 (.ofNat ts.length))
 t11:tm.get 11=some (.int .i64 (.ofNat i))
 he:h=h1
structure CtI(h1:H)(va:AV)(b3 n i:Nat)(s:List Nat)(r:Nat)(m:Nat)(ds:List Nat)(tm:T AV)(h:H)(j:Nat):Prop where
 ds:ds=[]
 nn:m=s.length-j
 jj:j≤s.length
 t3:tm.get 3=some (.ptr b3 0)
 t4:tm.get 4=some (.int .u32 (.ofNat ((s.take j).foldl gZ r)))
 t6:tm.get 6=some (.str s)
 t9:tm.get 9=some va
 t10:tm.get 10=some (.int .i64 (.ofNat n))
 t11:tm.get 11=some (.int .i64 (.ofNat i))
 t16:tm.get 16=some (.int .i64 (.ofNat s.length))
 t17:tm.get 17=some (.int .i64 (.ofNat j))
 he:h=h1
theorem crcC(h0:H)(va:AV)(ts:List (List Nat))(sl0:br h0 va ts.length (strs ts))(hz:ts.length≤1000000)(hl:∀s,s∈ts→s.length≤4194304):
  bW P (.enter 43 [va] h0) (cQ h0 (.int .u32 (.ofNat (um ts.flatten)))):=by
 obtain⟨zs,hzs⟩:∃zs,zs=aah 256 (AV.int .u32 (.ofNat 0)):=⟨_,rfl⟩;refine bn (fn:=Tryz.f43) (c:=bD Tryz.f43) Tryz.func43 rfl ?_;show bB P 43 35 none _ _ _ _ _;refine bp ?_;refine rN30 ?_;refine((tableC h0).call P).mono P ?_;rintro _ h1 ⟨rfl,o1⟩;obtain⟨h2,cJ⟩:∃h2,h2=h1.bq 143 zs:=⟨_,rfl⟩;have o2:Og h1 h2 []:=by rw[cJ];exact(Og.refl _ _).new _ _
 have x2:h2.nx=h1.nx+1:=by rw[cJ];rfl
 have c2:∀j,j<256→∃v,cellAt h2 h1.nx j=some v:=fun j hj=>⟨.int .u32 (.ofNat 0),by rw[cJ,bJ,if_pos rfl,hzs,aad,if_pos hj]⟩;have w2:cj h2 h1.nx=true:=by rw[cJ];exact lu _ _ _
 have a1:dN wB=true:=by
  rw[ni];intro v hv;unfold wB at hv;obtain⟨j,-,rfl⟩:=List.mem_map.1 hv;rfl
 have jV:=SG (h:=h2) (b:=h1.nx) oZ a1 w2 c2;obtain⟨h3,cB⟩:∃h3,h3=h2.cm h1.nx 0 wB:=⟨_,rfl⟩;rw[←cB]at jV;have c3:∀j,j<256→cellAt h3 h1.nx j=some (Lb j):=fun j hj=>by rw[cB,b_ w2,if_pos ⟨rfl,aw _,by rw[oZ];omega⟩,Nat.sub_zero,Nj hj]
 have o3:Og h1 h3 []:=by rw[cB];exact o2.cm (.inr (ao _))
 have wF:=o1.t o3;have sl:=br.only wF.1 sl0 (fun _ _=>by simp);have hlen:=sl.len (P:=P) Ri;have vo:=cH sl;rw[hzs]at cJ;refine OO ?_ (V cJ.symm<|V jV<|V hlen<|vo);refine cn (fun m ds tm h=>∃i,CsI h3 va h1.nx ts m ds tm h i) ts.length rfl ⟨0,rfl,rfl,aw _,by simp only[B,F3,ab,ae,af,ag,ah,ai, ↓reduceIte,eq_self],by rw[aP];simp only[B,F3,ab,ae,af,ag,ah,ai, ↓reduceIte,eq_self];rfl,by simp only[B,F3,ab,ae,af,ag,ah,ai, ↓reduceIte,eq_self],by simp only[B,F3,ab,ae,af,ag,ah,ai, ↓reduceIte,eq_self],by simp only[B,F3,ab,ae,af,ag,ah,ai, ↓reduceIte,eq_self],rfl⟩ (fun m ds tm h hI=>?_);obtain⟨i,rfl,rfl,ii,t3,t4,t9,t10,t11,rfl⟩:=hI;obtain⟨r,hr⟩:∃r,r=xK (ts.take i).flatten:=⟨_,rfl⟩;have Vj:r<2^32:=by rw[hr];exact wq _ _ (by omega)
 rw[←hr]at t4;by_cases hi:i<ts.length
 ·have di:decide (i<ts.length)=true:=decide_eq_true hi
  have dX:(i<ts.length)=True:=by simp[hi]
  obtain⟨s,hs⟩:∃s,ts[i]? =some s:=⟨_,an hi⟩;have hls:=hl s (aB hs);obtain⟨bv,ov,cv,rfl,qw,-⟩:=sl.place (by omega);have q0:=nQ sl hs;have w1:bV .i64 (ak i+ak 1)=ak (i+1):=cq (by omega);refine OO ?_ (V t3<|V t4<|V t9<|V t10<|V t11<|V di<|V dX<|q0);refine cn (fun m ds tm h'=>∃j,CtI h (.slice bv ov ts.length cv) h1.nx ts.length i s r m ds tm h' j) s.length rfl ⟨0,rfl,rfl,aw _,by simp only[B,F3,ab,ae,af,ag,ah,ai, ↓reduceIte,eq_self,t3],by rw[aP];simp only[B,F3,ab,ae,af,ag,ah,ai, ↓reduceIte,eq_self,t4];rfl,by simp only[B,F3,ab,ae,af,ag,ah,ai, ↓reduceIte,eq_self],by simp only[B,F3,ab,ae,af,ag,ah,ai, ↓reduceIte,eq_self,t9],by simp only[B,F3,ab,ae,af,ag,ah,ai, ↓reduceIte,eq_self,t10],by simp only[B,F3,ab,ae,af,ag,ah,ai, ↓reduceIte,eq_self,t11],by simp only[B,F3,ab,ae,af,ag,ah,ai, ↓reduceIte,eq_self],by simp only[B,F3,ab,ae,af,ag,ah,ai, ↓reduceIte,eq_self],rfl⟩ (fun m ds tm h' hJ=>?_);clear t3 t4 t9 t10 t11;obtain⟨j,rfl,rfl,jj,t3,t4,t6,t9,t10,t11,t16,t17,rfl⟩:=hJ;obtain⟨q,hq⟩:∃q,q=(s.take j).foldl gZ r:=⟨_,rfl⟩;have hq32:q<2^32:=by rw[hq];exact wq _ _ Vj
  rw[←hq]at t4;by_cases hj:j<s.length
  ·have dj:decide (j<s.length)=true:=decide_eq_true hj
   obtain⟨b,hb⟩:∃b,s[j]? =some b:=⟨_,an hj⟩;have w2:bV .i64 (ak j+ak 1)=ak (j+1):=cq (by omega);have hix:nV P 9 (.str s) (.int .i64 (.ofNat j))=some (.int .u8 (.ofNat b)):=by simp only[nV,ZU,hb]
   have s8:=shr8w q;have c8:=wr8 q;have x8:=xor8 q b;have hx:(q%256)^^^(b%256)<256:=bg (n:=8) (aO _ (by omega)) (aO _ (by omega));have ia:=W4 h1.nx .u8 _ hx;have hc:=c3 _ hx;unfold Lb at hc;have xr:=E4 (a:=q/256) (b:=gZ 0 ((q%256)^^^(b%256))) (by omega) (Ji (by omega));rw[←Ld]at xr;have nx:(s.take (j+1)).foldl gZ r=gZ q b:=by rw[aH,hb,List.foldl_append,←hq];rfl
   refine OO ?_ (V t3<|V t4<|V t6<|V t9<|V t10<|V t11<|V t16<|V t17<|V dj<|V hix<|V @EU<|V s8<|V c8<|V @Su<|V x8<|V ia<|V hc<|V xr<|w2);exact⟨s.length-(j+1),by omega,j+1,rfl,rfl,by omega,by exact sT,by rw[nx];exact sT,by exact sT,by exact sT,by exact sT,by exact sT,by exact sT,by exact sT,rfl⟩
  ·have dj:decide (j<s.length)=false:=decide_eq_false hj
   obtain rfl:j=s.length:=by omega
   rw[au]at hq;have nx:xK (ts.take (i+1)).flatten=q:=by
    rw[aH,hs,hq,hr];unfold xK;rw[aY,List.foldl_append];simp
   refine OO ?_ (V t3<|V t4<|V t6<|V t9<|V t10<|V t11<|V t16<|V t17<|V dj<|w1);exact⟨ts.length-(i+1),by omega,i+1,rfl,rfl,by omega,by exact sT,by rw[nx];exact sT,by exact sT,by exact sT,by exact sT,rfl⟩
 ·have di:decide (i<ts.length)=false:=decide_eq_false hi
  obtain rfl:i=ts.length:=by omega
  rw[au]at hr;have xr:=E4 (a:=4294967295) (b:=r) (by omega) Vj;refine OO ?_ (V t3<|V t4<|V t9<|V t10<|V t11<|V di<|V @Sv<|@Jj);exact⟨by unfold um;rw[←hr];exact congrArg (AV.int .u32) xr,wF⟩
def xM(V:View)(c:Nat)(x:Rec):Bool:=decide (c<x.main)||decide (EV (dP x.kv.key V)=(x.main,x.sub))
theorem roundA{hk:H}{ro rk b5 b7 b8:Nat}{V:View}{c:Nat}(k:HaB hk ro rk b5 b7 b8 V c)(tm:T AV)(t5:tm.get 5=some (.ptr b5 0))(t7:tm.get 7=some (.ptr b7 0))(t8:tm.get 8=some (.ptr b8 0)){h:H}{S:List Rec}{M:TM}(hj:Gw hk ro (qg hk tm) S h M)(hz:S.length≤1000000)(x:Rec)(hx:(uq x).ok∧x.kv.key.length≤60∧x.kv.val.length≤60):
  bW P (.round (hk.nx+1) [.agg x.cs] h) fun v h'=>v= .bool true∧∃M',Gw hk ro (qg hk tm) (if xM V c x then S++[x]else S) h' M':=by
 refine pJ (tm:=tm.set 25 (some (.agg x.cs))) hj.lp rfl ?_;show bB P 16 69 (some (hk.nx+1)) (bL (bD Tryz.f16) [0,0,1,0,1,1,1,1]) _ _ _ _;obtain⟨h1,cC,o1,x1,y0,y1,y2,y3,y4,y5,y6,y7,-⟩:=rK h x;have j1:=hj.bU o1;have xk:=hj.nx;unfold Rec.cs;repeat' (first|((with_reducible refine gh ?_);(conv =>whnf);(with_reducible refine⟨?_⟩))|((with_reducible refine bE rfl ?_);(conv =>arg 2;whnf))|((with_reducible first|refine iB ?_ ?_|refine g_ ?_ ?_|refine hP ?_ ?_)<;>intro hb<;>(try simp only[hb]))|(simp only[B,xB,F,F2,ab,ae,af,ag,ah,ai, ↓reduceIte,eq_self,cC]))
 refine vB j1.lp rfl ?_;show bB P 16 69 (some (hk.nx+1)) (bL (bD Tryz.f16) [1,0,1,0,1,1,1,1]) _ _ _ _;have lr:=k.lr;have j2:Gw hk ro {qg hk tm with state:=.busy} S (h1.obj (hk.nx+1) (.loop {qg hk tm with state:=.busy})) M:=j1.state lr;obtain⟨h2,e2⟩:∃h2,h2=h1.obj (hk.nx+1) (.loop {qg hk tm with state:=.busy}):=⟨_,rfl⟩;have y:∀j,cellAt h2 h.nx j=cellAt h1 h.nx j:=fun j=>by rw[e2];exact bo (cF (by omega) _) _
 have x2:h2.nx=h1.nx:=by rw[e2,BQ]
 rw[←e2]at j2;have c5:cellAt h2 b5 0=some (.int .u64 (.ofNat c)):=by rw[bo (j2.old b5 k.l5.1 k.l5.2)];exact k.c5
 have c7:cellAt h2 b7 0=some (.map rk):=by rw[bo (j2.old b7 k.l7.1 k.l7.2)];exact k.c7
 have Y2:bj h2 h.nx 0 x.cs:=by
  rw[←y]at y0 y1 y2 y3 y4 y5 y6 y7;exact bj.m8 y0 y1 y2 y3 y4 y5 y6 y7
 obtain⟨z0,z1,z2,z3,z4,z5,z6,z7⟩:=Y2.u8;rw[←e2];have fin:∀(b:Bool),xM V c x=b→∀tm' h' M',Gw hk ro {qg hk tm with state:=.busy} (if b then S++[x]else S) h' M'→js (hk.nx+1) (fun v h'=>v= .bool true∧∃M',Gw hk ro (qg hk tm) (if xM V c x then S++[x]else S) h' M') .norm [] tm' h':=fun b hb tm' h' M' j'=>by
  rw[hb];exact ju (r:=qg hk tm) j'.lp rfl rfl ⟨rfl,M',j'.state lr⟩
 by_cases p1:c<x.main
 ·have d1:decide (c<x.main)=true:=decide_eq_true p1
  repeat' (first|(with_reducible refine rB [0,1,1,0,1,0,1,0,1,1,1,1] ?_)|((with_reducible refine gh ?_);(conv =>whnf);(with_reducible refine⟨?_⟩))|((with_reducible refine bE rfl ?_);(conv =>arg 2;whnf))|((with_reducible first|refine iB ?_ ?_|refine g_ ?_ ?_|refine hP ?_ ?_)<;>intro hb<;>(try simp only[hb]))|(simp only[B,xB,F,F2,ab,ae,af,ag,ah,ai, ↓reduceIte,eq_self,t5,t7,t8,c5,z0,z1,z2,d1]))
  refine⟨?_⟩;refine Ni (hk.nx+1) k j2 hz x hx h.nx Y2 (by omega) _ (by exact sT) (by exact sT) (by exact sT) _ ?_;intro tm' h' M' j';refine rN ?_ (F2);exact fin true (by unfold xM;rw[d1];rfl) _ _ _ j'
 ·have d1:decide (c<x.main)=false:=decide_eq_false p1
  have lk:=(pO (j2.mk2 k) x.kv.key).1;obtain⟨r,hr⟩:∃r,r=(dP x.kv.key V).getD Db:=⟨_,rfl⟩;have Qw:EV (dP x.kv.key V)=(r.main,r.sub):=by rw[SE,hr]
  rw[←hr]at lk;unfold Rec.cs at lk;have FA:xM V c x=(decide (r.main=x.main)&&decide (r.sub=x.sub)):=by
   unfold xM;rw[d1,Qw,Bool.false_or,Bool.eq_iff_iff,aac,decide_eq_true_iff,decide_eq_true_iff,decide_eq_true_iff,Prod.mk.injEq]
  by_cases p2:r.main=x.main
  ·have d2:decide (r.main=x.main)=true:=decide_eq_true p2
   by_cases p3:r.sub=x.sub
   ·have d3:decide (r.sub=x.sub)=true:=decide_eq_true p3
    repeat' (first|(with_reducible refine rB [0,1,1,0,1,0,1,0,1,1,1,1] ?_)|((with_reducible refine gh ?_);(conv =>whnf);(with_reducible refine⟨?_⟩))|((with_reducible refine bE rfl ?_);(conv =>arg 2;whnf))|((with_reducible first|refine iB ?_ ?_|refine g_ ?_ ?_|refine hP ?_ ?_)<;>intro hb<;>(try simp only[hb]))|(simp only[B,xB,F,F2,ab,ae,af,ag,ah,ai, ↓reduceIte,eq_self,t5,t7,t8,c5,c7,z0,z1,z2,d1,@fb,lk,d2,d3]))
    refine⟨?_⟩;refine Ni (hk.nx+1) k j2 hz x hx h.nx Y2 (by omega) _ (by exact sT) (by exact sT) (by exact sT) _ ?_;intro tm' h' M' j';refine rN ?_ (F2);exact fin true (by rw[FA,d2,d3];rfl) _ _ _ j'
   ·have d3:decide (r.sub=x.sub)=false:=decide_eq_false p3
    repeat' (first|((with_reducible refine gh ?_);(conv =>whnf);(with_reducible refine⟨?_⟩))|((with_reducible refine bE rfl ?_);(conv =>arg 2;whnf))|((with_reducible first|refine iB ?_ ?_|refine g_ ?_ ?_|refine hP ?_ ?_)<;>intro hb<;>(try simp only[hb]))|(simp only[B,xB,F,F2,ab,ae,af,ag,ah,ai, ↓reduceIte,eq_self,t5,t7,t8,c5,c7,z0,z1,z2,d1,@fb,lk,d2,d3]))
    exact fin false (by rw[FA,d2,d3];rfl) _ _ _ j2
  ·have d2:decide (r.main=x.main)=false:=decide_eq_false p2
   cases q3:decide (r.sub=x.sub)with
   |true=>
    repeat' (first|((with_reducible refine gh ?_);(conv =>whnf);(with_reducible refine⟨?_⟩))|((with_reducible refine bE rfl ?_);(conv =>arg 2;whnf))|((with_reducible first|refine iB ?_ ?_|refine g_ ?_ ?_|refine hP ?_ ?_)<;>intro hb<;>(try simp only[hb]))|(simp only[B,xB,F,F2,ab,ae,af,ag,ah,ai, ↓reduceIte,eq_self,t5,t7,t8,c5,c7,z0,z1,z2,d1,@fb,lk,d2,q3]))
    exact fin false (by rw[FA,d2];rfl) _ _ _ j2
   |false=>
    repeat' (first|((with_reducible refine gh ?_);(conv =>whnf);(with_reducible refine⟨?_⟩))|((with_reducible refine bE rfl ?_);(conv =>arg 2;whnf))|((with_reducible first|refine iB ?_ ?_|refine g_ ?_ ?_|refine hP ?_ ?_)<;>intro hb<;>(try simp only[hb]))|(simp only[B,xB,F,F2,ab,ae,af,ag,ah,ai, ↓reduceIte,eq_self,t5,t7,t8,c5,c7,z0,z1,z2,d1,@fb,lk,d2,q3]))
    exact fin false (by rw[FA,d2];rfl) _ _ _ j2
theorem loopAC(hk:H)(ro rk b5 b7 b8 b1 b2 bm:Nat)(V:View)(c mx:Nat)(k:HaB hk ro rk b5 b7 b8 V c)(v:AV)(L:List Rec)(hz:L.length≤400)(hx:∀x,x∈L→(uq x).ok∧x.kv.key.length≤60∧x.kv.val.length≤60)(ds:List Nat)(tm:T AV)(K:KQ)(t24:tm.get 24=some (.func 74 [] [.ptr b1 0,.ptr b2 0]))
  (t5:tm.get 5=some (.ptr b5 0))(t7:tm.get 7=some (.ptr b7 0))(t8:tm.get 8=some (.ptr b8 0))(mp:fu encS hk ro [])(k1:cellAt hk b1 0=some (.ptr bm 0))(k2:cellAt hk b2 0=some (.int .u64 (.ofNat mx)))(km:cellAt hk bm 0=some v)(sl:br hk v L.length (L.flatMap Rec.cs))(wD:b1<hk.nx)(sP:b2<hk.nx)(WA:bm<hk.nx)(n2:b2≠ro)(nv:bA v≠some ro)
  (hK:∀h2 M,Gw hk ro {qg hk tm with state:=.exhausted} (L.filter fun x=>decide (x.main≤mx)&&xM V c x) h2 M→K .norm (hk.nx::ds) tm h2):
  bB P 16 69 none (bL (bD Tryz.f16) [0,1,0,1,1,1,1]) ds tm hk K:=by
 have lr:=k.lr;refine Md rfl (f:=.tmp 24) (ps:= #[25]) rfl rfl ?_;refine zy (g:=74) (cap:=[.ptr b1 0,.ptr b2 0]) (by rw[k_,t24];rfl) (fun args h=>bz 74 (by kernel_rfl) [] _ args) ?_;have eg:∀b,b<hk.nx→(pX hk 16 69 tm [25] (bL (bD Tryz.f16) [0,0,1,0,1,1,1,1]) (bL (bD Tryz.f16) [1,0,1,0,1,1,1,1])).t.get b=hk.t.get b:=fun b hb=>by rw[fR,if_neg (by omega),if_neg (by omega)]
 have Ze:Gw hk ro (qg hk tm) [] (pX hk 16 69 tm [25] (bL (bD Tryz.f16) [0,0,1,0,1,1,1,1]) (bL (bD Tryz.f16) [1,0,1,0,1,1,1,1])) []:=
  ⟨by rw[jt];omega,fun b hb _=>eg b hb,by rw[fR,if_pos rfl],by rw[fR,if_neg (by omega),if_pos rfl],⟨mp.get (by rw[jt];omega) (eg _ lr),List.nodup_nil,fun k=>by simp,fun k w h=>(by cases h),fun k w k2 w2 h=>(by cases h),by omega⟩,rfl⟩
 have ID:∀h',(∀b,b<hk.nx→b≠ro→h'.t.get b=hk.t.get b)→hk.nx≤h'.nx→br h' v L.length (L.flatMap Rec.cs):=fun h' old hx=>sl.move hx (fun c e=>old c (gz sl c e) (fun e2=>nv (by rw[e,e2])));have fs:∀i x,L[i]? =some x→(L.take (i+1)).filter (fun x=>decide (x.main≤mx)&&xM V c x)=if decide (x.main≤mx)&&xM V c x then(L.take i).filter (fun x=>decide (x.main≤mx)&&xM V c x)++[x]else(L.take i).filter (fun x=>decide (x.main≤mx)&&xM V c x):=fun i x hx=>by
  rw[aH,hx,a_,Option.toList_some,List.filter_cons,List.filter_nil];split
  ·rfl
  ·rw[aX]
 refine(F5 _ (hk.nx+1) b1 b2 bm mx v L (by omega) (fun i h=>∃M,Gw hk ro (qg hk tm) ((L.take i).filter fun x=>decide (x.main≤mx)&&xM V c x) h M) (by rw[bo (eg _ wD)];exact k1) (by rw[bo (eg _ WA)];exact km) (ID _ (fun b hb _=>eg b hb) (by rw[jt];omega)) (fun i h h' ⟨M,j⟩ o=>⟨M,j.bU o⟩)
  (fun i h ⟨M,j⟩=>⟨by rw[bo (j.old _ sP n2)];exact k2,ID _ j.old (by have:=j.nx;omega),by have:=j.nx;omega⟩) (fun i h x ⟨M,j⟩ Gb p=>by
   rw[fs i x Gb,decide_eq_true p,aal];exact roundA k tm t5 t7 t8 j (aQ (aG _ _) (by rw[aab];omega)) x (hx x (aB Gb)))
  (fun i h x ⟨M,j⟩ Gb p=>by rw[fs i x Gb,decide_eq_false p,Bool.false_and,if_neg (by simp)];exact⟨M,j⟩) ⟨_,Ze⟩).mono P ?_
 rintro _ h2 ⟨M,j⟩;rw[au]at j;refine⟨j.lp,?_⟩;exact hK _ M (j.state (R':={qg hk tm with state:=.exhausted}) lr)
theorem Vr(s:List Nat):∀r,(yR s).foldl gZ r=s.foldl gZ r:=by
 induction s with
 |nil=>intro r;rfl
 |cons a s ih=>
  intro r;show(yR s).foldl gZ (gZ r (a%256))=s.foldl gZ (gZ r a);rw[ih,←Jm]
theorem SH(s:List Nat):um (yR s)=um s:=by unfold um xK;rw[Vr]
theorem SI(s:List Nat):yR (yR s)=yR s:=by unfold yR;rw[List.map_map];apply aak;intro a _;simp
theorem Nk(a b:List Nat):yR (a++b)=yR a++yR b:=aN
theorem SJ(ts:List (List Nat)):yR (kA ts)=yR ts.flatten:=by
 unfold kA;split
 ·rfl
 ·exact SI _
theorem Jn(f:List Nat→List (List Nat)):∀ks:List (List Nat),yR (ks.flatMap fun k=>kA (f k))=yR (ks.flatMap fun k=>(f k).flatten)
 |[]=>rfl
 |k::ks=>by
  rw[aA,aA,Nk,Nk,SJ,Jn f ks]
theorem Gp(k:List Nat)(S:List Rec):(tx k S).flatten=(S.filter fun x=>decide (x.kv.key=k)).flatMap gq:=by unfold tx;rw[List.flatMap]
theorem Le(ks:List (List Nat))(S:List Rec):(yQ ks S).flatMap gq=ks.flatMap fun k=>(tx k S).flatten:=by
 unfold yQ;rw[List.flatMap_assoc];simp only[Gp]
theorem SK(ks:List (List Nat))(S:List Rec):um (yR (ks.flatMap fun k=>kA (tx k S)))=um ((yQ ks S).flatMap gq):=by
 rw[Jn,SH,Le]
theorem jn.base2{h:H}{base base2 b:Nat}{a:AV}(k:jn h base b a .bh [])(hb:b<base2):jn h base2 b a .bh []:=⟨k.lt,k.ob,k.c0,k.c1,k.aa,.none,hb⟩
structure HashI(h5:H)(b8 dZ ro:Nat)(va:AV)(ks:List (List Nat))(S:List Rec)(m:Nat)(ds:List Nat)(ds0:List Nat)(tm:T AV)(h:H)(i:Nat)(a w:AV):Prop where
 ds:ds=ds0
 nn:m=ks.length-i
 ii:i≤ks.length
 t8:tm.get 8=some (.ptr b8 0)
 t11:tm.get 11=some (.ptr dZ 0)
 t54:tm.get 54=some va
 t55:tm.get 55=some (.int .i64 (.ofNat ks.length))
 t56:tm.get 56=some (.int .i64 (.ofNat i))
 bu:jn h h5.nx dZ a w ((ks.take i).flatMap fun k=>kA (tx k S))
 bf:Bf h5.nx dZ h5 h
 wn:i=0→w= .bh
theorem Bf.og{base b:Nat}{h h1 h2:H}(a:Bf base b h h1)(o:Og h1 h2 [])(hb:base≤h1.nx):Bf base b h h2:=⟨aQ a.nx o.1.1,fun d hd hn=>(o.1.2 d (by omega) (by simp)).trans (a.old d hd hn),o.2.trans a.g⟩
theorem Jo{α:Type}(f:α→Bool):∀l:List α,(l.filter f).length+(l.filter fun x=> !f x).length=l.length
 |[]=>rfl
 |a::l=>by
  have:=Jo f l;cases q:f a<;>simp[List.filter_cons,q]<;>omega
theorem Vs(ks:List (List Nat))(S:List Rec)(z:Nat)(hS:∀x,x∈S→(gq x).length≤z)(nd:ks.Nodup):(ks.flatMap fun k=>kA (tx k S)).length≤S.length*z:=by
 have h1:∀k,(kA (tx k S)).length=((S.filter fun x=>decide (x.kv.key=k)).flatMap gq).length:=fun k=>by
  rw[←Gp];unfold kA;split
  ·rfl
  ·unfold yR;rw[al]
 have h2:∀(ks:List (List Nat)),ks.Nodup→∀S:List Rec,(∀x,x∈S→(gq x).length≤z)→(ks.flatMap fun k=>((S.filter fun x=>decide (x.kv.key=k)).flatMap gq)).length≤S.length*z:=by
  intro ks;induction ks with
  |nil=>intro _ S _;simp
  | cons k ks ih=>
   intro nd S hS;rw[aE]at nd;rw[aA,aq];have e:=ih nd.2 (S.filter fun x=> !decide (x.kv.key=k)) (fun x hx=>hS x (List.mem_filter.1 hx).1);have e2:(ks.flatMap fun a=>(((S.filter fun x=> !decide (x.kv.key=k)).filter fun x=>decide (x.kv.key=a)).flatMap gq))=ks.flatMap fun a=>((S.filter fun x=>decide (x.kv.key=a)).flatMap gq):=by
    have :∀a,a∈ks→((S.filter fun x=> !decide (x.kv.key=k)).filter fun x=>decide (x.kv.key=a))=S.filter fun x=>decide (x.kv.key=a):=fun a ha=>by
     rw[List.filter_filter];apply List.filter_congr;intro x _;by_cases q:x.kv.key=a
     ·have :¬a=k:=fun e=>nd.1 (e▸ha)
      simp[q,this]
     ·simp[q]
    unfold List.flatMap;rw[aak (fun a ha=>by rw[this a ha])]
   rw[e2]at e;have f:=zE (f:=gq) (k:=z) (l:=S.filter fun x=>decide (x.kv.key=k)) (fun x hx=>hS x (List.mem_filter.1 hx).1);have g:=Jo (fun x:Rec=>decide (x.kv.key=k)) S;rw[←g,Nat.add_mul];omega
 have h3:=h2 ks nd S hS;have h4:∀ks:List (List Nat),(ks.flatMap fun k=>kA (tx k S)).length=(ks.flatMap fun k=>((S.filter fun x=>decide (x.kv.key=k)).flatMap gq)).length:=by
  intro ks;induction ks with
  |nil=>rfl
  |cons k ks ih=>rw[aA,aA,aq,aq,ih,h1]
 rw[h4];exact h3
theorem Vt(a b:Nat):(if ak a<ak b then ak b else ak a)=ak (max a b):=by
 have :∀a b:Nat,(if(a:Int)<(b:Int)then(b:Int)else(a:Int))=((max a b:Nat):Int):=fun a b=>by split<;>omega
 exact this a b
theorem mk84(tm:T AV)(h:H):bF P tm h (.makeMap 84 none)= .val (.map h.nx) (h.alloc (.map [] 0)):=by simp only[bF,u84a,kI]
theorem Vu(h:H)(ro lo b8:Nat)(M:TM)(S:List Rec)(bk:Ng h lo ro M S)(tL:lo≤h.nx)(hS:S.length≤400)(hx:∀x,x∈S→(uq x).ok∧x.kv.key.length≤60∧x.kv.val.length≤60)(c8:cellAt h b8 0=some (.map ro))(l8:b8<h.nx)(ds:List Nat)
  (tm:T AV)(t8:tm.get 8=some (.ptr b8 0))(K:KQ)
  (hK:∀bZ h2,bZ.get 6=some (.int .u32 (.ofNat (um ((yQ (fJ (M.map (·.1))) S).flatMap gq))))→Og h h2 []→K .ret ds bZ h2):
  bB P 16 69 none (bL (bD Tryz.f16) [1,1,1,1,1]) ds tm h K:=by
 obtain⟨h1,cC⟩:∃h1,h1=h.bq 97 [.cN,.bh]:=⟨_,rfl⟩;have o1:Og h h1 []:=by rw[cC];exact(Og.refl _ _).new _ _
 have x1:h1.nx=h.nx+1:=by rw[cC];rfl
 have kb1:=jn.new h;rw[←cC]at kb1;have c81:=kc c8 o1 l8 (by simp);refine rN ?_ (V F2<|V cC.symm<|V t8<|c81);refine((keys2C h1 ro).call P).mono P ?_;rintro _ _ ⟨rfl,rfl⟩;refine rN ?_ (F2);have bk1:=bk.bU o1;have hML:M.length≤S.length:=by
  have h1:=bk.nd;have h2:(M.map (·.1))⊆S.map (·.kv.key):=fun k hk=>by
   obtain⟨x,hx,e⟩:=(bk.ky k).1 hk;exact List.mem_map.2 ⟨x,hx,e⟩
  have:=(List.nodup_iff_pairwise_ne.1 h1);have h3:=List.Nodup.length_le_of_subset h1 h2;simpa using h3
 refine SC bk1.mp bk.nd (by omega) (fun p hp=>by
  obtain⟨x,Gb,e⟩:=(bk.ky p.1).1 (List.mem_map.2 ⟨p,hp,rfl⟩);have:=(hx x Gb).2.1;rw[←e];omega) (fun va h5 g5 o5=>?_)
 obtain⟨ks,OV⟩:∃ks,ks=fJ (M.map (·.1)):=⟨_,rfl⟩;have hkl:ks.length=M.length:=by rw[OV,(fe _).length_eq,al]
 have nd:ks.Nodup:=by rw[OV];exact(fe _).nodup_iff.2 bk.nd
 have hkm:∀k,k∈ks→∃x,x∈S∧x.kv.key=k:=fun k hk=>by rw[OV,(fe _).mem_iff]at hk;exact(bk.ky k).1 hk
 rw[←OV,←hkl]at g5;rw[←OV]at hK;have x5:=o5.1.1;have gs:=g5.slice;have hlen:=gs.len (P:=P) Ri;have j7:=g5.one;have kb5:=(kb1.bU o5).base2 (base2:=h5.nx) (by omega);have o15:=o1.t o5;have bk5:=bk1.bU o5;have c85:=kc c81 o5 (by omega) (by simp);have cl:∀x,x∈S→0<(gq x).length∧(gq x).length≤200:=fun x Gb=>by obtain⟨q1,q2,q3⟩:=hx x Gb;exact Cs q1 q2 q3
 have tot:∀i,((ks.take i).flatMap fun k=>kA (tx k S)).length≤400*200:=fun i=>by
  have:=Vs (ks.take i) S 200 (fun x Gb=>(cl x Gb).2) (nd.sublist (List.take_sublist _ _));have :S.length*200≤400*200:=aai _ hS;omega
 refine rN ?_ (V F2<|V hlen<|j7);refine cn (fun m ds' tm h'=>∃i a w,HashI h5 b8 h.nx ro va ks S m ds' ds tm h' i a w) ks.length rfl ⟨0,.cN,.bh,rfl,rfl,aw _,by exact sT,by exact sT,by exact sT,by exact sT,by exact sT,kb5,⟨ao _,fun _ _ _=>rfl,rfl⟩,fun _=>rfl⟩ (fun m ds' tm h' hI=>?_);clear t8;obtain⟨i,a,w,rfl,rfl,ii,t8,t11,t54,t55,t56,bu,bf,wn⟩:=hI;have xn:=bf.nx;have c8':cellAt h' b8 0=some (.map ro):=by rw[bo (bf.old b8 (by omega) (by omega))];exact c85
 by_cases hi:i<ks.length
 ·have di:decide (i<ks.length)=true:=decide_eq_true hi
  have dX:(i<ks.length)=True:=by simp[hi]
  obtain⟨k,hk⟩:∃k,ks[i]? =some k:=⟨_,an hi⟩;have sl':br h' va ks.length (strs ks):=gs.move xn (fun d e=>bf.old d (g5.base e).2 (by have:=(g5.base e).1;omega));obtain⟨bv,ov,cv,rfl,qw,-⟩:=sl'.place (by omega);have q0:=nQ sl' hk;have w1:bV .i64 (ak i+ak 1)=ak (i+1):=cq (by omega);have rl:=bk.rl;have bk':Ng h' lo ro M S:=bk.get (by omega) (fun c _ hc=>by rw[bf.old c (by omega) (by omega),o15.1.2 c hc (by simp)]);have lk:=Nh bk'.mp k;have gw:=bk'.row k;obtain⟨w0,hw0⟩:∃w,w=(gU k M).getD .bh:=⟨_,rfl⟩;rw[←hw0]at lk gw;have WW:=gw.one;obtain⟨x,hxS,hxk⟩:=hkm k (aB hk);have tl:(tx k S).length≤S.length:=by unfold tx;rw[al];exact aG _ _
  have tp:0<(tx k S).length:=by
   unfold tx;rw[al];exact List.length_pos_of_mem (List.mem_filter.2 ⟨hxS,decide_eq_true hxk⟩)
  have tne:∀t,t∈tx k S→t≠[]:=fun t ht=>by
   unfold tx at ht;obtain⟨y,hy,rfl⟩:=List.mem_map.1 ht;exact List.length_pos_iff.1 (cl y (List.mem_filter.1 hy).1).1
  have tz:(tx k S).flatten.length≤400*200:=by
   rw[Gp];have:=zE (f:=gq) (k:=200) (l:=S.filter fun x=>decide (x.kv.key=k)) (fun y hy=>(cl y (List.mem_filter.1 hy).1).2);have:=aG (fun x:Rec=>decide (x.kv.key=k)) S;omega
  refine rN ?_ (V F2<|V t8<|V t11<|V t54<|V t55<|V t56<|V di<|V dX<|V q0<|V c8'<|V @fb<|V lk<|V WW<|ez);refine((joinC h' lo w0 (tx k S) gw tp tne (by omega) (by omega)).call P).mono P ?_;rintro _ h6 ⟨rfl,o6⟩;have bu6:=bu.bU o6;have bf6:=bf.og o6 xn;have x6:=bf6.nx;have t1:=tot i;have t2:=tot (i+1);have jV:((ks.take (i+1)).flatMap fun k=>kA (tx k S))=((ks.take i).flatMap fun k=>kA (tx k S))++kA (tx k S):=by rw[aH,hk,aaj];simp
  rw[jV,aq]at t2;refine rN ?_ (V F2<|V t8<|V t11<|V t54<|V t55<|t56);refine((Gn h6 h5.nx h.nx a w _ bu6 x6 (kA (tx k S)) (by omega)).call P).mono P ?_;rintro _ h7 ⟨rfl,f7,w7,k7⟩;rw[←jV]at k7;refine rN ?_ (V F2<|V t8<|V t11<|V t54<|V t55<|V t56<|w1);exact⟨ks.length-(i+1),by omega,i+1,.ptr h.nx 0,w7,rfl,rfl,by omega,by exact sT,by exact sT,by exact sT,by exact sT,by exact sT,k7,bf6.t f7,fun e=>by omega⟩
 ·have di:decide (i<ks.length)=false:=decide_eq_false hi
  obtain rfl:i=ks.length:=by omega
  have tt:=tot ks.length;rw[au]at bu tt;have dH:w= .bh∨(ks.flatMap fun k=>kA (tx k S))≠[]:=by
   cases hc:ks with
   |nil=>rw[hc]at wn;exact .inl (wn rfl)
   | cons k ks'=>
    refine .inr fun e=>?_;rw[aA,List.append_eq_nil_iff]at e;obtain⟨x,hxS,hxk⟩:=hkm k (by rw[hc];simp);have tI:gq x∈tx k S:=by unfold tx;exact List.mem_map.2 ⟨x,List.mem_filter.2 ⟨hxS,decide_eq_true hxk⟩,rfl⟩
    have h0:(tx k S).flatten.length=0:=by
     have:=congrArg List.length e.1;unfold kA at this;split at this
     ·exact this
     ·unfold yR at this;rw[al]at this;exact this
    have h1:=List.length_eq_zero_iff.1 h0;rw[List.flatten_eq_nil_iff]at h1;have:=(cl x hxS).1;rw[h1 _ tI]at this;cases this
  refine rN ?_ (V F2<|V t8<|V t11<|V t54<|V t55<|V t56<|di);refine((Nf h' h5.nx h.nx a w _ bu (by omega) dH).call P).mono P ?_;rintro _ h8 ⟨rfl,x8,g8,old8⟩;obtain⟨s,hs⟩:∃s,s=yR (ks.flatMap fun k=>kA (tx k S)):=⟨_,rfl⟩;have sl8:s.length≤400*200:=by rw[hs];unfold yR;rw[al];exact tt
  have hsum:um [s].flatten=um ((yQ ks S).flatMap gq):=by
   rw[←SK,←hs];simp
  rw[←hs];obtain⟨h9,wH⟩:∃h9,h9=h8.bq 9 [.str s]:=⟨_,rfl⟩;have o9:Og h8 h9 []:=by rw[wH];exact(Og.refl _ _).new _ _
  have sl9:br h9 (.slice h8.nx 0 1 (.exact 1)) 1 (strs [s]):=.cell h8.nx 0 1 _ _ (by rw[wH];exact aJ _) (by rw[wH];exact bj.new _ _ _);refine rN ?_ (V F2<|wH.symm);refine((crcC h9 _ [s] sl9 (by simp) (fun t ht=>by rw[aan]at ht;subst ht;omega)).call P).mono P ?_;rintro _ h10 ⟨rfl,o10⟩;rw[hsum];refine rN ?_ (F2);refine hK _ h10 (by exact sT) ⟨⟨by have:=o9.1.1;have:=o10.1.1;omega,fun d hd _=>?_⟩,by rw[o10.2,o9.2,g8,bf.g,o15.2]⟩;have y9:=o9.1.1;rw[o10.1.2 d (by omega) (by simp),o9.1.2 d (by omega) (by simp),old8 d (fun e=>by have:=(bu.gw.base d e).1;omega),bf.old d (by omega) (by omega),o15.1.2 d hd (by simp)]
theorem hashC(h0:H)(bm:Nat)(L:List Rec)(n rv rev cp:Nat)(v:AV)(md:l_ h0 bm L rev cp v)(nv:∀c,bA v=some c→c<h0.nx)(main c:Nat)(hs:qA n rv L)(hn:n≤200)(hr:rv≤1000):
  bW P (.enter 16 [.ptr bm 0,.int .u64 (.ofNat main),.int .u64 (.ofNat c)] h0) (cQ h0 (.int .u32 (.ofNat (um ((kP main c L L).flatMap gq))))):=by
 have hlL:L.length≤400:=by have:=hs.ln;omega
 have hx:∀x,x∈L→(uq x).ok∧x.kv.key.length≤60∧x.kv.val.length≤60:=fun x hx=>Nd (hs.nm x hx) (by omega) hr;obtain⟨h1,cC⟩:∃h1,h1=h0.bq 29 [.int .u64 (.ofNat c)]:=⟨_,rfl⟩;have o1:Og h0 h1 []:=by rw[cC];exact(Og.refl _ _).new _ _
 have x1:h1.nx=h0.nx+1:=by rw[cC];rfl
 have c5:cellAt h1 h0.nx 0=some (.int .u64 (.ofNat c)):=by rw[cC,bJ,if_pos rfl];rfl
 have Cd:=md.lt;have KT:=md.bU o1.1.1 (o1.1.2 bm Cd (by simp)) (fun d e=>o1.1.2 d (nv d e) (by simp));refine bn (fn:=Tryz.f16) (c:=bD Tryz.f16) Tryz.func16 rfl ?_;show bB P 16 69 none _ _ _ _ _;refine bp ?_;refine rN ?_ (V F2<|V cC.symm<|c5);refine((atC h1 bm c L v KT.lt KT.c0 KT.sl (by omega) (fun d e=>by have:=nv d e;omega)).call P).mono P ?_;rintro _ h2 ⟨rk,rfl,hrk,o2,m2⟩;have x2:=o2.1.1;obtain⟨h3,cB⟩:∃h3,h3=(h2.bq 78 [.dB]).cm h2.nx 0 [.map rk]:=⟨_,rfl⟩;have o3:Og h2 h3 []:=by rw[cB];exact((Og.refl _ _).new _ _).cm (.inr (ao _))
 have x3:h3.nx=h2.nx+1:=by rw[cB,bI,dt]
 have c7:cellAt h3 h2.nx 0=some (.map rk):=by rw[cB,b_ (by rw[cY,if_pos rfl]),if_pos ⟨rfl,ao _,by simp⟩];rfl
 obtain⟨h4,dm⟩:∃h4,h4=h3.alloc (.map [] 0):=⟨_,rfl⟩;have o4:Og h3 h4 []:=by rw[dm];exact(Og.refl _ _).alloc _
 have x4:h4.nx=h3.nx+1:=by rw[dm];rfl
 have m4:fu encS h4 h3.nx []:=by rw[dm];exact FX h3 encS
 obtain⟨h5,eL⟩:∃h5,h5=(h4.bq 84 [.dB]).cm h4.nx 0 [.map h3.nx]:=⟨_,rfl⟩;have o5:Og h4 h5 []:=by rw[eL];exact((Og.refl _ _).new _ _).cm (.inr (ao _))
 have x5:h5.nx=h4.nx+1:=by rw[eL,bI,dt]
 have c8:cellAt h5 h4.nx 0=some (.map h3.nx):=by rw[eL,b_ (by rw[cY,if_pos rfl]),if_pos ⟨rfl,ao _,by simp⟩];rfl
 have z78:cellAt (h2.bq 78 [.dB]) h2.nx 0=some .dB:=by rw[bJ,if_pos rfl];rfl
 have z84c:cellAt (h4.bq 84 [.dB]) h4.nx 0=some .dB:=by rw[bJ,if_pos rfl];rfl
 have UQ:=o4.t o5;have o25:=o3.t UQ;have o15:=o2.t o25;have F_:=o1.t o15;have c55:=kc c5 o15 (by omega) (by simp);have c75:=kc c7 UQ (by omega) (by simp);have mx:=Vt main c;refine rN ?_ (V F2<|V c5<|V z78<|V cB.symm<|V mk84<|V dm.symm<|V z84c<|V eL.symm<|V c55<|mx);refine((Rf h5 bm (max main c)).call P).mono P ?_;rintro _ h6 ⟨rfl,kO⟩;have o6:Og h5 h6 []:=by rw[kO];exact((Og.refl _ _).new _ _).new _ _
 have x6:h6.nx=h5.nx+2:=by rw[kO,dt,dt]
 have q1:cellAt h6 h5.nx 0=some (.ptr bm 0):=by rw[kO,bJ,if_neg (by rw[dt];omega),bJ,if_pos rfl];rfl
 have q2:cellAt h6 (h5.nx+1) 0=some (.int .u64 (.ofNat (max main c))):=by rw[kO,bJ,if_pos (by rw[dt])];rfl
 have o06:=F_.t o6;have m2l:=m2.lt;have kB:HaB h6 h3.nx rk h0.nx h2.nx h4.nx (dg c L) c:=⟨by omega,by omega,by omega,⟨by omega,by omega⟩,⟨by omega,by omega⟩,⟨by omega,by omega⟩,kc c55 o6 (by omega) (by simp),kc c75 o6 (by omega) (by simp),kc c8 o6 (by omega) (by simp),m2.bU (o25.t o6).1 (by simp)⟩;refine rN ?_ (F2);refine loopAC h6 h3.nx rk h0.nx h2.nx h4.nx h5.nx (h5.nx+1) bm (dg c L) c (max main c) kB v L hlL hx [] _ _ (by exact sT) (by exact sT) (by exact sT) (by exact sT) (m4.bU (o5.t o6).1 (by simp)) q1 q2 (kc md.c0 o06 Cd (by simp)) (br.only o06.1 md.sl (fun _ _=>by simp)) (by omega) (by omega) (by omega) (by omega) (fun e=>by have:=nv _ e;omega) ?_;intro h7 M j;have nx7:=j.nx;have c87:cellAt h7 h4.nx 0=some (.map h3.nx):=by rw[bo (j.old h4.nx (by omega) (by omega))];exact kB.c8
 have FA:(L.filter fun x=>decide (x.main≤max main c)&&xM (dg c L) c x)=K9 main c L L:=rfl;have bk:=j.bk;rw[FA]at bk;have hSl:(K9 main c L L).length≤400:=aQ (aG _ _) hlL;have hk:=Sf hs main c bk.nd bk.ky;refine oq ?_ (@sc [1,1,1,1,1]) (F2);refine⟨?_⟩;refine Vu h7 h3.nx (h6.nx+2) h4.nx M (K9 main c L L) bk nx7 hSl (fun x Gb=>hx x (List.mem_filter.1 Gb).1) c87 (by omega) _ _ (by exact sT) _ ?_;intro bZ h8 g6 o8;rw[←hk]at g6;have df8:h8.t.get h6.nx=some (.deferred (some [])):=by rw[o8.1.2 _ (by omega) (by simp)];exact j.df
 have x8:=o8.1.1;refine tY df8 rfl ?_
 (conv =>arg 2;whnf)
 simp only[B,xB,F,F2,ab,ae,af,ag,ah,ai, ↓reduceIte,eq_self,g6];refine⟨rfl,⟨⟨by rw[BQ];omega,fun d hd _=>?_⟩,?_⟩⟩
 ·rw[cF (by omega),o8.1.2 d (by omega) (by simp),j.old d (by omega) (by omega)];exact o06.1.2 d hd (by simp)
 ·show h8.g=h0.g
  rw[o8.2,j.g,o06.2]
theorem lH{p q r:Prop}(hq:q)(fs:r)(f:r→q→p:=by intro fs hq;(repeat' (first|((with_reducible refine gh ?_);(conv =>whnf);(with_reducible refine⟨?_⟩))|((with_reducible refine cV Y_ ?_ rfl rfl ?_);exact rfl;(conv =>arg 4;whnf);(conv =>arg 3;whnf))|((with_reducible refine bE rfl ?_);(conv =>arg 2;whnf))|((with_reducible first|refine iB ?_ ?_|refine g_ ?_ ?_|refine hP ?_ ?_|refine pL ?_ ?_|refine pM ?_ ?_)<;>intro hb<;>(try simp only[hb]))|((with_reducible show dh _ _ _ _ _ _ _ _ _);first|((with_reducible apply gM);exact rfl;exact rfl)|((with_reducible apply gN);exact rfl;exact rfl;exact rfl)|((with_reducible apply gP);exact rfl;exact rfl;kernel_rfl)|((with_reducible apply gQ);exact rfl;exact rfl;exact rfl)|((with_reducible apply gT);exact rfl;exact rfl;exact rfl)|((with_reducible apply gR);exact rfl;exact rfl;kernel_rfl;exact rfl)|((with_reducible apply gS);exact rfl;exact rfl;kernel_rfl;exact rfl)|((with_reducible refine gL ?_ ?_)))|((with_reducible show il _ _ _ _ _ _);first|(exact cK)|(refine eB ?_ ?_ ?_;exact rfl)|(apply eC;exact rfl;exact rfl)|(refine eD ?_ ?_ ?_ ?_;exact rfl;kernel_rfl)|(apply eF;exact rfl)|(apply eE;exact rfl;exact rfl))|((with_reducible refine bX ?_);kernel_rfl)|(simp only[B,xB,F,ab,ae,af,ag,ah,ai, ↓reduceIte,eq_self,fs])));exact hq):p:=f fs hq
structure RA where
 op:Op
 main:Nat
 comp:Nat
def RA.cs(x:RA):List AV:=[.int .i64 x.op.kind,.str x.op.key,.str x.op.fin,.str x.op.val,.int .u64 (.ofNat x.op.rev),.int .i64 x.op.dA,.bool x.op.count,.bool x.op.keys,.bool x.op.prev,.int .u64 (.ofNat x.main),.int .u64 (.ofNat x.comp)]
theorem RA.len(x:RA):x.cs.length=11:=rfl
theorem RA.at{h:H}{b o n:Nat}{cap:ur}{l:List RA}(sl:br h (.slice b o n cap) n (l.flatMap RA.cs)){i:Nat}{x:RA}(hx:l[i]? =some x):∀k,k<11→cellAt h b (o+(i*11+k))=x.cs[k]? :=fun k hk=>jv RA.len sl hx hk
theorem u23a:P.underlying 23=some (.slice 43):=by kernel_rfl
theorem SL(o:Op):mc [o]=[yN o]:=rfl
structure AnH(h:H)(b9 ki dZ gd:Nat)(o2:Op)(main comp:Nat)(r:nz)(k1 k2:AV):Prop where
 c9:cellAt h b9 9=some (.int .u64 (.ofNat main))
 Cw:cellAt h b9 10=some (.int .u64 (.ofNat comp))
 o1:cellAt h ki 1=some (.str o2.key)
 o2:cellAt h ki 2=some (.str o2.fin)
 r1:bj h dZ 0 (r.cs k1 .bh)
 r2:bj h gd 0 (r.cs k2 .bh)
 l:b9<h.nx∧ki<h.nx∧dZ<h.nx∧gd<h.nx
 s1:br h k1 r.rM.length (r.rM.flatMap KV.cs)
 s2:br h k2 r.rM.length (r.rM.flatMap KV.cs)
theorem AnH.bU{h h':H}{b9 ki dZ gd:Nat}{o2:Op}{main comp:Nat}{r:nz}{k1 k2:AV}(a:AnH h b9 ki dZ gd o2 main comp r k1 k2)(o:Og h h' []):AnH h' b9 ki dZ gd o2 main comp r k1 k2:=
 ⟨kc a.c9 o a.l.1 (by simp),kc a.Cw o a.l.1 (by simp),kc a.o1 o a.l.2.1 (by simp),kc a.o2 o a.l.2.1 (by simp),gC a.r1 o a.l.2.2.1 (by simp),gC a.r2 o a.l.2.2.2 (by simp),⟨aD a.l.1 o.1.1,aD a.l.2.1 o.1.1,aD a.l.2.2.1 o.1.1,aD a.l.2.2.2 o.1.1⟩,a.s1.only o.1 (fun _ _=>by simp),a.s2.only o.1 (fun _ _=>by simp)⟩
theorem OP(h0 h:H)(bm iq b n:Nat)(L:List Rec)(rev cp:Nat)(v v2:AV)(hh:R3 h0 h bm iq b n L rev cp v v2)(hn:n≤180)(Vv:rev≤31)(hs:qA n rev L)(b9 ki dZ gd:Nat)(o2:Op)(main comp:Nat)(r:nz)(er:Nat)(k1 k2:AV)(hr:r.rM.length≤1000000∧r.prev=[])(a:AnH h b9 ki dZ gd o2 main comp r k1 k2)
  (tm:T AV)(t5:tm.get 5=some (.ptr bm 0))(t6:tm.get 6=some (.ptr iq 0))(t9:tm.get 9=some (.ptr b9 0))(t10:tm.get 10=some (.ptr ki 0))(t11:tm.get 11=some (.ptr dZ 0))(t12:tm.get 12=some (.int .i64 (.ofNat er)))(t13:tm.get 13=some (.ptr gd 0))(t14:tm.get 14=some (.int .i64 (.ofNat er)))(K:KQ)
  (hK:∀bZ h2,(∀j,j<9→bZ.get j=tm.get j)→Og h h2 []→K .norm [] bZ h2):
  bB P 3 149 none (bL (bD Tryz.f3) [1,1,1,1,0,0,1,0,0,1,0,1,1,1,1]) [] tm h K:=by
 have hlL:L.length≤400:=by have:=hs.ln;omega
 have nv:∀{h':H},R3 h0 h' bm iq b n L rev cp v v2→∀c,bA v=some c→c<h'.nx:=fun w c e=>(w.gv.base e).2;obtain⟨y0,y1,y2,y3,y4⟩:=a.r1.u5;obtain⟨z0,z1,z2,z3,z4⟩:=a.r2.u5;have ko1:=cH a.s1;have ko2:=cH a.s2;obtain⟨c9,Cw,p1,p2⟩:cellAt h b9 9=some (.int .u64 (.ofNat main))∧cellAt h b9 10=some (.int .u64 (.ofNat comp))∧cellAt h ki 1=some (.str o2.key)∧cellAt h ki 2=some (.str o2.fin):=⟨a.c9,a.Cw,a.o1,a.o2⟩;have sr:=RS h r k1 .bh k2 .bh a.s1 a.s2 (by rw[hr.2];exact .none) (by rw[hr.2];exact .none) ⟨hr.1,by rw[hr.2];exact aw _⟩;unfold nz.cs at sr;refine lH ?_ (V t5<|V t6<|V t9<|V t10<|V t11<|V t12<|V t13<|V t14<|V c9<|V Cw<|V p1<|V p2<|V y0<|V y1<|V y2<|V y3<|V y4<|V z0<|V z1<|V z2<|V z3<|V z4<|V ko1<|ko2);have A0:=a;have H0:=hh;have er0:(ak er != ak er)=false:=by simp
 refine((sr).call P).mono P ?_;rintro _ h1 ⟨rfl,o1⟩;have A1:=A0.bU o1;have H1:=H0.bU o1;obtain⟨Vw,Gq,Sh,Vx⟩:cellAt h1 b9 9=some (.int .u64 (.ofNat main))∧cellAt h1 b9 10=some (.int .u64 (.ofNat comp))∧cellAt h1 ki 1=some (.str o2.key)∧cellAt h1 ki 2=some (.str o2.fin):=⟨A1.c9,A1.Cw,A1.o1,A1.o2⟩;refine lH ?_ (V t5<|V t6<|V t9<|V t10<|V t11<|V t12<|V t13<|V t14<|V c9<|V Cw<|V p1<|V p2<|V Vw<|V Gq<|V Sh<|V Vx<|V @aW<|er0);refine((foldC h1 bm L rev cp v H1.md (nv H1) main hs.sh (by omega)).call P).mono P ?_;rintro w2 h2 ⟨Wr,g2⟩;have A2:=A1.bU Wr;have H2:=H1.bU Wr;obtain⟨W5,Jp,I8,W6⟩:cellAt h2 b9 9=some (.int .u64 (.ofNat main))∧cellAt h2 b9 10=some (.int .u64 (.ofNat comp))∧cellAt h2 ki 1=some (.str o2.key)∧cellAt h2 ki 2=some (.str o2.fin):=⟨A2.c9,A2.Cw,A2.o1,A2.o2⟩;have g2o:=g2.one;refine lH ?_ (V t5<|V t6<|V t9<|V t10<|V t11<|V t12<|V t13<|V t14<|V c9<|V Cw<|V p1<|V p2<|V Vw<|V Gq<|V Sh<|V Vx<|V W5<|V Jp<|V I8<|V W6<|g2o);refine((rFoldC h2 iq b L rev cp v2 H2.s H2.km main hs.sh (by omega)).call P).mono P ?_;rintro w3 h3 ⟨o3,g3⟩;have A3:=A2.bU o3;have H3:=H2.bU o3;obtain⟨c93,Lf,p13,p23⟩:cellAt h3 b9 9=some (.int .u64 (.ofNat main))∧cellAt h3 b9 10=some (.int .u64 (.ofNat comp))∧cellAt h3 ki 1=some (.str o2.key)∧cellAt h3 ki 2=some (.str o2.fin):=⟨A3.c9,A3.Cw,A3.o1,A3.o2⟩;have S3:=g3.one;have g23:=g2.slice.only o3.1 (fun _ _=>by simp);have fl:=Oz (main:=main) hs.sh;refine lH ?_ (V t5<|V t6<|V t9<|V t10<|V t11<|V t12<|V t13<|V t14<|V c9<|V Cw<|V p1<|V p2<|V Vw<|V Gq<|V Sh<|V Vx<|V W5<|V Jp<|V I8<|V W6<|V c93<|V Lf<|V p13<|V p23<|V g2o<|S3);refine((F4 h3 w2 w3 (ET main L) g23 g3.slice (by omega)).call P).mono P ?_;rintro _ h4 ⟨rfl,o4⟩;have A4:=A3.bU o4;have H4:=H3.bU o4;obtain⟨c94,OQ,p14,p24⟩:cellAt h4 b9 9=some (.int .u64 (.ofNat main))∧cellAt h4 b9 10=some (.int .u64 (.ofNat comp))∧cellAt h4 ki 1=some (.str o2.key)∧cellAt h4 ki 2=some (.str o2.fin):=⟨A4.c9,A4.Cw,A4.o1,A4.o2⟩;refine lH ?_ (V t5<|V t6<|V t9<|V t10<|V t11<|V t12<|V t13<|V t14<|V c9<|V Cw<|V p1<|V p2<|V Vw<|V Gq<|V Sh<|V Vx<|V W5<|V Jp<|V I8<|V W6<|V c93<|V Lf<|V p13<|V p23<|V c94<|V OQ<|V p14<|V p24<|@aW);refine((hashC h4 bm L n rev rev cp v H4.md (nv H4) main comp hs (by omega) (by omega)).call P).mono P ?_;rintro _ h5 ⟨rfl,o5⟩;have A5:=A4.bU o5;have H5:=H4.bU o5;obtain⟨c95,SM,p15,p25⟩:cellAt h5 b9 9=some (.int .u64 (.ofNat main))∧cellAt h5 b9 10=some (.int .u64 (.ofNat comp))∧cellAt h5 ki 1=some (.str o2.key)∧cellAt h5 ki 2=some (.str o2.fin):=⟨A5.c9,A5.Cw,A5.o1,A5.o2⟩;refine lH ?_ (V t5<|V t6<|V t9<|V t10<|V t11<|V t12<|V t13<|V t14<|V c9<|V Cw<|V p1<|V p2<|V Vw<|V Gq<|V Sh<|V Vx<|V W5<|V Jp<|V I8<|V W6<|V c93<|V Lf<|V p13<|V p23<|V c94<|V OQ<|V p14<|V p24<|V c95<|V SM<|V p15<|p25);refine((rHashC h5 iq b L n rev cp v2 H5.s H5.km H5.Tb main comp hs (by omega) (by omega)).call P).mono P ?_;rintro _ h6 ⟨rfl,o6⟩;have A6:=A5.bU o6;have H6:=H5.bU o6;obtain⟨c96,Vy,p16,p26⟩:cellAt h6 b9 9=some (.int .u64 (.ofNat main))∧cellAt h6 b9 10=some (.int .u64 (.ofNat comp))∧cellAt h6 ki 1=some (.str o2.key)∧cellAt h6 ki 2=some (.str o2.fin):=⟨A6.c9,A6.Cw,A6.o1,A6.o2⟩;have eh:(ak (um ((kP main comp L L).flatMap gq)) != ak (um ((kP main comp L L).flatMap gq)))=false:=by simp
 refine lH ?_ (V t5<|V t6<|V t9<|V t10<|V t11<|V t12<|V t13<|V t14<|V c9<|V Cw<|V p1<|V p2<|V Vw<|V Gq<|V Sh<|V Vx<|V W5<|V Jp<|V I8<|V W6<|V c93<|V Lf<|V p13<|V p23<|V c94<|V OQ<|V p14<|V p24<|V c95<|V SM<|V p15<|V p25<|V c96<|V Vy<|V p16<|V p26<|eh);refine((U6 h6 bm L rev cp v H6.md (nv H6) comp main o2.key o2.fin (by omega)).call P).mono P ?_;rintro w7 h7 ⟨o7,g7⟩;have A7:=A6.bU o7;have H7:=H6.bU o7;obtain⟨c97,c107,p17,p27⟩:cellAt h7 b9 9=some (.int .u64 (.ofNat main))∧cellAt h7 b9 10=some (.int .u64 (.ofNat comp))∧cellAt h7 ki 1=some (.str o2.key)∧cellAt h7 ki 2=some (.str o2.fin):=⟨A7.c9,A7.Cw,A7.o1,A7.o2⟩;rw[ev_out hs]at g7;have wG:=g7.one;refine lH ?_ (V t5<|V t6<|V t9<|V t10<|V t11<|V t12<|V t13<|V t14<|V c9<|V Cw<|V p1<|V p2<|V Vw<|V Gq<|V Sh<|V Vx<|V W5<|V Jp<|V I8<|V W6<|V c93<|V Lf<|V p13<|V p23<|V c94<|V OQ<|V p14<|V p24<|V c95<|V SM<|V p15<|V p25<|V c96<|V Vy<|V p16<|V p26<|V c97<|V c107<|V p17<|V p27<|wG);refine((rEvC h7 iq b L rev cp v2 H7.s H7.km comp main o2.key o2.fin (by omega) (fun r hr=>⟨(hs.nm r hr).lo,by have:=(hs.nm r hr).mn;omega⟩)).call P).mono P ?_;rintro w8 h8 ⟨o8,g8⟩;have A8:=A7.bU o8;have H8:=H7.bU o8;obtain⟨c98,c108,p18,p28⟩:cellAt h8 b9 9=some (.int .u64 (.ofNat main))∧cellAt h8 b9 10=some (.int .u64 (.ofNat comp))∧cellAt h8 ki 1=some (.str o2.key)∧cellAt h8 ki 2=some (.str o2.fin):=⟨A8.c9,A8.Cw,A8.o1,A8.o2⟩;have g8o:=g8.one;have g78:=g7.slice.only o8.1 (fun _ _=>by simp);have rl:=Cp L comp main o2.key o2.fin L L.length (ao _);rw[au]at rl;refine lH ?_ (V t5<|V t6<|V t9<|V t10<|V t11<|V t12<|V t13<|V t14<|V c9<|V Cw<|V p1<|V p2<|V Vw<|V Gq<|V Sh<|V Vx<|V W5<|V Jp<|V I8<|V W6<|V c93<|V Lf<|V p13<|V p23<|V c94<|V OQ<|V p14<|V p24<|V c95<|V SM<|V p15<|V p25<|V c96<|V Vy<|V p16<|V p26<|V c97<|V c107<|V p17<|V p27<|V c98<|V c108<|V p18<|V p28<|V wG<|g8o);refine((sameEv h8 w7 w8 _ g78 g8.slice (by omega)).call P).mono P ?_;rintro _ h9 ⟨rfl,o9⟩;have A9:=A8.bU o9;have H9:=H8.bU o9;obtain⟨c99,c109,p19,p29⟩:cellAt h9 b9 9=some (.int .u64 (.ofNat main))∧cellAt h9 b9 10=some (.int .u64 (.ofNat comp))∧cellAt h9 ki 1=some (.str o2.key)∧cellAt h9 ki 2=some (.str o2.fin):=⟨A9.c9,A9.Cw,A9.o1,A9.o2⟩;refine lH ?_ (V t5<|V t6<|V t9<|V t10<|V t11<|V t12<|V t13<|V t14<|V c9<|V Cw<|V p1<|V p2<|V Vw<|V Gq<|V Sh<|V Vx<|V W5<|V Jp<|V I8<|V W6<|V c93<|V Lf<|V p13<|V p23<|V c94<|V OQ<|V p14<|V p24<|V c95<|V SM<|V p15<|V p25<|V c96<|V Vy<|V p16<|V p26<|V c97<|V c107<|V p17<|V p27<|V c98<|V c108<|V p18<|V p28<|V c99<|V c109<|V p19<|V p29<|@aW);refine hK _ h9 (fun j hj=>?_) ((((((((o1.t Wr).t o3).t o4).t o5).t o6).t o7).t o8).t o9);match j,hj with
 |0,_=>simp only[B,xB,F,ab,ae,af,ag,ah,ai, ↓reduceIte,eq_self]
 |1,_=>simp only[B,xB,F,ab,ae,af,ag,ah,ai, ↓reduceIte,eq_self]
 |2,_=>simp only[B,xB,F,ab,ae,af,ag,ah,ai, ↓reduceIte,eq_self]
 |3,_=>simp only[B,xB,F,ab,ae,af,ag,ah,ai, ↓reduceIte,eq_self]
 |4,_=>simp only[B,xB,F,ab,ae,af,ag,ah,ai, ↓reduceIte,eq_self]
 |5,_=>simp only[B,xB,F,ab,ae,af,ag,ah,ai, ↓reduceIte,eq_self]
 |6,_=>simp only[B,xB,F,ab,ae,af,ag,ah,ai, ↓reduceIte,eq_self]
 |7,_=>simp only[B,xB,F,ab,ae,af,ag,ah,ai, ↓reduceIte,eq_self]
 |8,_=>simp only[B,xB,F,ab,ae,af,ag,ah,ai, ↓reduceIte,eq_self]
structure TaJ(h0 h1:H)(vb:AV)(l:List RA)(bm iq:Nat)(m:Nat)(ds:List Nat)(tm:T AV)(h:H)(i:Nat):Prop where
 ds:ds=[]
 nn:m=8-i
 ii:i≤l.length
 i8:i≤8
 t1:tm.get 1=some vb
 t5:tm.get 5=some (.ptr bm 0)
 t6:tm.get 6=some (.ptr iq 0)
 t8:tm.get 8=some (.int .i64 (.ofNat i))
 oo:Og h1 h []
theorem SN(op:Op)(all:List KV):(fM op all).rM.length≤all.length∧(fM op all).prev=[]:=by
 unfold fM;split
 ·exact⟨aw _,rfl⟩
 ·refine⟨?_,rfl⟩
  rw[al,aab];omega
theorem Lg(op:Op)(rev main comp:Nat){L:List Rec}(hs:dI L)(hz:L.length≤400):(eP op rev main comp L).1.rM.length≤1000000∧(eP op rev main comp L).1.prev=[]:=by
 unfold eP;split
 ·split
  ·exact⟨aw _,rfl⟩
  ·split
   ·have h1:=SN op (ny (dg (atR op main) L) op.key op.fin)
    have h2:=lF (dg (atR op main) L) op.key op.fin;have h3:=lE (main:=atR op main) hs;exact⟨by simp only;omega,h1.2⟩
   ·exact⟨aw _,rfl⟩
 ·exact⟨aw _,rfl⟩
theorem OS(h0 h1:H)(vb:AV)(l:List RA)(sl:br h0 vb l.length (l.flatMap RA.cs))(bm iq b n:Nat)(L:List Rec)(rev cp:Nat)(v v2:AV)(Wq:R3 h0 h1 bm iq b n L rev cp v v2)(hn:n≤180)(Vv:rev≤31)(hs:qA n rev L)
  (tm:T AV)(t1:tm.get 1=some vb)(t5:tm.get 5=some (.ptr bm 0))(t6:tm.get 6=some (.ptr iq 0))(K:KQ)
  (hK:∀bZ h2,bZ.get 5=some (.ptr bm 0)→bZ.get 6=some (.ptr iq 0)→Og h1 h2 []→K .norm [] bZ h2):
  bB P 3 149 none (bL (bD Tryz.f3) [0,1,1,1,1]) [] tm h1 K:=by
 have hlen:=sl.len (P:=P) u23a;have vo:=cH sl;have hlL:L.length≤400:=by have:=hs.ln;omega
 refine kM ?_;refine cn (fun m ds tm h=>∃i,TaJ h0 h1 vb l bm iq m ds tm h i) 8 rfl ⟨0,rfl,rfl,aw _,by omega,by exact sT,by exact sT,by exact sT,by exact sT,Og.refl _ _⟩ (fun m ds tm h hI=>?_);clear t1 t5 t6;obtain⟨i,rfl,rfl,ii,i8,t1,t5,t6,t8,oo⟩:=hI;have hh:=Wq.bU oo;by_cases hi:i<l.length
 ·have di:decide (i<l.length)=true:=decide_eq_true hi
  have dX:(i<l.length)=True:=by simp[hi]
  by_cases h8:i<8
  ·have d8:decide (i<8)=true:=decide_eq_true h8
   obtain⟨x,hx⟩:∃x,l[i]? =some x:=⟨_,an hi⟩;have jk:=sl.only hh.oo.1 (fun _ _=>by simp);obtain⟨bv,ov,cv,rfl,qw,-⟩:=jk.place (by omega);have g:=RA.at jk hx;have q0:cellAt h bv (ov+i*11)=some (.int .i64 x.op.kind):=g 0 (by omega);have q1:cellAt h bv (ov+(i*11+1))=some (.str x.op.key):=g 1 (by omega);have q2:cellAt h bv (ov+(i*11+2))=some (.str x.op.fin):=g 2 (by omega);have q3:cellAt h bv (ov+(i*11+3))=some (.str x.op.val):=g 3 (by omega);have q4:cellAt h bv (ov+(i*11+4))=some (.int .u64 (.ofNat x.op.rev)):=g 4 (by omega);have q5:cellAt h bv (ov+(i*11+5))=some (.int .i64 x.op.dA):=g 5 (by omega);have q6:cellAt h bv (ov+(i*11+6))=some (.bool x.op.count):=g 6 (by omega);have q7:cellAt h bv (ov+(i*11+7))=some (.bool x.op.keys):=g 7 (by omega);have q8:cellAt h bv (ov+(i*11+8))=some (.bool x.op.prev):=g 8 (by omega);have q9:cellAt h bv (ov+(i*11+9))=some (.int .u64 (.ofNat x.main)):=g 9 (by omega);have q10:cellAt h bv (ov+(i*11+10))=some (.int .u64 (.ofNat x.comp)):=g 10 (by omega);have w1:bV .i64 (ak i+ak 1)=ak (i+1):=cq (by omega);obtain⟨h2,cJ⟩:∃h2,h2=(h.bq 43 [.int .i64 (.ofNat 0),.str [],.str [],.str [],.int .u64 (.ofNat 0),.int .i64 (.ofNat 0),.bool false,.bool false,.bool false,.int .u64 (.ofNat 0),.int .u64 (.ofNat 0)]).cm h.nx 0 x.cs:=⟨_,rfl⟩;have o2:Og h h2 []:=by rw[cJ];exact((Og.refl _ _).new _ _).cm (.inr (ao _))
   have x2:h2.nx=h.nx+1:=by rw[cJ,bI,dt]
   have Y2:bj h2 h.nx 0 x.cs:=by rw[cJ];exact bj.box _ _ _ _
   unfold RA.cs at cJ Y2;obtain⟨y0,y1,y2,y3,y4,y5,y6,y7,y8,y9,y10⟩:=Y2.Uv;obtain⟨h3,cB⟩:∃h3,h3=h2.bq 41 x.op.cs:=⟨_,rfl⟩;have o3:Og h2 h3 []:=by rw[cB];exact(Og.refl _ _).new _ _
   have x3:h3.nx=h2.nx+1:=by rw[cB];rfl
   have sl3:br h3 (.slice h2.nx 0 1 (.exact 1)) [x.op].length ([x.op].flatMap Op.cs):=.cell h2.nx 0 1 _ _ (by omega) (by rw[cB];simpa using bj.new h2 41 x.op.cs);unfold Op.cs at cB;refine rN ?_ (V t1<|V t5<|V t6<|V t8<|V hlen<|V vo<|V di<|V dX<|V d8<|V q0<|V q1<|V q2<|V q3<|V q4<|V q5<|V q6<|V q7<|V q8<|V q9<|V q10<|V cJ.symm<|V y0<|V y1<|V y2<|V y3<|V y4<|V y5<|V y6<|V y7<|V y8<|cB.symm);refine((Gf h3 _ [x.op] sl3).call P).mono P ?_;rintro w4 h4 ⟨o4,g4⟩;rw[SL]at g4;obtain⟨Td,ho2⟩:∃o,o=yN x.op:=⟨_,rfl⟩;rw[←ho2]at g4;obtain⟨c4,rfl⟩:=E6 g4 (by simp);obtain⟨a0,a1,a2,a3,a4,a5,a6,a7,a8⟩:=Op.at g4.slice (i:=0) (x:=Td) rfl;simp only[aap,aS]at a0 a1 a2 a3 a4 a5 a6 a7 a8;have uv:(0<[Td].length)=True:=by simp
   obtain⟨h5,eL⟩:∃h5,h5=(h4.bq 41 [.int .i64 (.ofNat 0),.str [],.str [],.str [],.int .u64 (.ofNat 0),.int .i64 (.ofNat 0),.bool false,.bool false,.bool false]).cm h4.nx 0 Td.cs:=⟨_,rfl⟩;have o5:Og h4 h5 []:=by rw[eL];exact((Og.refl _ _).new _ _).cm (.inr (ao _))
   have x5:h5.nx=h4.nx+1:=by rw[eL,bI,dt]
   have Z5:bj h5 h4.nx 0 Td.cs:=by rw[eL];exact bj.box _ _ _ _
   have Gk:=o3.t o4;have o25:=Gk.t o5;have x24:=Gk.1.1;have x25:=o25.1.1;have Y5:=gC Y2 o25 (by omega) (by simp);obtain⟨yy0,yy1,yy2,yy3,yy4,yy5,yy6,yy7,yy8,yy9,yy10⟩:=Y5.Uv;have o0:=oo.t (o2.t o25);have hh5:=Wq.bU o0;obtain⟨z0,z1,z2,z3,z4,z5,z6,z7,z8⟩:=Z5.u9;have rc:=rangeC h5 bm L rev cp v hh5.md (fun c e=>(hh5.gv.base e).2) Td x.main x.comp hs.sh (by omega);unfold Op.cs at eL rc;refine rN ?_ (V t1<|V t5<|V t6<|V t8<|V uv<|V a0<|V a1<|V a2<|V a3<|V a4<|V a5<|V a6<|V a7<|V a8<|V eL.symm<|V yy9<|V yy10<|V z0<|V z1<|V z2<|V z3<|V z4<|V z5<|V z6<|V z7<|z8);refine(rc.call P).mono P ?_;rintro u6 h6 ⟨k1,o6,hu6,g6⟩;have rl:=Lg Td rev x.main x.comp hs.sh hlL;have hu6':=hu6;obtain⟨r,hr⟩:∃r,r=eP Td rev x.main x.comp L:=⟨_,rfl⟩;rw[←hr]at g6 hu6' rl;have Ut:=g6.one;unfold nz.cs at hu6';subst hu6';have x6:=o6.1.1;obtain⟨h7,rR⟩:∃h7,h7=(h6.bq 47 [.bh,.bool false,.int .i64 (.ofNat 0),.int .i64 (.ofNat 0),.bh]).cm h6.nx 0 (r.1.cs k1 .bh):=⟨_,rfl⟩;have o7:Og h6 h7 []:=by rw[rR];exact((Og.refl _ _).new _ _).cm (.inr (ao _))
   have x7:h7.nx=h6.nx+1:=by rw[rR,bI,dt]
   have R7:bj h7 h6.nx 0 (r.1.cs k1 .bh):=by rw[rR];exact bj.box _ _ _ _
   unfold nz.cs at rR;have EN:=o6.t o7;have hh7:=hh5.bU EN;have Y7:=gC Y5 EN (by omega) (by simp);obtain⟨yz0,yz1,yz2,yz3,yz4,yz5,yz6,yz7,yz8,yz9,yz10⟩:=Y7.Uv;have Z7:=gC Z5 EN (by omega) (by simp);obtain⟨zz0,zz1,zz2,zz3,zz4,zz5,zz6,zz7,zz8⟩:=Z7.u9;have rc2:=Vf h7 iq b L rev cp v2 hh7.s hh7.km hh7.Tb Td x.main x.comp hs.sh (by omega);rw[←hr]at rc2;unfold Op.cs at rc2;refine rN ?_ (V t1<|V t5<|V t6<|V t8<|V Ut<|V rR.symm<|V yz9<|V yz10<|V zz0<|V zz1<|V zz2<|V zz3<|V zz4<|V zz5<|V zz6<|V zz7<|zz8);refine(rc2.call P).mono P ?_;rintro u8 h8 ⟨k2,o8,hu8,g8⟩;have g8o:=g8.one;unfold nz.cs at hu8;subst hu8;have x8:=o8.1.1;obtain⟨h9,wH⟩:∃h9,h9=(h8.bq 47 [.bh,.bool false,.int .i64 (.ofNat 0),.int .i64 (.ofNat 0),.bh]).cm h8.nx 0 (r.1.cs k2 .bh):=⟨_,rfl⟩;have o9:Og h8 h9 []:=by rw[wH];exact((Og.refl _ _).new _ _).cm (.inr (ao _))
   have x9:h9.nx=h8.nx+1:=by rw[wH,bI,dt]
   have R9:bj h9 h8.nx 0 (r.1.cs k2 .bh):=by rw[wH];exact bj.box _ _ _ _
   unfold nz.cs at wH;have o79:=o8.t o9;have o59:=EN.t o79;have hh9:=hh5.bU o59;have Y9:=gC Y5 o59 (by omega) (by simp);obtain⟨-,-,-,-,-,-,-,-,-,yw9,yw10⟩:=Y9.Uv;have Z9:=gC Z5 o59 (by omega) (by simp);obtain⟨-,zw1,zw2,-,-,-,-,-,-⟩:=Z9.u9;have s19:br h9 k1 _ _:=g6.slice.only (o7.t o79).1 (fun _ _=>by simp);have s29:br h9 k2 _ _:=g8.slice.only o9.1 (fun _ _=>by simp);have AN:AnH h9 h.nx h4.nx h6.nx h8.nx Td x.main x.comp r.1 k1 k2:=⟨yw9,yw10,zw1,zw2,gC R7 o79 (by omega) (by simp),R9,⟨by omega,by omega,by omega,by omega⟩,s19,s29⟩;refine oq ?_ (@sc [1,1,1,1,0,0,1,0,0,1,0,1,1,1,1]) (V t1<|V t5<|V t6<|V t8<|V g8o<|wH.symm);refine⟨?_⟩;refine OP h0 h9 bm iq b n L rev cp v v2 hh9 hn Vv hs h.nx h4.nx h6.nx h8.nx Td x.main x.comp r.1 r.2 k1 k2 rl AN _ (by exact sT) (by exact sT) (by exact sT) (by exact sT) (by exact sT) (by exact sT) (by exact sT) (by exact sT) _ ?_;intro bZ h10 e2 o10;have u1:bZ.get 1=some _:=(e2 1 (by omega)).trans (by exact sT:_=some (AV.slice bv ov l.length cv));have u5:bZ.get 5=some (.ptr bm 0):=(e2 5 (by omega)).trans (by exact sT);have u6:bZ.get 6=some (.ptr iq 0):=(e2 6 (by omega)).trans (by exact sT);have u8:bZ.get 8=some (.int .i64 (.ofNat i)):=(e2 8 (by omega)).trans (by exact sT);refine rN ?_ (V u1<|V u5<|V u6<|V u8<|w1);exact⟨8-(i+1),by omega,i+1,rfl,rfl,by omega,by omega,by exact sT,by exact sT,by exact sT,by exact sT,(o0.t o59).t o10⟩
  ·have d8:decide (i<8)=false:=decide_eq_false h8
   refine rN ?_ (V t1<|V t5<|V t6<|V t8<|V hlen<|V vo<|V di<|d8);exact hK _ h (by exact sT) (by exact sT) oo
 ·have di:decide (i<l.length)=false:=decide_eq_false hi
  refine rN ?_ (V t1<|V t5<|V t6<|V t8<|V hlen<|V vo<|di);exact hK _ h (by exact sT) (by exact sT) oo
theorem lawC(h0:H)(va vb:AV)(l:List RQ)(l2:List RA)(sl:br h0 va l.length (l.flatMap Dg))(eH:∀x,x∈l→RZ h0 x)(Rj:br h0 vb l2.length (l2.flatMap RA.cs)):bB P 3 149 none (bD Tryz.f3) [] (T.fill .e 0 [va,vb]) h0 (nc P Tryz.f3 fun v _=>v= .bool true):=by
 refine bp ?_;refine kM ?_;refine((newC h0).call P).mono P ?_;rintro _ h1 ⟨rfl,o1,KT,x1⟩;refine kM ?_;refine((rNewC h1).call P).mono P ?_;rintro _ h2 ⟨iq,b,rfl,lm,lb,Tb,n3,km,s2,o2⟩;have x2:=o2.1.1;have hh:R3 h0 h2 h0.nx iq b 0 [] 1 0 .bh .bh:=⟨KT.bU x2 (o2.1.2 _ (by omega) (by simp)) (fun c e=>by cases e),.none,s2,km,ao _,by omega,by omega,Tb,by omega,by omega,n3,(fun c e=>by cases e),(fun c e=>by cases e),mok0,o1.t o2⟩;refine Iy ?_ (@sc [0,1,1,1]);refine⟨?_⟩;refine OG h0 va vb l sl eH _ _ (by exact sT) (by exact sT) h0.nx iq b h2 (by exact sT) (by exact sT) .bh .bh hh ?_;intro Gu h3 n L rev cp v v2 hn Vv u1 u5 u6 hh3 hs;refine Iy ?_ (@sc [0,1,1,1,1]);refine⟨?_⟩;refine OS h0 h3 vb l2 Rj h0.nx iq b n L rev cp v v2 hh3 hn Vv hs Gu u1 u5 u6 _ ?_;intro tm4 h4 w5 w6 o4;have hh4:=hh3.bU o4;refine rN ?_ (V w5<|w6);refine((ZM h4 h0.nx iq b L rev cp v v2 hh4.md hh4.s hh4.km hh4.Tb (by have:=hs.ln;omega)).call P).mono P ?_;rintro _ h5 ⟨rfl,o5⟩;refine kM ?_;refine(ZQ h5).mono P ?_;rintro _ h6 ⟨rfl,o6⟩;repeat' (first|((with_reducible refine gh ?_);(conv =>whnf);(with_reducible refine⟨?_⟩))|((with_reducible refine bE rfl ?_);(conv =>arg 2;whnf))|((with_reducible first|refine iB ?_ ?_|refine g_ ?_ ?_|refine hP ?_ ?_)<;>intro hb<;>(try simp only[hb]))|(simp only[B,xB,F,ab,ae,af,ag,ah,ai, ↓reduceIte,eq_self]))
end
end Go.Proofs.YtnedigoajoflaaaGreat.M
namespace Go.AX
noncomputable section
open Go Go.RowKit
def mw(n:Nat):Value→Option AV
 | .slice (some _) 0 _=>some .dq
 |v=>Qn n v
theorem E7{n:Nat}{v:Value}{a:AV}(h:mw n v=some a):VR (lg n) a v∧a.one=true:=by
 unfold mw at h;split at h
 ·cases h;exact⟨by simp,rfl⟩
 ·exact Qo h
def zH(n:Nat):Obj→Option iI
 | .cells c _ _=>some (.cells c.size (BP .e 0 (c.toList.map (mw n))) ⟨0,0⟩ true)
 |_=>none
def nu(w:World):H:=⟨BP .e 0 (w.heap.toList.map (zH w.heap.size)),w.heap.size,0⟩
theorem xN(w:World)(b:Nat):(nu w).t.get b=(w.heap[b]?).bind (zH w.heap.size):=by
 unfold nu;simp only[tX,aC,aU];cases w.heap[b]? <;>rfl
theorem OT(w:World):HR ⟨w.heap.size,fun _=>none⟩ (lg w.heap.size) (nu w) w:=by
 have fW:∀{b:Nat}{o:iI},(nu w).t.get b=some o→b<w.heap.size:=fun{b o} hb=>by
  rw[xN]at hb;cases hx:w.heap[b]? with
  |none=>rw[hx]at hb;cases hb
  |some x=>exact(Array.getElem?_eq_some_iff.1 hx).1
 refine⟨fun b o hb _=>?_,fun b o b' o' L L' hb mz h1 h2 e=>?_,fun b hb=>?_,fun b hb=>absurd rfl hb,fun g hg=>absurd hg (Nat.not_lt_zero _)⟩
 ·have hl:=fW hb
  refine⟨⟨b,0,0⟩,by unfold lg;rw[if_pos hl],?_⟩;rw[xN]at hb;cases hx:w.heap[b]? with
  |none=>rw[hx]at hb;cases hb
  | some x=>
   rw[hx]at hb;cases x with
   | cells c t frz=>
    simp only[aaq,zH]at hb;cases hb;refine⟨c,t,frz,hx,by simp,fun i v hv=>?_,(fun h=>by cases h),(fun h=>absurd rfl h),(fun _=>rfl),(fun h=>absurd rfl h),(fun _ h=>by cases h)⟩;rw[tX,aC,aU]at hv;cases hc:c[i]? with
    |none=>rw[hc]at hv;cases hv
    |some cv=>
     rw[hc]at hv;have VF:mw w.heap.size cv=some v:=hv;obtain⟨h1,h2⟩:=E7 VF;exact⟨(Array.getElem?_eq_some_iff.1 hc).1,h2,cv,by rw[aS];exact hc,h1⟩
   |_=>cases hb
 ·unfold lg at h1 h2
  rw[if_pos (fW hb)]at h1;rw[if_pos (fW mz)]at h2;cases h1;cases h2;exact e
 ·unfold lg;rw[if_neg (by exact Nat.not_lt.2 hb)]
theorem Lh{w:World}{b o:Nat}{v:Value}{a:AV}(hc:w.cell? ⟨b,o,none⟩=some v)(ha:mw w.heap.size v=some a):cellAt (nu w) b o=some a:=by
 unfold World.cell? at hc;unfold cellAt;rw[xN];simp only at hc;cases hx:w.heap[b]? with
 |none=>rw[hx]at hc;cases hc
 | some x=>
  rw[hx]at hc;cases x with
  |cells c t f=>
   simp only[aaq,zH,tX,aC,aU];have :c[o]? =some v:=by simpa using hc
   rw[this];exact ha
  |_=>simp at hc
theorem zI{α:Type}{P:Program}{K:Type}{enc:TypeId×Value→K}{w:World}{t e:TypeId}{size:Nat}(ht:P.underlying t=some (.slice e))(hc:P.cellsOf e=size)(hs:0<size)(f:α→List (Value×AV))(ok:α→Prop)(NB:∀y p,ok y→p∈f y→mw w.heap.size p.1=some p.2)
  (PG:∀(n:Nat)(cs:List Value)(x:DataW K×List MemPlace),DataW.trod enc P w 0 (fun _=>true) true n e cs=some x→∃a,ok a∧cs=(f a).map (·.1))
  {fuel:Nat}{cs:List Value}{x:DataW K×List MemPlace}(hf:DataW.trod enc P w 0 (fun _=>true) true fuel t cs=some x):
  ∃(cv:Value)(av:AV)(l:List α),cs=[cv]∧mw w.heap.size cv=some av∧br (nu w) av l.length (l.flatMap fun a=>(f a).map (·.2))∧(∀a,a∈l→ok a)∧l.length≤maxLen∧∀a,a∈l→(f a).length=size:=by
 rcases Go.Deep.open_slice ht hf with⟨rfl,_⟩|⟨a,sS,Jk,m,n,D,Pl,rfl,_,h2,h2m,hm,_,hx⟩
 ·exact⟨_,.bh,[],rfl,rfl,.none,(fun z hz=>absurd hz aV),by simp,fun z hz=>absurd hz aV⟩
 ·simp only[if_true]at hm
  have hel:∀i,i<sS→∃y,ok y∧w.cells? 0 (a.add (i*size)) size=some ((f y).map (·.1)):=fun i hi=>by
   obtain⟨mS,q1,q2⟩:=hx i (by omega);obtain⟨y,hy,rfl⟩:=PG _ _ _ q2;rw[hc]at q1;exact⟨y,hy,q1⟩
  obtain⟨l,hll,hl⟩:=yH (p:=fun i y=>ok y∧w.cells? 0 (a.add (i*size)) size=some ((f y).map (·.1))) sS hel;have eH:∀y,y∈l→ok y:=fun y hy=>by
   obtain⟨i,hi⟩:=List.mem_iff_getElem?.1 hy;exact(hl i y hi).1
  have mH:∀y,y∈l→(f y).length=size:=fun y hy=>by
   obtain⟨i,hi⟩:=List.mem_iff_getElem?.1 hy;obtain⟨_,q,_⟩:=World.cells?_some (hl i y hi).2;simpa using q
  by_cases hz:sS=0
  ·obtain rfl:l=[]:=List.length_eq_zero_iff.1 (by omega)
   subst hz;exact⟨_,.dq,[],rfl,rfl,.zero,(fun z hz=>absurd hz aV),by simp,fun z hz=>absurd hz aV⟩
  ·have yl:∀i y j,l[i]? =some y→j<size→w.cell? (a.add (i*size+j))=((f y).map (·.1))[j]? :=fun i y j hi hj=>by
    obtain⟨_,_,q⟩:=World.cells?_some (hl i y hi).2;have:=q j hj;have e:(a.add (i*size)).add j=a.add (i*size+j):=by
     unfold Addr.add;by_cases c1:i*size=0
     ·simp[c1]
     ·by_cases c2:j=0
      ·simp[c2]
      ·simp[c1,c2,Nat.add_assoc]
    rw[e]at this;exact this
   obtain⟨y0,hy0⟩:∃y,l[0]? =some y:=⟨_,an (by omega)⟩;have h0:=yl 0 y0 0 hy0 hs;have hy0l:=mH y0 (aB hy0);rw[aC,an (by omega)]at h0;have ha:a.spot=none∧a.block<w.heap.size:=by
    have hb:=World.block_lt_of_cell? w _ h0;have :(a.add (0*size+0))=a:=by simp[Addr.add]
    rw[this]at h0 hb;refine⟨?_,hb⟩;unfold World.cell? at h0;cases hx:w.heap[a.block]? with
    |none=>rw[hx]at h0;cases h0
    | some x=>
     rw[hx]at h0;cases x with
     |cells c t f=>
      simp only at h0;cases hs:a.spot with
      |none=>rfl
      |some q=>rw[hs]at h0;simp at h0
     |_=>cases h0
   obtain⟨B,o,sp⟩:=a;obtain⟨rfl,hB⟩:=ha;simp only at hB;refine⟨_,.slice B o sS (.exact Jk),l,rfl,?_,?_,eH,by omega,mH⟩
   ·obtain⟨k,rfl⟩:∃k,sS=k+1:=⟨sS-1,by omega⟩
    have e:mw w.heap.size (.slice (some ⟨B,o,none⟩) (k+1) Jk)=Qn w.heap.size (.slice (some ⟨B,o,none⟩) (k+1) Jk):=rfl;rw[e];unfold Qn;exact if_pos hB
   ·rw[hll]
    have LF:∀y,y∈l→((f y).map (·.2)).length=size:=fun y hy=>by rw[al];exact mH y hy
    refine .cell B o sS _ _ hB (fun i hi=>?_);rw[EF _ size l LF]at hi;obtain⟨q,r,rfl,hr⟩:∃q r,i=q*size+r∧r<size:=⟨i/size,i%size,by rw[Nat.mul_comm];exact(Nat.div_add_mod i size).symm,aO _ hs⟩;have hq:q<l.length:=by
     rcases Nat.lt_or_ge q l.length with e|e
     ·exact e
     ·have:=aai size e;omega
    obtain⟨y,hy⟩:∃y,l[q]? =some y:=⟨_,an hq⟩;have hym:=aB hy;have nI:=yl q y r hy hr;have hyl:=mH y hym;have e1:(⟨B,o,none⟩:Addr).add (q*size+r)=⟨B,o+(q*size+r),none⟩:=by
     unfold Addr.add;split
     ·rename_i q1;rw[q1];rfl
     ·rfl
    rw[e1,aC,an (by omega)]at nI;rw[Iq _ size l LF q r y hy hr,Lh nI (NB y _ (eH y hym) (List.getElem_mem (by omega))),aC,an (by omega)];rfl
theorem Jq{α:Type}{P:Program}{K:Type}{enc:TypeId×Value→K}{w:World}{t e:TypeId}{size:Nat}(ht:P.underlying t=some (.slice e))(hc:P.cellsOf e=size)(hs:0<size)(f:α→List (Value×AV))(ok:α→Prop)(NB:∀y p,ok y→p∈f y→mw w.heap.size p.1=some p.2)
  (PG:∀(n:Nat)(cs:List Value)(x:DataW K×List MemPlace),DataW.trod enc P w 0 (fun _=>true) true n e cs=some x→∃a,ok a∧cs=(f a).map (·.1))
  {r:Go.Reach}{b0:Nat}{v:Value}(J3:Value.okWide P w r b0 t v){d:DataW K}{ps:List MemPlace}(hd:DataW.Trod enc P w 0 (fun _=>true) true t v d ps):
  ∃(av:AV)(l:List α),VR (lg w.heap.size) av v∧br (nu w) av l.length (l.flatMap fun a=>(f a).map (·.2))∧(∀a,a∈l→ok a)∧l.length≤maxLen∧∀a,a∈l→(f a).length=size:=by
 obtain⟨fuel,hf⟩:=hd;obtain⟨a0,sS,Jk,rfl⟩:=WideShapes.okWide_slice ht J3;obtain⟨cv,av,l,h1,h2,h3,h4⟩:=zI ht hc hs f ok NB PG hf;simp[Value.cells]at h1;subst h1;exact⟨av,l,(E7 h2).1,h3,h4⟩
end
end Go.AX
namespace Go.Proofs.YtnedigoajoflaaaGreat.M
open Go Go.AX
noncomputable section
set_option maxRecDepth 100000
theorem SO:P.underlying 68=some (.struct (fieldsOf P 68)):=by kernel_rfl
theorem Gr:P.underlying 41=some (.struct (fieldsOf P 41)):=by kernel_rfl
theorem Jr:P.underlying 38=some (.struct (fieldsOf P 38)):=by kernel_rfl
theorem Li:P.underlying 29=some (.int .u64):=by kernel_rfl
theorem u3t:P.underlying 3=some (.int .i64):=by kernel_rfl
theorem u4t:P.underlying 4=some .bool:=by kernel_rfl
theorem c3t:P.cellsOf 3=1:=by kernel_rfl
theorem c4t:P.cellsOf 4=1:=by kernel_rfl
theorem c9t:P.cellsOf 9=1:=by kernel_rfl
theorem Vz:P.cellsOf 29=1:=by kernel_rfl
structure r8 where
 key:ByteArray
 np:Int
 hY:Int
 n:Nat
 val:ByteArray
def r8.n'(x:r8):iD:=⟨bytesOf x.key,x.np,x.hY,x.n,bytesOf x.val⟩
def r8.cs(x:r8):List (Value×AV):=[(.string x.key,.str (bytesOf x.key)),(.int .i64 x.np,.int .i64 x.np),(.int .i64 x.hY,.int .i64 x.hY),(.int .u64 (.ofNat x.n),.int .u64 (.ofNat x.n)),(.string x.val,.str (bytesOf x.val))]
theorem r8.P4(x:r8):x.cs.map (·.2)=x.n'.cs:=rfl
theorem r8.abs(n:Nat)(y:r8)(p:Value×AV)(h:p∈y.cs):mw n p.1=some p.2:=by
 unfold r8.cs at h;simp only[aF,aL,or_false]at h;rcases h with rfl|rfl|rfl|rfl|rfl<;>rfl
theorem VA{K:Type}{enc:TypeId×Value→K}{w:World}{b:Nat}{sp:Nat→Bool}{hd:Bool}(n:Nat)(cs:List Value)(x:DataW K×List MemPlace)(h:DataW.trod enc P w b sp hd n 68 cs=some x):∃a:r8,True∧cs=a.cs.map (·.1):=by
 obtain⟨hl,n0,y0,h0⟩:=cI (i:=0) (ty:=9) (off:=0) SO (by kernel_rfl) h;obtain⟨_,n1,y1,h1⟩:=cI (i:=1) (ty:=3) (off:=1) SO (by kernel_rfl) h;obtain⟨_,n2,y2,h2⟩:=cI (i:=2) (ty:=3) (off:=2) SO (by kernel_rfl) h;obtain⟨_,n3,y3,h3⟩:=cI (i:=3) (ty:=29) (off:=3) SO (by kernel_rfl) h;obtain⟨_,n4,y4,h4⟩:=cI (i:=4) (ty:=9) (off:=4) SO (by kernel_rfl) h;rw[c9t]at h0 h4;rw[c3t]at h1 h2;rw[Vz]at h3;rw[show P.cellsOf 68=5 by kernel_rfl]at hl;obtain⟨k,e0,_⟩:=DataW.trod_string u9s h0;obtain⟨wt,e1,_⟩:=DataW.trod_int u3t h1;obtain⟨hw,e2,_⟩:=DataW.trod_int u3t h2;obtain⟨m,e3,_⟩:=nj (k:=.u64) rfl Li h3;obtain⟨v,e4,_⟩:=DataW.trod_string u9s h4;match cs,hl with
 |[c0,c1,c2,c3,c4],_=>
  simp at e0 e1 e2 e3 e4;exact⟨⟨k,wt,hw,m,v⟩,trivial,by rw[e0,e1,e2,e3,e4];rfl⟩
structure Cz where
 kind:Int
 key:ByteArray
 fin:ByteArray
 val:ByteArray
 rev:Nat
 dA:Int
 count:Bool
 keys:Bool
 prev:Bool
def Cz.n'(x:Cz):Op:=⟨x.kind,bytesOf x.key,bytesOf x.fin,bytesOf x.val,x.rev,x.dA,x.count,x.keys,x.prev⟩
def Cz.cs(x:Cz):List (Value×AV):=[(.int .i64 x.kind,.int .i64 x.kind),(.string x.key,.str (bytesOf x.key)),(.string x.fin,.str (bytesOf x.fin)),(.string x.val,.str (bytesOf x.val)),(.int .u64 (.ofNat x.rev),.int .u64 (.ofNat x.rev)),(.int .i64 x.dA,.int .i64 x.dA),(.bool x.count,.bool x.count),(.bool x.keys,.bool x.keys),(.bool x.prev,.bool x.prev)]
theorem Cz.P4(x:Cz):x.cs.map (·.2)=x.n'.cs:=rfl
theorem Cz.abs(n:Nat)(y:Cz)(p:Value×AV)(h:p∈y.cs):mw n p.1=some p.2:=by
 unfold Cz.cs at h;simp only[aF,aL,or_false]at h;rcases h with rfl|rfl|rfl|rfl|rfl|rfl|rfl|rfl|rfl<;>rfl
theorem Lj{K:Type}{enc:TypeId×Value→K}{w:World}{b:Nat}{sp:Nat→Bool}{hd:Bool}(n:Nat)(cs:List Value)(x:DataW K×List MemPlace)(h:DataW.trod enc P w b sp hd n 41 cs=some x):∃a:Cz,True∧cs=a.cs.map (·.1):=by
 obtain⟨hl,n0,y0,h0⟩:=cI (i:=0) (ty:=3) (off:=0) Gr (by kernel_rfl) h;obtain⟨_,n1,y1,h1⟩:=cI (i:=1) (ty:=9) (off:=1) Gr (by kernel_rfl) h;obtain⟨_,n2,y2,h2⟩:=cI (i:=2) (ty:=9) (off:=2) Gr (by kernel_rfl) h;obtain⟨_,n3,y3,h3⟩:=cI (i:=3) (ty:=9) (off:=3) Gr (by kernel_rfl) h;obtain⟨_,n4,y4,h4⟩:=cI (i:=4) (ty:=29) (off:=4) Gr (by kernel_rfl) h;obtain⟨_,n5,y5,h5⟩:=cI (i:=5) (ty:=3) (off:=5) Gr (by kernel_rfl) h;obtain⟨_,n6,y6,h6⟩:=cI (i:=6) (ty:=4) (off:=6) Gr (by kernel_rfl) h;obtain⟨_,n7,y7,h7⟩:=cI (i:=7) (ty:=4) (off:=7) Gr (by kernel_rfl) h;obtain⟨_,n8,y8,h8⟩:=cI (i:=8) (ty:=4) (off:=8) Gr (by kernel_rfl) h;rw[c9t]at h1 h2 h3;rw[c3t]at h0 h5;rw[Vz]at h4;rw[c4t]at h6 h7 h8;rw[show P.cellsOf 41=9 by kernel_rfl]at hl;obtain⟨k0,e0,_⟩:=DataW.trod_int u3t h0;obtain⟨k1,e1,_⟩:=DataW.trod_string u9s h1;obtain⟨k2,e2,_⟩:=DataW.trod_string u9s h2;obtain⟨k3,e3,_⟩:=DataW.trod_string u9s h3;obtain⟨k4,e4,_⟩:=nj (k:=.u64) rfl Li h4;obtain⟨k5,e5,_⟩:=DataW.trod_int u3t h5;obtain⟨k6,e6,_⟩:=DataW.trod_bool u4t h6;obtain⟨k7,e7,_⟩:=DataW.trod_bool u4t h7;obtain⟨k8,e8,_⟩:=DataW.trod_bool u4t h8;match cs,hl with
 |[c0,c1,c2,c3,c4,c5,c6,c7,c8],_=>
  simp at e0 e1 e2 e3 e4 e5 e6 e7 e8;exact⟨⟨k0,k1,k2,k3,k4,k5,k6,k7,k8⟩,trivial,by rw[e0,e1,e2,e3,e4,e5,e6,e7,e8];rfl⟩
structure E8 where
 kind:Int
 lh:Nat
 num:Nat
 lq:Bool
 vc:Value×AV
 vt:Value×AV
 ve:Value×AV
 rev:Nat
 eO:List iD
 th:List Op
 el:List Op
def E8.n'(x:E8):RQ:=(⟨x.kind,x.lh,x.num,x.lq,x.eO,x.th,x.el,x.rev⟩,x.vc.2,x.vt.2,x.ve.2)
def E8.cs(x:E8):List (Value×AV):=[(.int .i64 x.kind,.int .i64 x.kind),(.int .u64 (.ofNat x.lh),.int .u64 (.ofNat x.lh)),(.int .u64 (.ofNat x.num),.int .u64 (.ofNat x.num)),(.bool x.lq,.bool x.lq),x.vc,x.vt,x.ve,(.int .u64 (.ofNat x.rev),.int .u64 (.ofNat x.rev))]
theorem E8.P4(x:E8):x.cs.map (·.2)=Dg x.n':=rfl
structure E8.ok(w:World)(x:E8):Prop where
 r:RZ (nu w) x.n'
 c:mw w.heap.size x.vc.1=some x.vc.2
 t:mw w.heap.size x.vt.1=some x.vt.2
 e:mw w.heap.size x.ve.1=some x.ve.2
theorem E8.abs(w:World)(y:E8)(p:Value×AV)(ok:y.ok w)(h:p∈y.cs):mw w.heap.size p.1=some p.2:=by
 unfold E8.cs at h;simp only[aF,aL,or_false]at h;rcases h with rfl|rfl|rfl|rfl|rfl|rfl|rfl|rfl
 ·rfl
 ·rfl
 ·rfl
 ·rfl
 ·exact ok.c
 ·exact ok.t
 ·exact ok.e
 ·rfl
theorem Js{α β:Type}(f:α→List (Value×AV))(g:β→List AV)(n:α→β)(h:∀x,(f x).map (·.2)=g (n x)):∀l:List α,(l.flatMap fun a=>(f a).map (·.2))=(l.map n).flatMap g
 |[]=>rfl
 |a::l=>by rw[aA,az,aA,h a,Js f g n h l]
theorem rq_dec{K:Type}{enc:TypeId×Value→K}{w:World}(n:Nat)(cs:List Value)(x:DataW K×List MemPlace)(h:DataW.trod enc P w 0 (fun _=>true) true n 38 cs=some x):∃a:E8,a.ok w∧cs=a.cs.map (·.1):=by
 obtain⟨hl,n0,y0,h0⟩:=cI (i:=0) (ty:=3) (off:=0) Jr (by kernel_rfl) h;obtain⟨_,n1,y1,h1⟩:=cI (i:=1) (ty:=29) (off:=1) Jr (by kernel_rfl) h;obtain⟨_,n2,y2,h2⟩:=cI (i:=2) (ty:=29) (off:=2) Jr (by kernel_rfl) h;obtain⟨_,n3,y3,h3⟩:=cI (i:=3) (ty:=4) (off:=3) Jr (by kernel_rfl) h;obtain⟨_,n4,y4,h4⟩:=cI (i:=4) (ty:=35) (off:=4) Jr (by kernel_rfl) h;obtain⟨_,n5,y5,h5⟩:=cI (i:=5) (ty:=36) (off:=5) Jr (by kernel_rfl) h;obtain⟨_,n6,y6,h6⟩:=cI (i:=6) (ty:=36) (off:=6) Jr (by kernel_rfl) h;obtain⟨_,n7,y7,h7⟩:=cI (i:=7) (ty:=29) (off:=7) Jr (by kernel_rfl) h;rw[c3t]at h0;rw[Vz]at h1 h2 h7;rw[c4t]at h3;rw[show P.cellsOf 35=1 by kernel_rfl]at h4;rw[show P.cellsOf 36=1 by kernel_rfl]at h5 h6;rw[show P.cellsOf 38=8 by kernel_rfl]at hl;obtain⟨k0,e0,_⟩:=DataW.trod_int u3t h0;obtain⟨k1,e1,_⟩:=nj (k:=.u64) rfl Li h1;obtain⟨k2,e2,_⟩:=nj (k:=.u64) rfl Li h2;obtain⟨k3,e3,_⟩:=DataW.trod_bool u4t h3;obtain⟨c4,a4,l4,e4,q4,s4,_⟩:=zI (size:=5) Oi (by kernel_rfl) (by omega) r8.cs (fun _=>True) (fun y p _ h=>r8.abs _ y p h) (fun n cs x h=>VA n cs x h) h4;obtain⟨c5,a5,l5,e5,q5,s5,_⟩:=zI (size:=9) vK (by kernel_rfl) (by omega) Cz.cs (fun _=>True) (fun y p _ h=>Cz.abs _ y p h) (fun n cs x h=>Lj n cs x h) h5;obtain⟨c6,a6,l6,e6,q6,s6,_⟩:=zI (size:=9) vK (by kernel_rfl) (by omega) Cz.cs (fun _=>True) (fun y p _ h=>Cz.abs _ y p h) (fun n cs x h=>Lj n cs x h) h6;obtain⟨k7,e7,_⟩:=nj (k:=.u64) rfl Li h7;rw[Js r8.cs iD.cs r8.n' r8.P4]at s4;rw[Js Cz.cs Op.cs Cz.n' Cz.P4]at s5 s6;rw[←al (f:=r8.n')]at s4;rw[←al (f:=Cz.n')]at s5 s6;match cs,hl with
 |[d0,d1,d2,d3,d4,d5,d6,d7],_=>
  simp at e0 e1 e2 e3 e4 e5 e6 e7;exact⟨⟨k0,k1,k2,k3,(c4,a4),(c5,a5),(c6,a6),k7,l4.map r8.n',l5.map Cz.n',l6.map Cz.n'⟩,⟨⟨s4,s5,s6⟩,q4,q5,q6⟩,by rw[e0,e1,e2,e3,e4,e5,e6,e7];rfl⟩
theorem VB{K:Type}{enc:TypeId×Value→K}{w:World}{r:Go.Reach}{b0:Nat}{v:Value}(J3:Value.okWide P w r b0 22 v){d:DataW K}{ps:List MemPlace}(hd:DataW.Trod enc P w 0 (fun _=>true) true 22 v d ps):
  ∃(av:AV)(l:List RQ),VR (lg w.heap.size) av v∧br (nu w) av l.length (l.flatMap Dg)∧(∀x,x∈l→RZ (nu w) x)∧l.length≤maxLen:=by
 obtain⟨av,l,h1,h2,h3,h4,_⟩:=Jq (size:=8) u22a (by kernel_rfl) (by omega) E8.cs (E8.ok w) (fun y p ok h=>E8.abs w y p ok h) (fun n cs x h=>rq_dec n cs x h) J3 hd;rw[Js E8.cs Dg E8.n' E8.P4,←al (f:=E8.n')]at h2;exact⟨av,l.map E8.n',h1,h2,(fun x hx=>by obtain⟨y,hy,rfl⟩:=List.mem_map.1 hx;exact(h3 y hy).r),by rw[al];exact h4⟩
theorem u43t:P.underlying 43=some (.struct (fieldsOf P 43)):=by kernel_rfl
structure qC where
 op:Cz
 main:Nat
 comp:Nat
def qC.n'(x:qC):RA:=⟨x.op.n',x.main,x.comp⟩
def qC.cs(x:qC):List (Value×AV):=x.op.cs++[(.int .u64 (.ofNat x.main),.int .u64 (.ofNat x.main)),(.int .u64 (.ofNat x.comp),.int .u64 (.ofNat x.comp))]
theorem qC.P4(x:qC):x.cs.map (·.2)=x.n'.cs:=rfl
theorem qC.abs(n:Nat)(y:qC)(p:Value×AV)(h:p∈y.cs):mw n p.1=some p.2:=by
 unfold qC.cs at h;rcases List.mem_append.1 h with h|h
 ·exact Cz.abs n y.op p h
 ·simp only[aF,aL,or_false]at h
  rcases h with rfl|rfl<;>rfl
theorem VC{K:Type}{enc:TypeId×Value→K}{w:World}{b:Nat}{sp:Nat→Bool}{hd:Bool}(n:Nat)(cs:List Value)(x:DataW K×List MemPlace)(h:DataW.trod enc P w b sp hd n 43 cs=some x):∃a:qC,True∧cs=a.cs.map (·.1):=by
 obtain⟨hl,n0,y0,h0⟩:=cI (i:=0) (ty:=41) (off:=0) u43t (by kernel_rfl) h;obtain⟨_,n1,y1,h1⟩:=cI (i:=1) (ty:=29) (off:=9) u43t (by kernel_rfl) h;obtain⟨_,n2,y2,h2⟩:=cI (i:=2) (ty:=29) (off:=10) u43t (by kernel_rfl) h;rw[Vz]at h1 h2;rw[show P.cellsOf 41=9 by kernel_rfl]at h0;rw[show P.cellsOf 43=11 by kernel_rfl]at hl;obtain⟨o,-,e0⟩:=Lj _ _ _ h0;obtain⟨k1,e1,_⟩:=nj (k:=.u64) rfl Li h1;obtain⟨k2,e2,_⟩:=nj (k:=.u64) rfl Li h2;match cs,hl with
 |[c0,c1,c2,c3,c4,c5,c6,c7,c8,c9,Cw],_=>
  simp at e1 e2;refine⟨⟨o,k1,k2⟩,trivial,?_⟩;unfold qC.cs;rw[aN,←e0,e1,e2];rfl
theorem SP{K:Type}{enc:TypeId×Value→K}{w:World}{r:Go.Reach}{b0:Nat}{v:Value}(J3:Value.okWide P w r b0 23 v){d:DataW K}{ps:List MemPlace}(hd:DataW.Trod enc P w 0 (fun _=>true) true 23 v d ps):
  ∃(av:AV)(l:List RA),VR (lg w.heap.size) av v∧br (nu w) av l.length (l.flatMap RA.cs):=by
 obtain⟨av,l,h1,h2,h3,h4,_⟩:=Jq (size:=11) u23a (by kernel_rfl) (by omega) qC.cs (fun _=>True) (fun y p _ h=>qC.abs _ y p h) (fun n cs x h=>VC n cs x h) J3 hd;rw[Js qC.cs RA.cs qC.n' qC.P4,←al (f:=qC.n')]at h2;exact⟨av,l.map qC.n',h1,h2⟩
end
end Go.Proofs.YtnedigoajoflaaaGreat.M
namespace Go.Proofs.YtnedigoajoflaaaGreat.modelTells
open Go.ChangeShapes Go.WideShapes Go.ChangeAt Go.RowKit
theorem own:ownKnob Tryz.prog.godebug=none:=by kernel_rfl
theorem laidOut:laidOutB Tryz.prog=true:=by kernel_rfl
theorem readable:∀t,t∈[22,23]→Tryz.prog.readableRec t=true∧t<Tryz.prog.types.size:=by
 intro t ht;simp only[aF,aL,or_false]at ht;rcases ht with rfl|rfl<;>exact⟨by kernel_rfl,of_decide_eq_true (by kernel_rfl)⟩
set_option maxRecDepth 100000 in
theorem walk(W:World)(vl vl2:AX.AV)(l:List M.RQ)(l2:List M.RA)(cl cl2:Value)(hv:AX.VR (AX.lg W.heap.size) vl cl)(Uw:AX.VR (AX.lg W.heap.size) vl2 cl2)(sl:AX.br (AX.nu W) vl l.length (l.flatMap M.Dg))(hl:∀x,x∈l→M.RZ (AX.nu W) x)(Rj:AX.br (AX.nu W) vl2 l2.length (l2.flatMap M.RA.cs)):
  Calls Tryz.prog 3 #[cl,cl2] W fun e w'=>e= .returned (.bool true)∧Below W.heap.size W w':=by
 have hw:=M.lawC (AX.nu W) vl vl2 l l2 sl hl Rj;refine(AX.AZ (fn:=Tryz.f3) (c:=AX.bD Tryz.f3) Tryz.func3 rfl hw (AX.OT W) (ao _) (cargs:= #[cl,cl2]) ⟨hv,Uw,trivial⟩).mono ?_;rintro e1 w' ⟨N',gA,cv',v,h',_,rfl,hq,_,VF,_,hb⟩;have hq:v= .bool true:=hq;subst hq;rw[AX.fa]at VF;subst VF;exact⟨rfl,hb⟩
set_option maxRecDepth 100000 in
theorem lifted(os:Os)(started:os.Started)(H:Type)(enc:TypeId×Value→H):
  ReturnsInHanded {} Tryz.checked os 3 .any (Rows.modelTellsSpec.pre6 enc Tryz.prog Tryz.f3 Rows.modelTellsRow.domain false) (Rows.modelTellsSpec.post enc Tryz.prog Tryz.f3 false true false false):=by
 refine returnsInHanded_of_change (C:=Tryz.checked) own started (by kernel_rfl) Tryz.func3
  (ChangeSpec.witness6 (enc:=enc) (C:=Tryz.checked) false ⟨#[],#[.slice none 0 0,.slice none 0 0],[]⟩ 8 (by kernel_rfl) (by kernel_rfl) (by kernel_rfl) (by kernel_rfl)) ?_
 intro W base args ds gs before SQ hW hcnd _;have hW':=hW;have fW:=hW.lt;obtain⟨p,q,hA0,hV,rfl,hfz,PM⟩:=hW;have hA:DataW.TrodAll enc Tryz.prog W 0 (fun _=>true) true Tryz.f3.params.toList args.toList ds p:=hA0;rw[Tryz.params3]at hA SQ;have hA1:=hA;obtain⟨v0,vs0,d0,ds0,p0,q0,G_,rfl,rfl,g0,r0⟩:=trodAll_cons hA;obtain⟨v1,vs1,d1,ds1,p1,q1,rfl,rfl,rfl,g1,r1⟩:=trodAll_cons r0;obtain⟨rfl,rfl,rfl⟩:=trodAll_nil r1;obtain rfl:args= #[v0,v1]:=by cases args;simp_all
 obtain⟨rfl,rfl⟩:=trodVars_none hV;obtain⟨vl,l,hv,sl,hl,_⟩:=M.VB (SQ 0 22 v0 rfl rfl) g0;obtain⟨vl2,l2,Uw,Rj⟩:=M.SP (SQ 1 23 v1 rfl rfl) g1;simp only[aX]at hW' fW;refine(walk W vl vl2 l l2 v0 v1 hv Uw sl hl Rj).mono fun e1 M' ⟨he,hb⟩=>?_;subst he;exact⟨_,rfl,_,[],_,[],_,[],hW',trodAll_cons_mk (shut_bool Tryz.underlying4 _) trodAll_mk0,AX.tD laidOut hb readable hA1 (fun p hp=>fW p (by simpa using hp)) _ (fun p hp=>decide_eq_true (fW p (by simpa using hp))),rfl,hb.frame _,fun h=>by cases h⟩
theorem over:Rows.modelTellsRow.holds Tryz.pinned (OpenSpec.ofChange Rows.modelTellsSpec):=
 OpenClaim.holds_of_wide 3 Tryz.f3 rfl rfl rfl rfl rfl rfl rfl ⟨rfl,rfl,rfl,rfl,rfl⟩ rfl rfl rfl rfl rfl (by kernel_rfl) Tryz.func3 (by kernel_rfl)
  (of_decide_eq_true (by kernel_rfl)) (by unfold Func.isWrapper;first|(rw[if_pos (by decide+kernel)];kernel_rfl)|(rw[if_neg (by decide+kernel)];exact⟨rfl,rfl⟩))
  (fun os started H enc _=>lifted os started H enc)
theorem proved:Rows.ModelTellsSaid:=over
#print axioms proved
end Go.Proofs.YtnedigoajoflaaaGreat.modelTells
