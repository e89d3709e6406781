import Derived.Test.YtfnmkbpogbekpaaGreatDoorQ8
import Derived.Deep.Upon
set_option linter.unusedVariables false
set_option linter.unusedSimpArgs false
set_option maxRecDepth 100000
set_option maxHeartbeats 32000000
namespace Go.Proofs.YtfnmkbpogbekpaaGreatDoor
open Go.RowKit
def MkT (Bd g:Nat) (o:Option LabM) (w:World) (e:Ending) (w':World):Prop:=Below Bd w w'/\((o=none/\e=.returned (.bool false))\/∃y v u,o=some y/\e=.returned (.bool true)/\Blk w' g 27 #[.bool y.1,.int .i64 y.2.1.1,v,u,.int .i64 y.2.2.2]/\LabPW Bd w' y v u/\InR y.2.1.1/\InR y.2.2.2)
noncomputable def twoL (x:qi) (j:Bool) (f h:qy):List Int:=
 if f.1=3 then(if j=false then q2d h.2.2 f.2.2 else genL x.1.toNat x.2 (f.2.2++h.2.2))else(if j=false then q4k f.2.2 h.2.2 else q69 f.2.2 h.2.2)
theorem qmv {x:LabM} {c:Int} {a b:Nat} (h:a=b\/x.2.2.1.length<=a\/x.2.2.1.length<=b):twoF x c (a:Int) (b:Int)=none:=by
 unfold twoF;rw[za5,za5]
 rcases h with rfl|h|h
 .cases x.2.2.1[a]? with
  |none=>rfl
  |some f=>simp
 .rw[zbl h]
 .rw[zbl h]
  cases x.2.2.1[a]?<;>rfl
theorem qmu {x:LabM} {j:Bool} {e:Int} {a b:Nat} {f h:qy} (c:(j=true->e=4)/\(j=false->e=3)) (i:a≠b) (g:x.2.2.1[a]?=some f) (k:x.2.2.1[b]?=some h):twoF x e (a:Int) (b:Int)=if f.1=h.1/\(f.1=3\/f.1=4)then some (f.1,([], []),twoL x.2.1 j f h)else none:=by
 have d:¬((a:Int)=(b:Int)):=by omega
 unfold twoF twoL;rw[za5,za5,g,k];show(if(a:Int)=(b:Int)\/f.1≠h.1 then none else if f.1=3 then some ((3:Int),(([]:List Int),([]:List Int)),if e=3 then q2d h.2.2 f.2.2 else genL x.2.1.1.toNat x.2.1.2 (f.2.2++h.2.2))else if f.1=4 then some (4,([], []),if e=3 then q4k f.2.2 h.2.2 else q69 f.2.2 h.2.2)else none)=_
 by_cases hk:f.1=h.1
 .rw[zaj (fun q=>q.elim d fun q=>q hk)]
  by_cases h3:f.1=3
  .rw[zam h3,zam (show f.1=h.1/\(f.1=3\/f.1=4)from⟨hk,.inl h3⟩),zam h3,h3]
   cases j with
   |false=>rw[c.2 rfl,zam rfl,zam rfl]
   |true=>rw[c.1 rfl,zaj (by decide),zaj (by decide)]
  .rw[zaj h3,zaj h3]
   by_cases h4:f.1=4
   .rw[zam h4,zam (show f.1=h.1/\(f.1=3\/f.1=4)from⟨hk,.inr h4⟩),h4]
    cases j with
    |false=>rw[c.2 rfl,zam rfl,zam rfl]
    |true=>rw[c.1 rfl,zaj (by decide),zaj (by decide)]
   .rw[zaj h4,zaj (fun q=>q.2.elim h3 h4)]
 .rw[zam (.inr hk),zaj (fun q=>hk q.1)]
theorem qkn {lo:Nat} {w:World} {K:Int} {A:Option Addr} {c:Nat} {L:List Int} (e:lo<=w.heap.size) (h:w.ownsRow lo 3 1 (.slice A L.length c) L.length (ints L)) (b:InR K) (d:∀v∈L,InR v):
  qj.own w [.int .i64 K,.slice none 0 0,.slice none 0 0,.slice A L.length c] (K,([], []),L) (obl (.slice A L.length c))/\Iv lo w.heap.size (obl (.slice A L.length c)):=by
 refine⟨⟨[_], [_,_,_], [],_,rfl,rfl,⟨_,rfl,⟨rfl,b.1,b.2⟩,rfl⟩,⟨[_,_], [_], [],_,rfl,rfl,⟨[_], [_], [], [],rfl,rfl,⟨_,rfl,⟨rfl,.inl ⟨rfl,rfl⟩⟩,fun v a=>by simp at a,rfl⟩,⟨_,rfl,⟨rfl,.inl ⟨rfl,rfl⟩⟩,fun v a=>by simp at a,rfl⟩⟩,⟨_,rfl,ql h (zah _),d,rfl⟩⟩⟩,q7g h⟩
theorem q23 {w:World} {lo c n:Nat} {e t:TypeId} {v:Value} {xs:List Value} (h:w.ownsRow lo e c v n xs) {g:Nat} {cs:Array Value} (d:Blk w g t cs) (a:e≠t) (k:Nat) (u:Value):(w.setCell ⟨g,k,none⟩ u).ownsRow lo e c v n xs:=
 q2p h fun b f=>za8 w ⟨g,k,none⟩ u b fun e=>q1s h d a (by rw[f,<-show b=g from e])
theorem qpw {x:qi} {j:Bool} {f h:qy} (e:AlgP x) (d:q1c x f=true) (k:q1c x h=true) (n:f.1=h.1) (c:f.1=3\/f.1=4):∀v∈twoL x j f h,InR v:=fun v a=>by
 have m:=e.2.1;have l:=e.1;have b:∀ {v:Int},(0<=v/\v<=(x.1.toNat:Int) - 1)->InR v:=fun h=>⟨by omega,by omega⟩
 unfold twoL at a
 rcases c with g|i
 .rw[zam g]at a
  cases j with
  |false=>exact b ((q4p d).1 v (qlj a))
  |true=>exact b (q3h v a)
 .rw[zaj (by omega)]at a
  have P:=q4x d i;have Q:=q4x k (by omega);cases j with
  | false =>
    have : q4k f.2.2 h.2.2 = _ := qao (q := h.2.2) P;rw [zam rfl, this] at a;exact b (ql7 (q8a _ _ _) v a)
  | true =>
    exact qpi (q81 P Q) (by omega) v a
theorem qn9 (B:Nat) (x:LabM) (j:Bool) (kd:Int) (hkd:(j=true->kd=4)/\(j=false->kd=3)) (a b:Nat) (w:World) (g:Nat) (v u:Value) (hB:B<=w.heap.size) (hg:B<=g) (hBl:Blk w g 27 #[.bool x.1,.int .i64 x.2.1.1,v,u,.int .i64 x.2.2.2]) (hD:LabD B w x v u) (hx:AlgP x.2.1) (hln:x.2.2.1.length<=12) (hr:0<=x.2.2.2/\x.2.2.2<=9999) (htr:∀f∈x.2.2.1,q1c x.2.1 f=true):
  Calls Tryz.prog 84 #[.pointer (some ⟨g,0,none⟩),.bool j,.int .i64 (a:Int),.int .i64 (b:Int)] w (MkT B g ((twoF x kd (a:Int) (b:Int)).map (addF x)) w):=by
 have hD0:=hD;obtain⟨css,bls,dss,cls,hPO,hPG,hap⟩:=hD;obtain⟨A1,c1,rfl⟩:=qu hPO.2.1;obtain⟨A2,c2,rfl⟩:=qu hPG.2.1;have hin:InR x.2.1.1:=⟨by have:=hx.1;omega,by have:=hx.2.1;omega⟩;have hin2:InR x.2.2.2:=⟨by omega,by omega⟩;have HIN:=zaa (zao hin hin2);obtain⟨cG0,cG1,cG2,l,cG4⟩:=cl5 hBl;have HBL:=zaa hBl;have HD:=zaa hD0;have HAX:=zaa hx;have HTR:=zaa htr;have HPG:=zaa hPG;have HPO:=zaa hPO;have HAPP:=zaa hap;have hT0:=zac w.heap.size w
 by_cases hno:a=b\/x.2.2.1.length<=a\/x.2.2.1.length<=b
 .have HM:Hid ((twoF x kd (a:Int) (b:Int)).map (addF x)=none):=by show _=_;rw[qmv hno];rfl
  clear hBl hD0 hx htr hPG hPO hap
  by_cases h1:a=b
  .subst h1
   clear hno
   go_enter Tryz.func84,Tryz.ntmps84
   go_wp2_with fail;go_ret;exact⟨zac _ _,.inl ⟨HM.out,rfl⟩⟩
  .by_cases h2:x.2.2.1.length<=a
   .clear hno
    go_enter Tryz.func84,Tryz.ntmps84
    go_wp2_with fail;go_ret;exact⟨zac _ _,.inl ⟨HM.out,rfl⟩⟩
   .have h3:x.2.2.1.length<=b:=by omega
    clear hno
    go_enter Tryz.func84,Tryz.ntmps84
    go_wp2_with fail;go_ret;exact⟨zac _ _,.inl ⟨HM.out,rfl⟩⟩
 .have hab:a≠b:=fun e=>hno (.inl e)
  have hal:a<x.2.2.1.length:=by omega
  have hbl:b<x.2.2.1.length:=by omega
  have h2:¬x.2.2.1.length<=a:=by omega
  have h3:¬x.2.2.1.length<=b:=by omega
  have ha0:(0:Int)<=(a:Int):=by omega
  have hb0:(0:Int)<=(b:Int):=by omega
  have ha1:(a:Int)<(x.2.2.1.length:Int):=by omega
  have hb1:(b:Int)<(x.2.2.1.length:Int):=by omega
  obtain⟨A',c',e',hrd⟩:=hPG.rd;injection e' with e1 e2 e3
  subst e1;obtain⟨bb,oo,vs,⟨H,⟨Lf,Rf⟩,Z⟩,hAe,-,hc,hrf,-,hfx⟩:=hrd.at hal;obtain⟨bb2,oo2,vs2,⟨kh,⟨Lh,Rh⟩,Vh⟩,hAe2,-,hc2,hrh,-,hhx⟩:=hrd.at hbl;rw[hAe]at hAe2;injection hAe2 with hAe2
  injection hAe2 with q1 q2
  subst q1;subst q2;subst hAe;obtain⟨fL,T,N,fR,U,O,fV,D,I,rfl,fk,pfL,pfR,pfV⟩:=q21 hrf;obtain⟨hL,X,V,hR,Y,W,hV,E,M,rfl,hhk,phL,phR,phV⟩:=q21 hrh;have m:w.cell? ⟨bb,oo+a*4,none⟩=some (.int .i64 H):=hc 0 _ rfl;have n:w.cell? ⟨bb,oo+a*4+1,none⟩=some (.slice fL T N):=hc 1 _ rfl;have cf2:w.cell? ⟨bb,oo+a*4+2,none⟩=some (.slice fR U O):=hc 2 _ rfl;have o:w.cell? ⟨bb,oo+a*4+3,none⟩=some (.slice fV D I):=hc 3 _ rfl;have r:w.cell? ⟨bb,oo+b*4,none⟩=some (.int .i64 kh):=hc2 0 _ rfl;have s:w.cell? ⟨bb,oo+b*4+1,none⟩=some (.slice hL X V):=hc2 1 _ rfl;have z:w.cell? ⟨bb,oo+b*4+2,none⟩=some (.slice hR Y W):=hc2 2 _ rfl;have C:w.cell? ⟨bb,oo+b*4+3,none⟩=some (.slice hV E M):=hc2 3 _ rfl;have HF1:Hid (q1c x.2.1 (H,(Lf,Rf),Z)=true/\q1c x.2.1 (kh,(Lh,Rh),Vh)=true):=⟨htr _ (zaf hfx),htr _ (zaf hhx)⟩;have HTW:Hid (twoF x kd (a:Int) (b:Int)=if H=kh/\(H=3\/H=4)then some (H,([], []),twoL x.2.1 j (H,(Lf,Rf),Z) (kh,(Lh,Rh),Vh))else none):=zaa (qmu hkd hab hfx hhx);have pfV':RdL RI w fV D Z:=pfV;have phV':RdL RI w hV E Vh:=phV;have HQF:=zaa pfV';have HQH:=zaa phV';have HFK:Hid (InR H/\InR kh):=⟨fk,hhk⟩;have i:=zaa (zao l (zao m (zao n (zao cf2 (zao o (zao r (zao s (zao z C))))))));have h:Below w.heap.size w w:=zac _ _;clear hBl hD0 hx htr hPG hPO hap hno hrd hc hc2 hrf hrh hfx hhx pfL pfR pfV phL phR phV fk hhk pfV' phV' e2 e3 hkd
  go_enter Tryz.func84,Tryz.ntmps84
  go_upto_region 3 with fail
  go_cut [9,10]from 9 to 46 (fun u9 u10 wx=>∃g9 g10,u9=.pointer (some ⟨g9,0,none⟩)/\u10=.pointer (some ⟨g10,0,none⟩)/\Blk wx g9 57 #[.int .i64 H,.slice fL T N,.slice fR U O,.slice fV D I]/\Blk wx g10 57 #[.int .i64 kh,.slice hL X V,.slice hR Y W,.slice hV E M]/\w.heap.size<=g9/\w.heap.size<=g10/\g9≠g10/\Below w.heap.size w wx)
  case first=>
   refine zca (S:=fun w'=>w'.cell? ⟨g,3,none⟩=some (.slice (some ⟨bb,oo,none⟩) x.2.2.1.length c2)/\w'.cell? ⟨bb,oo+a*4,none⟩=some (.int .i64 H)/\w'.cell? ⟨bb,oo+a*4+1,none⟩=some (.slice fL T N)/\w'.cell? ⟨bb,oo+a*4+2,none⟩=some (.slice fR U O)/\w'.cell? ⟨bb,oo+a*4+3,none⟩=some (.slice fV D I)/\w'.cell? ⟨bb,oo+b*4,none⟩=some (.int .i64 kh)/\w'.cell? ⟨bb,oo+b*4+1,none⟩=some (.slice hL X V)/\w'.cell? ⟨bb,oo+b*4+2,none⟩=some (.slice hR Y W)/\w'.cell? ⟨bb,oo+b*4+3,none⟩=some (.slice hV E M)) (by kernel_rfl) ⟨l,m,n,cf2,o,r,s,z,C⟩ (fun hHeld0=>?_);obtain⟨d,Hwt1⟩:∃x,Hid (x=World.drew w):=⟨_,rfl⟩;have hbwt1:Below w.heap.size w d:=by rw[Hwt1.out];exact(zac _ _).drew
   rw[<-Hwt1.out]at hHeld0⊢;have ywt1:=hbwt1.size;replace h:=q9 h hbwt1 rfl;have zkk:=kk9 hbwt1 l m n cf2 o r s z C;clear l m n cf2 o r s z C;obtain⟨l,m,n,cf2,o,r,s,z,C⟩:=zkk;refine tp 0 (.pointer (some ⟨g,0,none⟩)) rfl ?_;refine tp 1 (.pointer (some ⟨g,0,none⟩)) rfl ?_;refine tp 2 (.pointer (some ⟨g,3,none⟩)) rfl ?_;refine tk 3 (.slice (some ⟨bb,oo,none⟩) x.2.2.1.length c2) rfl (.inl ⟨by kernel_rfl,fun wv hSw=>by(obtain⟨hS0,hS1,hS2,hS3,hS4,hS5,hS6,hS7,hS8⟩:=hSw);go_simp⟩) ?_;refine tp 4 (.int .i64 (a:Int)) rfl ?_;refine tp 5 (.pointer (some ⟨bb,oo+a*4,none⟩)) rfl ?_;refine tk 6 (.agg #[.int .i64 H,.slice fL T N,.slice fR U O,.slice fV D I]) rfl (.inl ⟨by kernel_rfl,fun wv hSw=>by(obtain⟨hS0,hS1,hS2,hS3,hS4,hS5,hS6,hS7,hS8⟩:=hSw);go_simp⟩) ?_;refine tp 7 (.pointer (some ⟨g,0,none⟩)) rfl ?_;refine tp 8 (.pointer (some ⟨g,0,none⟩)) rfl ?_;refine tp 9 (.pointer (some ⟨g,3,none⟩)) rfl ?_;refine tk 10 (.slice (some ⟨bb,oo,none⟩) x.2.2.1.length c2) rfl (.inl ⟨by kernel_rfl,fun wv hSw=>by(obtain⟨hS0,hS1,hS2,hS3,hS4,hS5,hS6,hS7,hS8⟩:=hSw);go_simp⟩) ?_;refine tp 11 (.int .i64 (b:Int)) rfl ?_;refine tp 12 (.pointer (some ⟨bb,oo+b*4,none⟩)) rfl ?_;refine tk 13 (.agg #[.int .i64 kh,.slice hL X V,.slice hR Y W,.slice hV E M]) rfl (.inl ⟨by kernel_rfl,fun wv hSw=>by(obtain⟨hS0,hS1,hS2,hS3,hS4,hS5,hS6,hS7,hS8⟩:=hSw);go_simp⟩) ?_
   (try simp only[Act.put,zA,zB,zC,zD,zE,zF])
   refine r2 14 15 rfl (fun K hK=>?_) rfl (fun K hK=>?_)
   .go_simp
    obtain⟨F,Hwt2,hbwt2,Bwt2,zwt2⟩:=al d #[.int .i64 0,.slice none 0 0,.slice none 0 0,.slice none 0 0] 57;rw[<-Hwt2.out];have ywt2:=hbwt2.size;replace h:=q9 h hbwt2 rfl;have zkk:=kk9 hbwt2 l m n cf2 o r s z C;clear l m n cf2 o r s z C;obtain⟨l,m,n,cf2,o,r,s,z,C⟩:=zkk;refine hK.out _ _ ⟨l,m,n,cf2,o,r,s,z,C⟩ (fun hHeld1=>?_);clear hK K hHeld0
    (try simp only[Act.put,zA,zB,zC,zD,zE,zF])
    refine r1 15 rfl (fun K hK=>?_);go_simp;obtain⟨wt3,Hwt3,hbwt3,Bwt3,zwt3⟩:=al F #[.int .i64 0,.slice none 0 0,.slice none 0 0,.slice none 0 0] 57;rw[<-Hwt3.out];have ywt3:=hbwt3.size;replace h:=q9 h hbwt3 rfl;replace Bwt2:=Bwt2.next hbwt3;have zkk:=kk9 hbwt3 l m n cf2 o r s z C;clear l m n cf2 o r s z C;obtain⟨l,m,n,cf2,o,r,s,z,C⟩:=zkk;refine hK.out _ _ ⟨l,m,n,cf2,o,r,s,z,C⟩ (fun hHeld2=>?_);clear hK K hHeld1
    (try simp only[Act.put,zA,zB,zC,zD,zE,zF])
    refine r1 16 rfl (fun K hK=>?_);obtain⟨gC14_0,gC14_1,gC14_2,gC14_3,gF14_0,gF14_1,gF14_2,gF14_3⟩:=cf4 Bwt2;go_simp;obtain⟨wt4,Hwt4⟩:∃wq,Hid (wq=((((wt3.setCell ⟨d.heap.size,0,none⟩ (.int .i64 H)).setCell ⟨d.heap.size,1,none⟩ (.slice fL T N)).setCell ⟨d.heap.size,2,none⟩ (.slice fR U O)).setCell ⟨d.heap.size,3,none⟩ (.slice fV D I))):=⟨_,zaa rfl⟩;rw[<-Hwt4.out];have BFa:Blk wt4 d.heap.size 57 #[.int .i64 H,.slice fL T N,.slice fR U O,.slice fV D I]:=by rw[Hwt4.out];simpa using((((Bwt2.set_ 0 (.int .i64 H)).set_ 1 (.slice fL T N)).set_ 2 (.slice fR U O)).set_ 3 (.slice fV D I))
    have B2Bwt3:Blk wt4 F.heap.size 57 #[.int .i64 0,.slice none 0 0,.slice none 0 0,.slice none 0 0]:=by rw[Hwt4.out];exact((((Bwt3.far (p:=⟨d.heap.size,0,none⟩) (by show _≠d.heap.size;omega) (.int .i64 H)).far (p:=⟨d.heap.size,1,none⟩) (by show _≠d.heap.size;omega) (.slice fL T N)).far (p:=⟨d.heap.size,2,none⟩) (by show _≠d.heap.size;omega) (.slice fR U O)).far (p:=⟨d.heap.size,3,none⟩) (by show _≠d.heap.size;omega) (.slice fV D I))
    have Twt4:Below w.heap.size w wt4:=by rw[Hwt4.out];exact((((h.setCell (p:=⟨d.heap.size,0,none⟩) (by show _<=d.heap.size;omega) (.int .i64 H)).setCell (p:=⟨d.heap.size,1,none⟩) (by show _<=d.heap.size;omega) (.slice fL T N)).setCell (p:=⟨d.heap.size,2,none⟩) (by show _<=d.heap.size;omega) (.slice fR U O)).setCell (p:=⟨d.heap.size,3,none⟩) (by show _<=d.heap.size;omega) (.slice fV D I))
    replace h:=Twt4;replace l:=qe h i.out.1;replace m:=qe h i.out.2.1;replace n:=qe h i.out.2.2.1;replace cf2:=qe h i.out.2.2.2.1;replace o:=qe h i.out.2.2.2.2.1;replace r:=qe h i.out.2.2.2.2.2.1;replace s:=qe h i.out.2.2.2.2.2.2.1;replace z:=qe h i.out.2.2.2.2.2.2.2.1;replace C:=qe h i.out.2.2.2.2.2.2.2.2;refine hK.out _ _ ⟨l,m,n,cf2,o,r,s,z,C⟩ (fun hHeld3=>?_);clear hK K hHeld2
    (try simp only[Act.put,zA,zB,zC,zD,zE,zF])
    refine r1 17 rfl (fun K hK=>?_);obtain⟨gC15_0,gC15_1,gC15_2,gC15_3,gF15_0,gF15_1,gF15_2,gF15_3⟩:=cf4 B2Bwt3;go_simp;obtain⟨wt5,Hwt5⟩:∃wq,Hid (wq=((((wt4.setCell ⟨F.heap.size,0,none⟩ (.int .i64 kh)).setCell ⟨F.heap.size,1,none⟩ (.slice hL X V)).setCell ⟨F.heap.size,2,none⟩ (.slice hR Y W)).setCell ⟨F.heap.size,3,none⟩ (.slice hV E M))):=⟨_,zaa rfl⟩;rw[<-Hwt5.out];have BHb:Blk wt5 F.heap.size 57 #[.int .i64 kh,.slice hL X V,.slice hR Y W,.slice hV E M]:=by rw[Hwt5.out];simpa using((((B2Bwt3.set_ 0 (.int .i64 kh)).set_ 1 (.slice hL X V)).set_ 2 (.slice hR Y W)).set_ 3 (.slice hV E M))
    have B2BFa:Blk wt5 d.heap.size 57 #[.int .i64 H,.slice fL T N,.slice fR U O,.slice fV D I]:=by rw[Hwt5.out];exact((((BFa.far (p:=⟨F.heap.size,0,none⟩) (by show _≠F.heap.size;omega) (.int .i64 kh)).far (p:=⟨F.heap.size,1,none⟩) (by show _≠F.heap.size;omega) (.slice hL X V)).far (p:=⟨F.heap.size,2,none⟩) (by show _≠F.heap.size;omega) (.slice hR Y W)).far (p:=⟨F.heap.size,3,none⟩) (by show _≠F.heap.size;omega) (.slice hV E M))
    have Twt5:Below w.heap.size w wt5:=by rw[Hwt5.out];exact((((h.setCell (p:=⟨F.heap.size,0,none⟩) (by show _<=F.heap.size;omega) (.int .i64 kh)).setCell (p:=⟨F.heap.size,1,none⟩) (by show _<=F.heap.size;omega) (.slice hL X V)).setCell (p:=⟨F.heap.size,2,none⟩) (by show _<=F.heap.size;omega) (.slice hR Y W)).setCell (p:=⟨F.heap.size,3,none⟩) (by show _<=F.heap.size;omega) (.slice hV E M))
    replace h:=Twt5;replace l:=qe h i.out.1;replace m:=qe h i.out.2.1;replace n:=qe h i.out.2.2.1;replace cf2:=qe h i.out.2.2.2.1;replace o:=qe h i.out.2.2.2.2.1;replace r:=qe h i.out.2.2.2.2.2.1;replace s:=qe h i.out.2.2.2.2.2.2.1;replace z:=qe h i.out.2.2.2.2.2.2.2.1;replace C:=qe h i.out.2.2.2.2.2.2.2.2;refine hK.out _ _ ⟨l,m,n,cf2,o,r,s,z,C⟩ (fun hHeld4=>?_);clear hK K hHeld3
    (try simp only[Act.put,zA,zB,zC,zD,zE,zF])
    refine zcf (by kernel_rfl) ?_ _;go_wp2_with fail;go_meet;exact⟨_,_,rfl,rfl,B2BFa,BHb,by omega,by omega,by omega,h⟩
   .go_simp
    obtain⟨G,Hwt6,hbwt6,Bwt6,zwt6⟩:=al d #[.int .i64 0,.slice none 0 0,.slice none 0 0,.slice none 0 0] 57;rw[<-Hwt6.out];have ywt6:=hbwt6.size;replace h:=q9 h hbwt6 rfl;have zkk:=kk9 hbwt6 l m n cf2 o r s z C;clear l m n cf2 o r s z C;obtain⟨l,m,n,cf2,o,r,s,z,C⟩:=zkk;refine hK.out _ _ ⟨l,m,n,cf2,o,r,s,z,C⟩ (fun hHeld1=>?_);clear hK K hHeld0
    (try simp only[Act.put,zA,zB,zC,zD,zE,zF])
    refine r1 14 rfl (fun K hK=>?_);go_simp;obtain⟨wt7,Hwt7,hbwt7,Bwt7,zwt7⟩:=al G #[.int .i64 0,.slice none 0 0,.slice none 0 0,.slice none 0 0] 57;rw[<-Hwt7.out];have ywt7:=hbwt7.size;replace h:=q9 h hbwt7 rfl;replace Bwt6:=Bwt6.next hbwt7;have zkk:=kk9 hbwt7 l m n cf2 o r s z C;clear l m n cf2 o r s z C;obtain⟨l,m,n,cf2,o,r,s,z,C⟩:=zkk;refine hK.out _ _ ⟨l,m,n,cf2,o,r,s,z,C⟩ (fun hHeld2=>?_);clear hK K hHeld1
    (try simp only[Act.put,zA,zB,zC,zD,zE,zF])
    refine r1 16 rfl (fun K hK=>?_);obtain⟨gC14_0,gC14_1,gC14_2,gC14_3,gF14_0,gF14_1,gF14_2,gF14_3⟩:=cf4 Bwt7;go_simp;obtain⟨wt8,Hwt8⟩:∃wq,Hid (wq=((((wt7.setCell ⟨G.heap.size,0,none⟩ (.int .i64 H)).setCell ⟨G.heap.size,1,none⟩ (.slice fL T N)).setCell ⟨G.heap.size,2,none⟩ (.slice fR U O)).setCell ⟨G.heap.size,3,none⟩ (.slice fV D I))):=⟨_,zaa rfl⟩;rw[<-Hwt8.out];have BFa:Blk wt8 G.heap.size 57 #[.int .i64 H,.slice fL T N,.slice fR U O,.slice fV D I]:=by rw[Hwt8.out];simpa using((((Bwt7.set_ 0 (.int .i64 H)).set_ 1 (.slice fL T N)).set_ 2 (.slice fR U O)).set_ 3 (.slice fV D I))
    have B2Bwt6:Blk wt8 d.heap.size 57 #[.int .i64 0,.slice none 0 0,.slice none 0 0,.slice none 0 0]:=by rw[Hwt8.out];exact((((Bwt6.far (p:=⟨G.heap.size,0,none⟩) (by show _≠G.heap.size;omega) (.int .i64 H)).far (p:=⟨G.heap.size,1,none⟩) (by show _≠G.heap.size;omega) (.slice fL T N)).far (p:=⟨G.heap.size,2,none⟩) (by show _≠G.heap.size;omega) (.slice fR U O)).far (p:=⟨G.heap.size,3,none⟩) (by show _≠G.heap.size;omega) (.slice fV D I))
    have Twt8:Below w.heap.size w wt8:=by rw[Hwt8.out];exact((((h.setCell (p:=⟨G.heap.size,0,none⟩) (by show _<=G.heap.size;omega) (.int .i64 H)).setCell (p:=⟨G.heap.size,1,none⟩) (by show _<=G.heap.size;omega) (.slice fL T N)).setCell (p:=⟨G.heap.size,2,none⟩) (by show _<=G.heap.size;omega) (.slice fR U O)).setCell (p:=⟨G.heap.size,3,none⟩) (by show _<=G.heap.size;omega) (.slice fV D I))
    replace h:=Twt8;replace l:=qe h i.out.1;replace m:=qe h i.out.2.1;replace n:=qe h i.out.2.2.1;replace cf2:=qe h i.out.2.2.2.1;replace o:=qe h i.out.2.2.2.2.1;replace r:=qe h i.out.2.2.2.2.2.1;replace s:=qe h i.out.2.2.2.2.2.2.1;replace z:=qe h i.out.2.2.2.2.2.2.2.1;replace C:=qe h i.out.2.2.2.2.2.2.2.2;refine hK.out _ _ ⟨l,m,n,cf2,o,r,s,z,C⟩ (fun hHeld3=>?_);clear hK K hHeld2
    (try simp only[Act.put,zA,zB,zC,zD,zE,zF])
    refine r1 17 rfl (fun K hK=>?_);obtain⟨gC15_0,gC15_1,gC15_2,gC15_3,gF15_0,gF15_1,gF15_2,gF15_3⟩:=cf4 B2Bwt6;go_simp;obtain⟨wt9,Hwt9⟩:∃wq,Hid (wq=((((wt8.setCell ⟨d.heap.size,0,none⟩ (.int .i64 kh)).setCell ⟨d.heap.size,1,none⟩ (.slice hL X V)).setCell ⟨d.heap.size,2,none⟩ (.slice hR Y W)).setCell ⟨d.heap.size,3,none⟩ (.slice hV E M))):=⟨_,zaa rfl⟩;rw[<-Hwt9.out];have BHb:Blk wt9 d.heap.size 57 #[.int .i64 kh,.slice hL X V,.slice hR Y W,.slice hV E M]:=by rw[Hwt9.out];simpa using((((B2Bwt6.set_ 0 (.int .i64 kh)).set_ 1 (.slice hL X V)).set_ 2 (.slice hR Y W)).set_ 3 (.slice hV E M))
    have B2BFa:Blk wt9 G.heap.size 57 #[.int .i64 H,.slice fL T N,.slice fR U O,.slice fV D I]:=by rw[Hwt9.out];exact((((BFa.far (p:=⟨d.heap.size,0,none⟩) (by show _≠d.heap.size;omega) (.int .i64 kh)).far (p:=⟨d.heap.size,1,none⟩) (by show _≠d.heap.size;omega) (.slice hL X V)).far (p:=⟨d.heap.size,2,none⟩) (by show _≠d.heap.size;omega) (.slice hR Y W)).far (p:=⟨d.heap.size,3,none⟩) (by show _≠d.heap.size;omega) (.slice hV E M))
    have Twt9:Below w.heap.size w wt9:=by rw[Hwt9.out];exact((((h.setCell (p:=⟨d.heap.size,0,none⟩) (by show _<=d.heap.size;omega) (.int .i64 kh)).setCell (p:=⟨d.heap.size,1,none⟩) (by show _<=d.heap.size;omega) (.slice hL X V)).setCell (p:=⟨d.heap.size,2,none⟩) (by show _<=d.heap.size;omega) (.slice hR Y W)).setCell (p:=⟨d.heap.size,3,none⟩) (by show _<=d.heap.size;omega) (.slice hV E M))
    replace h:=Twt9;replace l:=qe h i.out.1;replace m:=qe h i.out.2.1;replace n:=qe h i.out.2.2.1;replace cf2:=qe h i.out.2.2.2.1;replace o:=qe h i.out.2.2.2.2.1;replace r:=qe h i.out.2.2.2.2.2.1;replace s:=qe h i.out.2.2.2.2.2.2.1;replace z:=qe h i.out.2.2.2.2.2.2.2.1;replace C:=qe h i.out.2.2.2.2.2.2.2.2;refine hK.out _ _ ⟨l,m,n,cf2,o,r,s,z,C⟩ (fun hHeld4=>?_);clear hK K hHeld3
    (try simp only[Act.put,zA,zB,zC,zD,zE,zF])
    refine zcf (by kernel_rfl) ?_ _;go_wp2_with fail;go_meet;exact⟨_,_,rfl,rfl,B2BFa,BHb,by omega,by omega,by omega,h⟩
  case rest=>
   obtain⟨g9,g10,rfl,rfl,BFa,BHb,hg9,hg10,hgn,T1⟩:=hcut;obtain⟨w1,HWC⟩:∃wq:World,wq=wc:=⟨_,rfl⟩;subst HWC;have cF0:=BFa.cell 0;have cH0:=BHb.cell 0;simp at cF0 cH0;clear l m n cf2 o r s z C h
   by_cases hkk:H=kh
   rotate_left
   .have HM:Hid ((twoF x kd (a:Int) (b:Int)).map (addF x)=none):=by show _=_;rw[HTW.out,zaj (fun hc=>hkk hc.1)];rfl
    have hq:(H !=kh)=true:=by simp[hkk]
    have T1':=T1.mono hB;go_wp2_with fail;go_ret;exact⟨T1',.inl ⟨HM.out,rfl⟩⟩
   .subst hkk
    obtain⟨w2,HW2⟩:∃wb,Hid (wb=w1.alloc (.cells #[.int .i64 H,.slice none 0 0,.slice none 0 0,.slice none 0 0] 57)):=⟨_,zaa rfl⟩;have hb2:Below w1.heap.size w1 w2:=by rw[HW2.out];exact qm _ _
    have BX2:Blk w2 w1.heap.size 57 #[.int .i64 H,.slice none 0 0,.slice none 0 0,.slice none 0 0]:=by rw[HW2.out];exact Blk.new _ _ _
    have T2:=q9 T1 hb2 rfl;have hz1:=T1.size;have hz2:w1.heap.size<w2.heap.size:=BX2.lt;have cF0':=(BFa.next hb2).cell 0;have cF3:=(BFa.next hb2).cell 3;have cH3:=(BHb.next hb2).cell 3;have cX3:=BX2.cell 3;have fX3:=BX2.frozen 3;have cX0:=BX2.cell 0;have BG2:=HBL.out.next T2;have cG1:=BG2.cell 1;have cG2:=BG2.cell 2;simp at cF0' cF3 cH3 cX3 cX0 cG1 cG2
    go_upto_block 0 with fail
    rw[<-HW2.out];clear cF0 cH0
    by_cases h34:H=3\/H=4
    rotate_left
    .have HM:Hid ((twoF x kd (a:Int) (b:Int)).map (addF x)=none):=by show _=_;rw[HTW.out,zaj (fun hc=>h34 hc.2)];rfl
     have q3:(H==3)=false:=by simp;exact fun e=>h34 (.inl e)
     have q4:(H==4)=false:=by simp;exact fun e=>h34 (.inr e)
     have T2':=T2.mono hB;clear h34;go_wp2_with fail;go_ret;exact⟨T2',.inl ⟨HM.out,rfl⟩⟩
    .obtain⟨L,HL⟩:∃L,Hid (twoL x.2.1 j (H,(Lf,Rf),Z) (H,(Lh,Rh),Vh)=L):=⟨_,zaa rfl⟩
     have HLB:Hid (∀v∈L,InR v):=by show ∀v∈L,_;rw[<-HL.out];exact qpw HAX.out HF1.out.1 HF1.out.2 rfl h34
     have HM:Hid ((twoF x kd (a:Int) (b:Int)).map (addF x)=some (addF x (H,([], []),L))):=by show _=_;rw[HTW.out,zam ⟨rfl,h34⟩,HL.out];rfl
     have aa:=zaa T2
     go_cut []from 55 to 106 (fun wx=>∃A c,Blk wx w1.heap.size 57 #[.int .i64 H,.slice none 0 0,.slice none 0 0,.slice A L.length c]/\wx.ownsRow w.heap.size 3 1 (.slice A L.length c) L.length (ints L)/\Below w.heap.size w wx)
     case first=>
      have h:Below w2.heap.size w2 w2:=zac _ _;have hti:=q4p HF1.out.1;have hti2:=q4p HF1.out.2;have hx1:=HAX.out.1;have hx8:=HAX.out.2.1;have hnf:Z.length=D:=HQF.out.len;have hnh:Vh.length=E:=HQH.out.len;have hlf:Z.length<=1000:=q77 HAX.out HF1.out.1;have hlh:Vh.length<=1000:=q77 HAX.out HF1.out.2
      rcases h34 with rfl|rfl
      .cases j with
       | true =>
         have hLe : genL x.2.1.1.toNat x.2.1.2 (Z ++ Vh) = L := HL.out;subst hLe;have HLN := zaa (rfl : (genL x.2.1.1.toNat x.2.1.2 (Z ++ Vh)).length = (genL x.2.1.1.toNat x.2.1.2 (Z ++ Vh)).length);have HAL : Hid (∀ wz, Below w2.heap.size w2 wz -> qf.rd wz [.int .i64 x.2.1.1, .slice A1 x.2.1.2.length c1] x.2.1) := fun wz hz => qf.ord (((HPO.out.next aa.out).next hz).algO HIN.out.1)
         have HCL : Hid (∀ wz, Below w2.heap.size w2 wz -> Calls Tryz.prog 137 #[.slice fV D I] wz fun e w' => ∃ A' c', e = .returned (.slice A' D c') /\ w'.ownsRow wz.heap.size 3 1 (.slice A' D c') D (ints Z) /\ Below wz.heap.size wz w') := fun wz hz => q4i fV D I Z wz ((HQF.out.next qd aa.out).next qd hz) (by omega)
         have HVH : Hid (∀ wz, Below w2.heap.size w2 wz -> RdL RI wz hV E Vh) := fun wz hz => (HQH.out.next qd aa.out).next qd hz
         have HBB : Hid (∀ v ∈ Z ++ Vh, 0 <= v /\ v <= x.2.1.1 - 1) := fun v hv => by
           rcases zau.1 hv with hv | hv
           . have := hti.1 v hv; omega
           . have := hti2.1 v hv; omega
         have HBD : Hid (∀ v ∈ Z ++ Vh, -9223372036854775808 <= v /\ v <= 9223372036854775807) := fun v hv => by
           have h1 := HBB.out v hv;omega
         have BXh := zaa BX2;clear hti hti2;go_upto_region 9 with fail
         first | (go_region_law (first
           | (refine q1b (R := RI) _ rfl (.tmp 68) (.tmp 70) 43 3 rfl (.int .i64 0) 8 za1 q14 rfl (by decide) w2.heap.size D c5 A5 (ints Z) (by rfl) (by exact ho5) hV E M Vh (fun y => .int .i64 y) (fun _ => rfl) (by rfl) (HVH.out _ h) (fun _ _ _ hr => hr.1) (by omega) (by exact h.size) ?_; intro A6 c6 w6 hown6 hg6 hb6; have T6 : Below w2.heap.size w2 w6 := h.trans hb6; have hown7 : w6.ownsRow w2.heap.size 3 1 (.slice A6 (D + E) c6) (D + E) (ints (Z ++ Vh)) := (by simpa [ints] using hown6); have q1 := qe T6 cG1; have q2 := qe T6 cG2)
           | (go_simp; go_at_call 137; (with_reducible refine (HCL.out _ ?_).mono ?_); (first | exact h | exact zai h); rintro e w5 ⟨A5, c5, rfl, ho5, hb5⟩; replace h := q9 (by first | exact h | exact zai h) hb5 rfl; have x1 := qe h cG1; have x2 := qe h cG2; have x3 := qe h cH3)
           | (go_simp; go_at_call 132; refine (q68 _ x.2.1 A6 (D + E) c6 (Z ++ Vh) _ (HAL.out _ T6) HAX.out (q12 (R := RI) hown7 (q1r HBD.out)) HBB.out).mono ?_; rintro e w7 ⟨A7, c7, rfl, ho7, hb7⟩; have T7 := q9 T6 hb7 rfl; have J := BXh.out.next T7; have r3 := J.cell 3; have s3 := J.frozen 3; simp at r3))) | fail
         all_goals
           go_wp2_with fail;go_meet;have BX8 := J.set_ 3 (.slice A7 (genL x.2.1.1.toNat x.2.1.2 (Z ++ Vh)).length c7);simp at BX8;exact ⟨A7, c7, BX8, q23 (ql ho7 (by have := T6.size; omega)) J (by decide) _ _, (q9 aa.out T7 rfl).setCell (p := ⟨w1.heap.size, 3, none⟩) (by exact hz1) _⟩
       | false =>
         have hLe : q2d Vh Z = L := HL.out;subst hLe;clear hti hti2;go_wp2_with fail;refine (qcy fV hV D E I M Z Vh w2 (HQF.out.next qd aa.out) (HQH.out.next qd aa.out) (by omega)).mono ?_;rintro e w7 ⟨A7, n7, c7, rfl, ho7, hb7⟩;have hn7 : (q2d Vh Z).length = n7 := by have := ho7.1; simpa [ints] using this
         subst hn7;have T7 := q9 aa.out hb7 rfl;have J := BX2.next hb7;have r3 := J.cell 3;have s3 := J.frozen 3;simp at r3;go_wp2_with fail;go_meet;have BX8 := J.set_ 3 (.slice A7 (q2d Vh Z).length c7);simp at BX8;exact ⟨A7, c7, BX8, q23 (ql ho7 (by have := T2.size; omega)) J (by decide) _ _, T7.setCell (p := ⟨w1.heap.size, 3, none⟩) (by exact hz1) _⟩
      .have P:ParP x.2.1.1.toNat Z:=q4x HF1.out.1 rfl
       have Q:ParP x.2.1.1.toNat Vh:=q4x HF1.out.2 rfl;have hf2:=P.1;have hh2:=Q.1;have hnn:E=D:=by omega
       subst hnn;have hnx:x.2.1.1.toNat=E:=by omega
       rw[hnx]at P Q;cases j with
       | true =>
         have hLe : q69 Z Vh = L := HL.out;subst hLe;clear hti hti2;go_wp2_with fail;refine (qnr fV hV E I M Z Vh w2 (HQF.out.next qd aa.out) (HQH.out.next qd aa.out) P Q (by omega) (by omega)).mono ?_;rintro e w7 ⟨A7, c7, rfl, ho7, hb7⟩;have T7 := q9 aa.out hb7 rfl;have J := BX2.next hb7;have r3 := J.cell 3;have s3 := J.frozen 3;simp at r3;go_wp2_with fail;go_meet;have BX8 := J.set_ 3 (.slice A7 (q69 Z Vh).length c7);simp at BX8;exact ⟨A7, c7, BX8, q23 (ql ho7 (by have := T2.size; omega)) J (by decide) _ _, T7.setCell (p := ⟨w1.heap.size, 3, none⟩) (by exact hz1) _⟩
       | false =>
         have hLe : q4k Z Vh = L := HL.out;subst hLe;clear hti hti2;go_wp2_with fail;refine (qo4 fV hV E I M Z Vh w2 (HQF.out.next qd aa.out) (HQH.out.next qd aa.out) P Q (by omega) (by omega)).mono ?_;rintro e w7 ⟨A7, c7, rfl, ho7, hb7⟩;have T7 := q9 aa.out hb7 rfl;have J := BX2.next hb7;have r3 := J.cell 3;have s3 := J.frozen 3;simp at r3;go_wp2_with fail;go_meet;have BX8 := J.set_ 3 (.slice A7 (q4k Z Vh).length c7);simp at BX8;exact ⟨A7, c7, BX8, q23 (ql ho7 (by have := T2.size; omega)) J (by decide) _ _, T7.setCell (p := ⟨w1.heap.size, 3, none⟩) (by exact hz1) _⟩
     case rest=>
      obtain⟨A7,c7,BX3,ho3,T3⟩:=hcut;obtain⟨w3,HWC⟩:∃wq:World,wq=wc:=⟨_,rfl⟩;subst HWC;have hz3:=T3.size;obtain⟨HO3,HI3⟩:=qkn (K:=H) hz3 ho3 HFK.out.1 HLB.out;have HR3:=zaa (qj.ord HO3);have BG3:=HBL.out.next T3;obtain⟨p,HP⟩:∃p,Hid (posF x.2.2.1 (H,([], []),L)=p):=⟨_,zaa rfl⟩;have HX:Hid (∀wz,Below w3.heap.size w3 wz->Calls Tryz.prog 76 #[.slice (some ⟨bb,oo,none⟩) x.2.2.1.length c2,.agg #[.int .i64 H,.slice none 0 0,.slice none 0 0,.slice A7 L.length c7]] wz (Bl wz (.int .i64 p))):=fun wz hz=>by
       obtain⟨A',c',e,hrd⟩:=(HPG.out.next (q9 T3 hz rfl)).rd;injection e with e1 e2 e3
       have:=q5p (some ⟨bb,oo,none⟩) x.2.2.1.length c2 _ x.2.2.1 _ wz (by rw[e1];exact hrd) (q6l HR3.out hz)
       rwa [HP.out]at this
      have l:=BG3.cell 3;have cX0:=BX3.cell 0;have cX1:=BX3.cell 1;have cX2:=BX3.cell 2;have cX3:=BX3.cell 3;simp at l cX0 cX1 cX2 cX3;have h:Below w3.heap.size w3 w3:=zac _ _;have HO3:=zaa HO3;have HI3:=zaa HI3;have HT3:=zaa T3;clear ho3 T3 T1 T2 BX2 BG2 cF0' cF3 cH3 fX3 cG1 cG2 BFa BHb;go_upto_region 16 with fail
      go_cut [113] (fun t wx=>t=.bool (decide (p<0))/\Below w3.heap.size w3 wx)
      case first=>
       first|(go_region_law (first
        |(go_simp;go_at_call 76;(with_reducible refine(HX.out _ ?_).mono ?_);(first|exact h|exact zai h);rintro e1 wn ⟨rfl,hbn⟩;replace h:=q9 (by first|exact h|exact zai h) hbn rfl)))|fail
       all_goals
        go_wp2_with fail;go_meet;exact⟨rfl,by first|exact h|exact zai h⟩
      case rest=>
       obtain⟨rfl,hb4⟩:=hcut;obtain⟨w4,HWC⟩:∃wq:World,wq=wc:=⟨_,rfl⟩;subst HWC;have BG4:=BG3.next hb4;have zkk:=kk5 hb4 l cX0 cX1 cX2 cX3;clear l cX0 cX1 cX2 cX3;obtain⟨l,cX0,cX1,cX2,cX3⟩:=zkk;have fG3:=BG4.frozen 3;have T4:=q9 HT3.out hb4 rfl
       by_cases hp:p<0
       .have hd:decide (p<0)=true:=zbh hp
        have HM2:Hid ((twoF x kd (a:Int) (b:Int)).map (addF x)=some (x.1,x.2.1,x.2.2.1++ [(H,([], []),L)],x.2.2.2)):=by show _=_;rw[HM.out];unfold addF;rw[HP.out,zam hp]
        have T4d:Below w.heap.size w w4.drew:=zai T4;have HO4:qj.own w4.drew [.int .i64 H,.slice none 0 0,.slice none 0 0,.slice A7 L.length c7] (H,([], []),L) (obl (.slice A7 L.length c7)):=Sh.onext HO3.out (zai hb4);have HI4:Iv w.heap.size w4.drew.heap.size (obl (.slice A7 L.length c7)):=HI3.out.mono (zad _) hb4.size;obtain⟨hvs,HPU⟩:=HPG.out.push q4v rfl T4d hB HO4 HI4;have BG6:Blk w4.drew g 27 _:=BG4.next (zai (zac _ _));have hz4:=T4.size;have HD4:LabD B w4.drew x _ _:=HD.out.next T4d;have HPO4:=HPO.out.next T4d;have cO6a:=(BG4.alloc (.cells #[.int .i64 H,.slice none 0 0,.slice none 0 0,.slice A7 L.length c7] 57)).cell 3;simp at cO6a;go_upto_region 17 with fail
        first|(go_region_law (first
         |(refine q8g (World.drew w4) rfl (.tmp 118) (.tmp 120) 25 57 rfl (.agg #[.int .i64 0,.slice none 0 0,.slice none 0 0,.slice none 0 0]) 4 80 zbx q16 rfl (by decide) (by decide) B x.2.2.1.length c2 (some ⟨bb,oo,none⟩) dss.flatten (by rfl) hvs [.int .i64 H,.slice none 0 0,.slice none 0 0,.slice A7 L.length c7] rfl (by intro q hq;simp at hq;rcases hq with rfl|rfl|rfl|rfl<;>rfl) (by rfl) (by omega) (by show B<=w4.heap.size;omega) ?_;intro A8 c8 w8 hown8 hg8 hb8;have BG8:=BG6.grown hg8 (fun e=>q1s hvs BG6 (by decide) e.symm);have cO8:=BG8.cell 3;have fO8:=BG8.frozen 3;simp at cO8)))|fail
        all_goals
         have PN:=PGf.setB (k:=3) (HPU hown8 hg8) BG8 (by decide) (by decide) (.slice A8 (x.2.2.1.length+1) c8);have T8:Below B w (w8.setCell ⟨g,3,none⟩ (.slice A8 (x.2.2.1.length+1) c8)):=((T4d.mono hB).trans hb8).setCell (p:=⟨g,3,none⟩) (by exact hg) _;have BG9:Blk (w8.setCell ⟨g,3,none⟩ (.slice A8 (x.2.2.1.length+1) c8)) g 27 #[.bool x.1,.int .i64 x.2.1.1,.slice A1 x.2.1.2.length c1,.slice A8 (x.2.2.1.length+1) c8,.int .i64 x.2.2.2]:=by simpa using BG8.set_ 3 (.slice A8 (x.2.2.1.length+1) c8)
         have hPO8:PO B w8 (.slice A1 x.2.1.2.length c1) x.2.1.2 css bls:=HPO4.same hg8.size fun b hb'=>hg8.block b (HPO4.2.2.2 b hb').2 fun e=>HAPP.out b hb' (zbb _ (q1e.2 e.symm))
         have hPO9:=PO.setB (k:=3) hPO8 BG8 (by decide) (by decide) (.slice A8 (x.2.2.1.length+1) c8);have APN:∀b∈obl (.slice A1 x.2.1.2.length c1)++bls.flatten,b∉obl (.slice A8 (x.2.2.1.length+1) c8)++(cls++ [obl (.slice A7 L.length c7)]).flatten:=fun b hb' hm=>by
          rcases zau.1 hm with hm|hm
          .exact q5x hPO8 hown8 b hb' hm
          .rw[zbu,zau]at hm
           rcases hm with hm|hm
           .exact HAPP.out b hb' (zaz _ hm)
           .have h1:=(HI4.2 b (by simpa using hm)).1
            have h2:=(HPO.out.2.2.2 b hb').2;omega
         have HLD:Hid (LabD B (w8.setCell ⟨g,3,none⟩ (.slice A8 (x.2.2.1.length+1) c8)) (x.1,x.2.1,x.2.2.1++ [(H,([], []),L)],x.2.2.2) (.slice A1 x.2.1.2.length c1) (.slice A8 (x.2.2.1.length+1) c8)):=⟨css,bls,_,_,hPO9,PN,APN⟩;have HFIN:=zaa (zao T8 BG9);clear T8 BG9 PN hPO9 hPO8 APN hown8 hb8 hvs HPU;go_wp2_with fail;go_ret;exact⟨HFIN.out.1,.inr ⟨(x.1,x.2.1,x.2.2.1++ [(H,([], []),L)],x.2.2.2),_,_,HM2.out,rfl,HFIN.out.2,HLD.out.w,HIN.out.1,HIN.out.2⟩⟩
       .have hd:decide (p<0)=false:=zbi hp
        have HM2:Hid ((twoF x kd (a:Int) (b:Int)).map (addF x)=some x):=by show _=_;rw[HM.out];unfold addF;rw[HP.out,zaj hp]
        have HFIN:=zaa (zao (T4.mono hB) (zao BG4 ((HD.out.next T4).w)));clear T4 BG4;go_wp2_with fail;go_ret;exact⟨HFIN.out.1,.inr ⟨x,_,_,HM2.out,rfl,HFIN.out.2.1,HFIN.out.2.2,HIN.out.1,HIN.out.2⟩⟩
theorem qfb {P:Program} (w:World) {ops:Array Oper} {o:Oper} {a:Act} {K:Act->World->Prop} {Q:Exit->Act->World->Prop} {E:Prop} (y:o.guard=none) (s x:Operand) (t e:TypeId)
  (L:o.op=.call { callee:=.builtin .append,args:= #[s,x],argTypes:= #[t,t] }) (z:Value) (bytes size:Nat)
  (O:P.underlying t=some (.slice e)) (hi:(P.info? e).map (fun i=>(i.zero,i.size,i.bytes))=some (some z,size,bytes)) (C:z.cells.size=size) (q:bytes<=128)
  (A:Option Addr) (n c:Nat) (g:List Value) (N:a.eval s=.slice A n c) (B:g.length=n*size) (G:(A=none/\n=0/\c=0)\/∃b,A=some b/\∀j v,g[j]?=some v->w.cell? (b.add j)=some v)
  (p:Addr) (m d:Nat) (f:List Value) (S:a.eval x=.slice (some p) m d) (I:f.length=m*size) (k:∀j u,f[j]?=some u->w.cell? (p.add j)=some u) (J:0<m) (H:c<n+m) (U:n+m<=1099511627776)
  (hK:∀A' c' w',w'.ownsRow w.heap.size e size (.slice A' (n+m) c') (n+m) (g++f)->Below w.heap.size w w'->K (a.put o.dst (.slice A' (n+m) c')) w'):
  if Region.wanted o (yielded ops a.tmps)=true then Oper.wp P o a w K Q else E:=by
 have R:Region.wanted o (yielded ops a.tmps)=true:=by simp[Region.wanted,y]
 rw[zam R];obtain⟨i,hi,T,l,r⟩:=info_parts hi;have h:(n+m)*bytes<=140737488355328:=za7 (zem (n+m) q) (by omega);obtain⟨V,w',M,D,F⟩:=qb9 (P:=P) w t o.type e i z size bytes O hi T l r C A n c g B G p m d f I k J H (by unfold maxLen;omega) h;obtain⟨A',c',rfl⟩:=qu D;unfold Oper.wp execOp;simp only[L,resolve,invoke,builtin,Sem.run_bind,Sem.run_pure,Result.andThen_ok,List.map_toArray,zcz,List.map_nil,N,S,M];exact hK A' c' w' D F
theorem qf9 {P:Program} (w:World) {ops:Array Oper} {o:Oper} {a:Act} {K:Act->World->Prop} {Q:Exit->Act->World->Prop} {E:Prop} (f:o.guard=none) (s x:Operand) (t e:TypeId)
  (p:o.op=.call { callee:=.builtin .append,args:= #[s,x],argTypes:= #[t,t] }) (z:Value) (bytes size:Nat)
  (l:P.underlying t=some (.slice e)) (hi:(P.info? e).map (fun i=>(i.zero,i.size,i.bytes))=some (some z,size,bytes))
  (A:Option Addr) (n c:Nat) (g:n<=c) (r:a.eval s=.slice A n c) (b:Addr) (d:Nat) (y:a.eval x=.slice (some b) 0 d)
  (hK:K (a.put o.dst (.slice A n c)) w):
  if Region.wanted o (yielded ops a.tmps)=true then Oper.wp P o a w K Q else E:=by
 have v:Region.wanted o (yielded ops a.tmps)=true:=by simp[Region.wanted,f]
 rw[zam v];obtain⟨i,hi,B,k,m⟩:=info_parts hi;have q:=run_append_nothing (P:=P) w t t o.type e i l hi A n c g (.slice (some b) 0 d) (Src.ofSlice w l b 0 d [] (by simp) (fun j u h=>by simp at h) (fun u h=>by cases h));unfold Oper.wp execOp;simp only[p,resolve,invoke,builtin,Sem.run_bind,Sem.run_pure,Result.andThen_ok,List.map_toArray,zcz,List.map_nil,r,y,q];exact hK
theorem qql (B:Nat) (ds:List Value) (x:LabM) (s:qq) (w:World) (g:Nat) (v u:Value) (hg:B<=g) (hBl:Blk w g 27 #[.bool x.1,.int .i64 x.2.1.1,v,u,.int .i64 x.2.2.2]) (hD:LabD B w x v u) (h':qh.rd w ds s) (hx:AlgP x.2.1) (hln:x.2.2.1.length<=12) (hr:0<=x.2.2.2/\x.2.2.2<=9999) (hcs:qj.cnt s.2.2.1<=1048576) (hk:s.1=5) (hA:0<=s.2.2.2.2.1):
  Calls Tryz.prog 45 #[.pointer (some ⟨g,0,none⟩),.agg ds.toArray] w (MkO B g x s w):=by
 have hrd':=h';obtain⟨AL,nL,cL,AR,nR,cR,AV,nV,cV,AS,nS,cS,rfl,pK,pT,pF,pL,pR,pV,pS,pA,pB⟩:=q1a h';obtain⟨css,bls,A,cls,hPO,hPG,hap⟩:=hD;obtain⟨A1,c1,rfl⟩:=qu hPO.2.1;obtain⟨A2,z,rfl⟩:=qu hPG.2.1;obtain⟨w0,hw0,T0,hsz0,BQ⟩:=q15 w #[.int .i64 s.1,.string s.2.1,.int .i64 s.2.2.1.1,.slice AL nL cL,.slice AR nR cR,.slice AV nV cV,.slice AS nS cS,.int .i64 s.2.2.2.2.1,.int .i64 s.2.2.2.2.2] 59;have HW0:=zaa hw0;have hgw:=hBl.lt;have BG:=hBl.next T0;have hPO0:=hPO.next T0;have hPG0:=hPG.next T0;have TB:Below B w w0:=T0.mono (by omega);have HTB:=zaa TB;have hs0:w0.heap.size=w.heap.size+1:=hsz0;obtain⟨cG0,cG1,cG2,H,cG4,fG0,fG1,fG2,fG3,fG4⟩:=cf5 BG;obtain⟨Z,cQ1,cQ2,cQ3,cQ4,cQ5,cQ6,d,cQ8⟩:=cl9 BQ;obtain⟨k,hkA⟩:=zan hA;have HM:Hid (makM x s=(if(k:Int)<(x.2.2.1.length:Int)then some (x.1,x.2.1,x.2.2.1.take k++x.2.2.1.drop (k+1),x.2.2.2)else none)):=by
  show _=_
  unfold makM;rw[zaj (by rw[hk];decide),zaj (by rw[hk];decide),zam hk,hkA,za5]
 have hin:InR x.2.1.1:=⟨by have:=hx.1;omega,by have:=hx.2.1;omega⟩;have hin2:InR x.2.2.2:=⟨by omega,by omega⟩;have HPO0:=zaa hPO0;have HPG0:=zaa hPG0;have HAP:=zaa hap;have hk0:(0:Int)<=(k:Int):=by omega
 have hkb:(k:Int)<=9223372036854775807:=by have:=pA.2;omega
 rw[hk]at Z;rw[hkA]at d;have q:Below w0.heap.size w0 w0:=zac _ _;have HK:=zaa hk;clear hk;clear hw0 hsz0 h' hrd' hPO hPG hPO0 hPG0 hap TB T0 pK pT pF pL pR pV pS pA pB hBl hcs hkA hA
 go_enter Tryz.func45,Tryz.ntmps45
 go_upto_region 1 with fail;rw[<-HW0.out];go_upto_region 11 with fail
 go_cut [68] (fun t wx=>t=.bool (decide (x.2.2.1.length<=k))/\Below w0.heap.size w0 wx)
 case first=>
  go_region
  all_goals
   go_wp2_with fail;go_meet;exact⟨rfl,by first|exact q|exact zai q⟩
 case rest=>
  obtain⟨rfl,O⟩:=hcut;obtain⟨D,HWC⟩:∃wq:World,wq=wc:=⟨_,rfl⟩;subst HWC;have o:=BG.next O;have zkk:=kk14 O cG0 cG1 cG2 H cG4 Z cQ1 cQ2 cQ3 cQ4 cQ5 cQ6 d cQ8;clear cG0 cG1 cG2 H cG4 Z cQ1 cQ2 cQ3 cQ4 cQ5 cQ6 d cQ8;obtain⟨cG0,cG1,cG2,H,cG4,Z,cQ1,cQ2,cQ3,cQ4,cQ5,cQ6,d,cQ8⟩:=zkk;replace fG0:=o.frozen 0;replace fG1:=o.frozen 1;replace fG2:=o.frozen 2;replace fG3:=o.frozen 3;replace fG4:=o.frozen 4;have N:=HPO0.out.next O;have E:=HPG0.out.next O;have T1:=HTB.out.trans (O.mono (by omega:B<=w0.heap.size));have hz1:=O.size;clear q BG
  by_cases hlt:k<x.2.2.1.length
  .have hd:decide (x.2.2.1.length<=k)=false:=zbi (by omega)
   have X:Hid (makM x s=some (x.1,x.2.1,x.2.2.1.take k++x.2.2.1.drop (k+1),x.2.2.2)):=HM.out.trans (by rw[zam (by omega)]);have hB1:B<=D.heap.size:=by omega
   obtain⟨i,rfl,hg2,hnc⟩:=q2o E.2.1 (by omega);obtain⟨i0,hi0,-,hsz,-⟩:=info_parts q16;obtain⟨ad,W,Q⟩:∃ad:Addr,Hid ((if z=k+1 then some (⟨i,0,none⟩:Addr)else some ⟨i,(k+1)*4,none⟩)=some ad)/\(k+1<z->ad=⟨i,(k+1)*4,none⟩):=by
    by_cases hq:z=k+1
    .exact⟨_,zam hq,fun h=>absurd h (by omega)⟩
    .exact⟨_,zaj hq,fun _=>rfl⟩
   have hi1:(0:Int)<=(k:Int)+1:=by omega
   have hkc:k<=z:=by omega
   have hi2:(k:Int)+1<=(x.2.2.1.length:Int):=by omega
   have hw64:IntKind.i64.wrap ((k:Int)+1)=(k:Int)+1:=zck _ (by omega);have C:=E.1.all;have hl1:=E.1.l1;have HCE:=zaa (E.2.1.cells (g:=i) rfl);have ac:Hid (∀j v,(A.take k).flatten[j]?=some v->D.cell? ((⟨i,0,none⟩:Addr).add j)=some v):=fun j v L=>by
    refine HCE.out j v ?_;rw[<-qa6 (m:=4) C (by omega),zd3]at L
    split at L
    .exact L
    .cases L
   have HOL:Hid ((A.take k).flatten.length=k*4):=by
    show _=_
    rw[q3b (m:=4) fun c hc=>C c (zbt hc),za9,zef (by omega)]
   have HNL:Hid ((A.drop (k+1)).flatten.length=(x.2.2.1.length - (k+1))*4):=by
    show _=_
    rw[q3b (m:=4) fun c hc=>C c (zdt hc),zct,hl1]
   have HG1:=zaa E;have HP1:=zaa N;have HT1:=zaa T1;have aa:=zaa o
   by_cases hlast:x.2.2.1.length - (k+1)=0
   .have HXS:Hid (x.2.2.1.take k++x.2.2.1.drop (k+1)=x.2.2.1.take k):=by show _=_;rw[zbk (by omega),zc3]
    have PT:=E.take (k:=k) rfl (by omega);have HF0:Hid (∀wz,Below D.heap.size D wz->MkO B g x s w (.returned (.bool true)) (wz.setCell ⟨g,3,none⟩ (.slice (some ⟨i,0,none⟩) k k))):=fun wz M=>by
     refine⟨(T1.trans (M.mono hB1)).setCell (p:=⟨g,3,none⟩) (by exact hg) _,zew ⟨(x.1,x.2.1,x.2.2.1.take k++x.2.2.1.drop (k+1),x.2.2.2),.slice A1 x.2.1.2.length c1,.slice (some ⟨i,0,none⟩) k k,X.out,rfl,by simpa using(o.next M).set_ 3 (.slice (some ⟨i,0,none⟩) k k),?_,hin,hin2⟩⟩;rw[HXS.out]
     exact⟨css,bls,_,_,some ⟨i,0,none⟩,k,z,k,rfl,zad _,PO.setB (k:=3) (N.next M) (o.next M) (by decide) (by decide) _,PGf.setB (k:=3) (PT.next M) (o.next M) (by decide) (by decide) _,fun b hb T=>HAP.out b hb (by
      rcases zau.1 T with T|T
      .exact zbb _ (by simpa[obl,Value.ownBlock]using T)
      .obtain⟨bk,h1,h2⟩:=zbm.1 T
       exact zaz _ (zbm.2 ⟨bk,zbt h1,h2⟩))⟩
    clear C hl1 E N T1 PT Q;have q:Below D.heap.size D D:=zac _ _;have l:=aa.out;have y:w.heap.size≠g:=by omega
    go_upto_region 13 with fail;refine zca (S:=fun w'=>w'.cell? ⟨w.heap.size,7,none⟩=some (.int .i64 (k:Int))) (by kernel_rfl) d (fun hHeld0=>?_);obtain⟨F,G⟩:∃x,Hid (x=World.drew D):=⟨_,rfl⟩;have f:Below D.heap.size D F:=by rw[G.out];exact(zac _ _).drew
    rw[<-G.out]at hHeld0⊢;have ywt1:=f.size;replace H:=qe f H;replace q:=q9 q f rfl;replace l:=l.next f;replace d:=qe f d;refine tp 0 (.pointer (some ⟨g,0,none⟩)) rfl ?_;refine tp 1 (.pointer (some ⟨g,0,none⟩)) rfl ?_;refine tp 2 (.pointer (some ⟨g,0,none⟩)) rfl ?_;refine tp 3 (.pointer (some ⟨g,3,none⟩)) rfl ?_;refine tp 5 (.pointer (some ⟨w.heap.size,7,none⟩)) rfl ?_;refine tk 6 (.int .i64 (k:Int)) rfl (.inl ⟨by kernel_rfl,fun wv r=>by(have P:=r);go_simp⟩) ?_;refine tp 7 (.pointer (some ⟨w.heap.size,7,none⟩)) rfl ?_;refine tk 8 (.int .i64 (k:Int)) rfl (.inl ⟨by kernel_rfl,fun wv r=>by(have P:=r);go_simp⟩) ?_;refine tp 10 (.pointer (some ⟨g,0,none⟩)) rfl ?_;refine tp 11 (.pointer (some ⟨g,0,none⟩)) rfl ?_;refine tp 12 (.pointer (some ⟨g,3,none⟩)) rfl ?_;refine tp 14 (.pointer (some ⟨w.heap.size,7,none⟩)) rfl ?_;refine tk 15 (.int .i64 (k:Int)) rfl (.inl ⟨by kernel_rfl,fun wv r=>by(have P:=r);go_simp⟩) ?_;refine tp 16 (.int .i64 ((k:Int)+1)) rfl ?_
    (try simp only[Act.put,zA,zB,zC,zD,zE,zF])
    refine r2 4 13 rfl (fun K hK=>?_) rfl (fun K hK=>?_)
    .go_simp
     refine hK.out _ _ d (fun hHeld1=>?_);clear hK K hHeld0;refine tp 9 (.slice (some ⟨i,0,none⟩) k k) rfl ?_
     (try simp only[Act.put,zA,zB,zC,zD,zE,zF])
     refine r1 13 rfl (fun K hK=>?_);go_simp;refine hK.out _ _ d (fun hHeld2=>?_);clear hK K hHeld1;refine tp 17 (.slice (if z=k+1 then some (⟨i,0,none⟩:Addr)else some ⟨i,(k+1)*4,none⟩) 0 (z - (k+1))) rfl ?_
     (try simp only[Act.put,zA,zB,zC,zD,zE,zF])
     refine r1 18 rfl (fun K hK=>?_);refine qf9 _ rfl (.tmp 78) (.tmp 86) 25 57 rfl (.agg #[.int .i64 0,.slice none 0 0,.slice none 0 0,.slice none 0 0]) 80 4 zbx q16 (some ⟨i,0,none⟩) k k (zad _) (by rfl) ad (z - (k+1)) (by show Value.slice (if z=k+1 then some (⟨i,0,none⟩:Addr)else some ⟨i,(k+1)*4,none⟩) _ _=_;rw[W.out]) ?_;refine hK.out _ _ d (fun hHeld3=>?_);clear hK K hHeld2;refine tp 19 (.pointer (some ⟨g,0,none⟩)) rfl ?_;refine tp 20 (.pointer (some ⟨g,3,none⟩)) rfl ?_
     (try simp only[Act.put,zA,zB,zC,zD,zE,zF])
     refine r1 21 rfl (fun K hK=>?_);have cO:=l.cell 3;have fO:=l.frozen 3;simp at cO;go_simp;replace d:=(zb6 (w:=F) (w':=F.setCell ⟨g,3,none⟩ (.slice (some ⟨i,0,none⟩) k k)) (a:=⟨w.heap.size,7,none⟩) (za8 _ ⟨g,3,none⟩ _ _ y)).trans d;refine hK.out _ _ d (fun hHeld4=>?_);clear hK K hHeld3
     (try simp only[Act.put,zA,zB,zC,zD,zE,zF])
     refine zcf (by kernel_rfl) ?_ _;go_wp2_with fail
     all_goals
      go_ret;exact HF0.out _ q
    .go_simp
     refine hK.out _ _ d (fun hHeld1=>?_);clear hK K hHeld0;refine tp 17 (.slice (if z=k+1 then some (⟨i,0,none⟩:Addr)else some ⟨i,(k+1)*4,none⟩) 0 (z - (k+1))) rfl ?_
     (try simp only[Act.put,zA,zB,zC,zD,zE,zF])
     refine r1 4 rfl (fun K hK=>?_);go_simp;refine hK.out _ _ d (fun hHeld2=>?_);clear hK K hHeld1;refine tp 9 (.slice (some ⟨i,0,none⟩) k k) rfl ?_
     (try simp only[Act.put,zA,zB,zC,zD,zE,zF])
     refine r1 18 rfl (fun K hK=>?_);refine qf9 _ rfl (.tmp 78) (.tmp 86) 25 57 rfl (.agg #[.int .i64 0,.slice none 0 0,.slice none 0 0,.slice none 0 0]) 80 4 zbx q16 (some ⟨i,0,none⟩) k k (zad _) (by rfl) ad (z - (k+1)) (by show Value.slice (if z=k+1 then some (⟨i,0,none⟩:Addr)else some ⟨i,(k+1)*4,none⟩) _ _=_;rw[W.out]) ?_;refine hK.out _ _ d (fun hHeld3=>?_);clear hK K hHeld2;refine tp 19 (.pointer (some ⟨g,0,none⟩)) rfl ?_;refine tp 20 (.pointer (some ⟨g,3,none⟩)) rfl ?_
     (try simp only[Act.put,zA,zB,zC,zD,zE,zF])
     refine r1 21 rfl (fun K hK=>?_);have cO:=l.cell 3;have fO:=l.frozen 3;simp at cO;go_simp;replace d:=(zb6 (w:=F) (w':=F.setCell ⟨g,3,none⟩ (.slice (some ⟨i,0,none⟩) k k)) (a:=⟨w.heap.size,7,none⟩) (za8 _ ⟨g,3,none⟩ _ _ y)).trans d;refine hK.out _ _ d (fun hHeld4=>?_);clear hK K hHeld3
     (try simp only[Act.put,zA,zB,zC,zD,zE,zF])
     refine zcf (by kernel_rfl) ?_ _;go_wp2_with fail
     all_goals
      go_ret;exact HF0.out _ q
   .have R:=Q (by omega)
    have ab:Hid (∀j v,(A.drop (k+1)).flatten[j]?=some v->D.cell? (ad.add j)=some v):=fun j v L=>by
     rw[<-qe0 (m:=4) C (by omega),zds]at L;have:=HCE.out _ v L;rw[R];have e:(⟨i,(k+1)*4,none⟩:Addr).add j=(⟨i,0,none⟩:Addr).add ((k+1)*4+j):=by
      unfold Addr.add;rw[zaj (by omega:¬(k+1)*4+j=0)]
      split
      .simp;omega
      .simp
     rw[e];exact this
    have HF1:Hid (∀U V Y,U.ownsRow D.heap.size 57 4 (.slice V (k+(x.2.2.1.length - (k+1))) Y) (k+(x.2.2.1.length - (k+1))) ((A.take k).flatten++(A.drop (k+1)).flatten)->Below D.heap.size D U->MkO B g x s w (.returned (.bool true)) (U.setCell ⟨g,3,none⟩ (.slice V (k+(x.2.2.1.length - (k+1))) Y))):=fun U V Y n M=>by
     have PD:=E.del q4v rfl hlt n M hB1;refine⟨(T1.trans (M.mono hB1)).setCell (p:=⟨g,3,none⟩) (by exact hg) _,zew ⟨(x.1,x.2.1,x.2.2.1.take k++x.2.2.1.drop (k+1),x.2.2.2),.slice A1 x.2.1.2.length c1,.slice V (k+(x.2.2.1.length - (k+1))) Y,X.out,rfl,by simpa using(o.next M).set_ 3 (.slice V (k+(x.2.2.1.length - (k+1))) Y),?_,hin,hin2⟩⟩;refine LabD.w ⟨css,bls,_,_,PO.setB (k:=3) (N.next M) (o.next M) (by decide) (by decide) _,PGf.setB (k:=3) PD (o.next M) (by decide) (by decide) _,fun b hb T=>?_⟩
     rcases zau.1 T with T|T
     .exact q5x (N.next M) n b hb T
     .refine HAP.out b hb (zaz _ ?_)
      obtain⟨bk,h1,h2⟩:=zbm.1 T;refine zbm.2 ⟨bk,?_,h2⟩
      rcases zau.1 h1 with h1|h1
      .exact zbt h1
      .exact zdt h1
    clear C hl1 E N T1 Q R;go_upto_region 13 with fail;have q:Below D.heap.size D D:=zac _ _;have l:=aa.out;have y:w.heap.size≠g:=by omega
    go_upto_region 13 with fail;refine zca (S:=fun w'=>w'.cell? ⟨w.heap.size,7,none⟩=some (.int .i64 (k:Int))) (by kernel_rfl) d (fun hHeld0=>?_);obtain⟨F,G⟩:∃x,Hid (x=World.drew D):=⟨_,rfl⟩;have f:Below D.heap.size D F:=by rw[G.out];exact(zac _ _).drew
    rw[<-G.out]at hHeld0⊢;have ywt1:=f.size;replace H:=qe f H;replace q:=q9 q f rfl;replace l:=l.next f;replace d:=qe f d;refine tp 0 (.pointer (some ⟨g,0,none⟩)) rfl ?_;refine tp 1 (.pointer (some ⟨g,0,none⟩)) rfl ?_;refine tp 2 (.pointer (some ⟨g,0,none⟩)) rfl ?_;refine tp 3 (.pointer (some ⟨g,3,none⟩)) rfl ?_;refine tp 5 (.pointer (some ⟨w.heap.size,7,none⟩)) rfl ?_;refine tk 6 (.int .i64 (k:Int)) rfl (.inl ⟨by kernel_rfl,fun wv r=>by(have P:=r);go_simp⟩) ?_;refine tp 7 (.pointer (some ⟨w.heap.size,7,none⟩)) rfl ?_;refine tk 8 (.int .i64 (k:Int)) rfl (.inl ⟨by kernel_rfl,fun wv r=>by(have P:=r);go_simp⟩) ?_;refine tp 10 (.pointer (some ⟨g,0,none⟩)) rfl ?_;refine tp 11 (.pointer (some ⟨g,0,none⟩)) rfl ?_;refine tp 12 (.pointer (some ⟨g,3,none⟩)) rfl ?_;refine tp 14 (.pointer (some ⟨w.heap.size,7,none⟩)) rfl ?_;refine tk 15 (.int .i64 (k:Int)) rfl (.inl ⟨by kernel_rfl,fun wv r=>by(have P:=r);go_simp⟩) ?_;refine tp 16 (.int .i64 ((k:Int)+1)) rfl ?_
    (try simp only[Act.put,zA,zB,zC,zD,zE,zF])
    refine r2 4 13 rfl (fun K hK=>?_) rfl (fun K hK=>?_)
    .go_simp
     refine hK.out _ _ d (fun hHeld1=>?_);clear hK K hHeld0;refine tp 9 (.slice (some ⟨i,0,none⟩) k k) rfl ?_
     (try simp only[Act.put,zA,zB,zC,zD,zE,zF])
     refine r1 13 rfl (fun K hK=>?_);go_simp;refine hK.out _ _ d (fun hHeld2=>?_);clear hK K hHeld1;refine tp 17 (.slice (if z=k+1 then some (⟨i,0,none⟩:Addr)else some ⟨i,(k+1)*4,none⟩) (x.2.2.1.length - (k+1)) (z - (k+1))) rfl ?_
     (try simp only[Act.put,zA,zB,zC,zD,zE,zF])
     refine r1 18 rfl (fun K hK=>?_);refine qfb F rfl (.tmp 78) (.tmp 86) 25 57 rfl (.agg #[.int .i64 0,.slice none 0 0,.slice none 0 0,.slice none 0 0]) 80 4 zbx q16 rfl (by decide) (some ⟨i,0,none⟩) k k (A.take k).flatten (by rfl) HOL.out (.inr ⟨_,rfl,fun j v L=>qe q (ac.out j v L)⟩) ad (x.2.2.1.length - (k+1)) (z - (k+1)) (A.drop (k+1)).flatten (by show Value.slice (if z=k+1 then some (⟨i,0,none⟩:Addr)else some ⟨i,(k+1)*4,none⟩) _ _=_;rw[W.out]) HNL.out (fun j v L=>qe q (ab.out j v L)) (by omega) (by omega) (by omega) ?_;intro V Y U n I;have J:=ql n q.size;replace q:=q9 q I rfl;replace l:=l.next I;replace d:=qe I d;refine hK.out _ _ d (fun hHeld3=>?_);clear hK K hHeld2;refine tp 19 (.pointer (some ⟨g,0,none⟩)) rfl ?_;refine tp 20 (.pointer (some ⟨g,3,none⟩)) rfl ?_
     (try simp only[Act.put,zA,zB,zC,zD,zE,zF])
     refine r1 21 rfl (fun K hK=>?_);have cO:=l.cell 3;have fO:=l.frozen 3;simp at cO;go_simp;replace d:=(zb6 (w:=U) (w':=U.setCell ⟨g,3,none⟩ (.slice V (k+(x.2.2.1.length - (k+1))) Y)) (a:=⟨w.heap.size,7,none⟩) (za8 _ ⟨g,3,none⟩ _ _ y)).trans d;refine hK.out _ _ d (fun hHeld4=>?_);clear hK K hHeld3
     (try simp only[Act.put,zA,zB,zC,zD,zE,zF])
     refine zcf (by kernel_rfl) ?_ _;go_wp2_with fail
     all_goals
      go_ret;exact HF1.out _ _ _ J q
    .go_simp
     refine hK.out _ _ d (fun hHeld1=>?_);clear hK K hHeld0;refine tp 17 (.slice (if z=k+1 then some (⟨i,0,none⟩:Addr)else some ⟨i,(k+1)*4,none⟩) (x.2.2.1.length - (k+1)) (z - (k+1))) rfl ?_
     (try simp only[Act.put,zA,zB,zC,zD,zE,zF])
     refine r1 4 rfl (fun K hK=>?_);go_simp;refine hK.out _ _ d (fun hHeld2=>?_);clear hK K hHeld1;refine tp 9 (.slice (some ⟨i,0,none⟩) k k) rfl ?_
     (try simp only[Act.put,zA,zB,zC,zD,zE,zF])
     refine r1 18 rfl (fun K hK=>?_);refine qfb F rfl (.tmp 78) (.tmp 86) 25 57 rfl (.agg #[.int .i64 0,.slice none 0 0,.slice none 0 0,.slice none 0 0]) 80 4 zbx q16 rfl (by decide) (some ⟨i,0,none⟩) k k (A.take k).flatten (by rfl) HOL.out (.inr ⟨_,rfl,fun j v L=>qe q (ac.out j v L)⟩) ad (x.2.2.1.length - (k+1)) (z - (k+1)) (A.drop (k+1)).flatten (by show Value.slice (if z=k+1 then some (⟨i,0,none⟩:Addr)else some ⟨i,(k+1)*4,none⟩) _ _=_;rw[W.out]) HNL.out (fun j v L=>qe q (ab.out j v L)) (by omega) (by omega) (by omega) ?_;intro V Y U n I;have J:=ql n q.size;replace q:=q9 q I rfl;replace l:=l.next I;replace d:=qe I d;refine hK.out _ _ d (fun hHeld3=>?_);clear hK K hHeld2;refine tp 19 (.pointer (some ⟨g,0,none⟩)) rfl ?_;refine tp 20 (.pointer (some ⟨g,3,none⟩)) rfl ?_
     (try simp only[Act.put,zA,zB,zC,zD,zE,zF])
     refine r1 21 rfl (fun K hK=>?_);have cO:=l.cell 3;have fO:=l.frozen 3;simp at cO;go_simp;replace d:=(zb6 (w:=U) (w':=U.setCell ⟨g,3,none⟩ (.slice V (k+(x.2.2.1.length - (k+1))) Y)) (a:=⟨w.heap.size,7,none⟩) (za8 _ ⟨g,3,none⟩ _ _ y)).trans d;refine hK.out _ _ d (fun hHeld4=>?_);clear hK K hHeld3
     (try simp only[Act.put,zA,zB,zC,zD,zE,zF])
     refine zcf (by kernel_rfl) ?_ _;go_wp2_with fail
     all_goals
      go_ret;exact HF1.out _ _ _ J q
  .have hd:decide (x.2.2.1.length<=k)=true:=zbh (by omega)
   have X:Hid (makM x s=none):=HM.out.trans (by rw[zaj (by omega)]);have HT1:=zaa T1;go_wp2_with fail;go_ret;exact⟨HT1.out,Or.inl ⟨X.out,rfl⟩⟩
theorem qqm (B:Nat) (ds:List Value) (x:LabM) (s:qq) (S w:World) (g:Nat) (v u:Value) (hg:B<=g) (hBl:Blk w g 27 #[.bool x.1,.int .i64 x.2.1.1,v,u,.int .i64 x.2.2.2]) (hD:LabD B w x v u) (hwa:Below S.heap.size S w) (haB:S.heap.size<=B) (h':qh.rd S ds s) (hx:AlgP x.2.1) (hln:x.2.2.1.length<=12) (hr:0<=x.2.2.2/\x.2.2.2<=9999) (htr:∀f∈x.2.2.1,q1c x.2.1 f=true) (hcf:∀f∈x.2.2.1,qj.cnt f<=1048576) (hk:s.1=6):
  Calls Tryz.prog 45 #[.pointer (some ⟨g,0,none⟩),.agg ds.toArray] w (MkO B g x s w):=by
 have hrd':=h';obtain⟨AL,nL,cL,AR,nR,cR,AV,nV,cV,A,L,R,rfl,pK,pT,pF,pL,pR,pV,pS,pA,pB⟩:=q1a h';obtain⟨css,bls,dss,cls,hPO,hPG,hap⟩:=hD;obtain⟨A1,c1,rfl⟩:=qu hPO.2.1;obtain⟨A2,c2,rfl⟩:=qu hPG.2.1;obtain⟨r,hw0,T0,hsz0,BQ⟩:=q15 w #[.int .i64 s.1,.string s.2.1,.int .i64 s.2.2.1.1,.slice AL nL cL,.slice AR nR cR,.slice AV nV cV,.slice A L R,.int .i64 s.2.2.2.2.1,.int .i64 s.2.2.2.2.2] 59;have HW0:=zaa hw0;have hgw:=hBl.lt;have U:=hBl.next T0;have hPO0:=hPO.next T0;have hPG0:=hPG.next T0;have TB:Below B w r:=T0.mono (by omega);have HTB:=zaa TB;have hs0:r.heap.size=w.heap.size+1:=hsz0;have C:=U.cell 1;have D:=U.cell 2;have X:=U.cell 3;have cQ0:=BQ.cell 0;have E:=BQ.cell 6;simp at C D X cQ0 E;have hin:InR x.2.1.1:=⟨by have:=hx.1;omega,by have:=hx.2.1;omega⟩;have hin2:InR x.2.2.2:=⟨by omega,by omega⟩;have HTA:Hid (∀c,Below B r c->Below S.heap.size S c):=fun c m=>(hwa.trans (T0.mono hwa.size)).trans (m.mono haB)
 have HNM:Hid (∀c,Below S.heap.size S c->RdL RI c A L s.2.2.2.1):=fun c m=>pS.next qd m
 obtain⟨N,HN⟩:∃N:Nat,Hid (x.2.1.1.toNat=N):=⟨_,zaa rfl⟩;have hx1:=hx.1;have hx2:=hx.2.1;have HXN:Hid (x.2.1.1=(N:Int)):=by show x.2.1.1=_;rw[<-HN.out];omega
 obtain⟨pb,HPB⟩:∃b,Hid (q7p N s.2.2.2.1=b):=⟨_,zaa rfl⟩;have HIO:Hid (∀c,Below S.heap.size S c->Calls Tryz.prog 85 #[.slice A L R,.int .i64 x.2.1.1] c (Bl c (.bool pb))):=fun c m=>by
  have:=qg0 A L R N s.2.2.2.1 c (HNM.out c m) (by have:=HN.out;omega);rw[<-HXN.out,HPB.out]at this;exact this
 have HM:Hid (makM x s=if pb=true then some (x.1,ren x.2.1 s.2.2.2.1,x.2.2.1.map fun f=>(f.1,f.2.1,rfL f.1 f.2.2 s.2.2.2.1),x.2.2.2)else none):=by
  show _=_
  unfold makM;rw[zaj (by rw[hk];decide),zaj (by rw[hk];decide),zaj (by rw[hk];decide),zam hk,HN.out,HPB.out]
 have HAX:=zaa hx;have HTR:=zaa htr;have HCF:=zaa hcf;have Z:=zaa hPO0;have HPG0:=zaa hPG0;have HAP:=zaa hap;rw[hk]at cQ0;have l:Below r.heap.size r r:=zac _ _;clear hk htr hcf hx1 hx2 hx;clear hw0 hsz0 h' hrd' hPO hPG hPO0 hPG0 hap TB T0 pK pT pF pL pR pV pS pA pB hBl hwa
 go_enter Tryz.func45,Tryz.ntmps45
 go_upto_region 1 with fail;rw[<-HW0.out];go_upto_region 16 with fail;obtain⟨qb,HQB⟩:∃q,Hid ((!pb)=q):=⟨_,zaa rfl⟩;have Y:Hid (∀c,Below r.heap.size r c->Calls Tryz.prog 85 #[.slice A L R,.int .i64 x.2.1.1] c (Bl c (.bool pb))):=fun c m=>HIO.out c (HTA.out c (m.mono (by omega)))
 go_cut [100] (fun t wx=>t=.bool qb/\Below r.heap.size r wx)
 case first=>
  first|(go_region_law (first
   |(go_simp;go_at_call 85;(with_reducible refine(Y.out _ ?_).mono ?_);(first|exact l|exact zai l);rintro e1 wn ⟨rfl,J⟩;replace l:=q9 (by first|exact l|exact zai l) J rfl)))|fail
  all_goals
   go_wp2_with fail;go_meet;exact⟨by rw[<-HQB.out],by first|exact l|exact zai l⟩
 case rest=>
  obtain⟨rfl,d⟩:=hcut;obtain⟨z,HWC⟩:∃wq:World,wq=wc:=⟨_,rfl⟩;subst HWC;have BG1:=U.next d;have zkk:=kk3 d C D E;clear C D E;obtain⟨C,D,E⟩:=zkk;have hP1:=Z.out.next d;have hG1:=HPG0.out.next d;have T1:=HTB.out.trans (d.mono (by omega:B<=r.heap.size));have hz1:=d.size;have hD1:LabD B z x (.slice A1 x.2.1.2.length c1) (.slice A2 x.2.2.1.length c2):=⟨css,bls,dss,cls,hP1,hG1,HAP.out⟩;have h01:Below B r z:=d.mono (by omega);clear l U hP1 hG1 Y
  rcases pb with _|_
  .obtain rfl:qb=true:=by rw[<-HQB.out];rfl
   have HM2:Hid (makM x s=none):=HM.out.trans (zaj (by decide));have HT1:=zaa T1;go_wp2_with fail;go_ret;exact⟨HT1.out,Or.inl ⟨HM2.out,rfl⟩⟩
  .obtain rfl:qb=false:=by rw[<-HQB.out];rfl
   have hpm:PermL N s.2.2.2.1:=q2h.1 HPB.out;have HPM:Hid (PermL x.2.1.1.toNat s.2.2.2.1):=by show PermL _ _;rw[HN.out];exact hpm
   have HM2:Hid (makM x s=some (x.1,ren x.2.1 s.2.2.2.1,x.2.2.1.map fun f=>(f.1,f.2.1,rfL f.1 f.2.2 s.2.2.2.1),x.2.2.2)):=HM.out.trans (zam rfl);have hB1:B<=z.heap.size:=by omega
   have l:Below z.heap.size z z:=zac _ _;have HRN:Hid (∀c,Below z.heap.size z c->Calls Tryz.prog 86 #[.agg #[.int .i64 x.2.1.1,.slice A1 x.2.1.2.length c1],.slice A L R] c (AlgE c (ren x.2.1 s.2.2.2.1))):=fun c m=>
    qgu [.int .i64 x.2.1.1,.slice A1 x.2.1.2.length c1] x.2.1 A L R s.2.2.2.1 c (qf.ord (((Z.out.next d).next m).algO hin)) (HNM.out c (HTA.out c (h01.trans (m.mono hB1)))) HAX.out HPM.out
   have HD1:=zaa hD1;have HTB1:=zaa (zao T1 h01);have HIN:=zaa (zao hin hin2);clear T1 h01 hin hin2 hpm;go_upto_region 18 with fail
   go_cut []from 101 to 110 (fun wx=>∃T W,Blk wx g 27 #[.bool x.1,.int .i64 x.2.1.1,.slice T (ren x.2.1 s.2.2.2.1).2.length W,.slice A2 x.2.2.1.length c2,.int .i64 x.2.2.2]/\LabD B wx (x.1,ren x.2.1 s.2.2.2.1,x.2.2.1,x.2.2.2) (.slice T (ren x.2.1 s.2.2.2.1).2.length W) (.slice A2 x.2.2.1.length c2)/\Below B z wx/\Blk wx w.heap.size 59 #[.int .i64 s.1,.string s.2.1,.int .i64 s.2.2.1.1,.slice AL nL cL,.slice AR nR cR,.slice AV nV cV,.slice A L R,.int .i64 s.2.2.2.2.1,.int .i64 s.2.2.2.2.2])
   case first=>
    have BQ1:=BQ.next d
    first|(go_region_law (first
     |(go_simp;go_at_call 86;(with_reducible refine(HRN.out _ ?_).mono ?_);(first|exact l|exact zai l);rintro e1 w6 ⟨v4,css4,bls4,rfl,hPO4,J⟩;obtain⟨T,W,rfl⟩:=qu hPO4.2.1;have a:=q9 (zai (zac z.heap.size z)) J rfl;have hPO4':PO z.heap.size w6 (.slice T (ren x.2.1 s.2.2.2.1).2.length W) (ren x.2.1 s.2.2.2.1).2 css4 bls4:=hPO4;have j:=BG1.next a;have cO1:=j.cell 1;have fO1:=j.frozen 1;have cO2:=j.cell 2;have fO2:=j.frozen 2;simp at cO1 cO2)))|fail
    all_goals
     go_wp2_with fail;go_meet;have BQ6:=BQ1.next a;have BFF:=(j.set_ 1 (.int .i64 (ren x.2.1 s.2.2.2.1).1)).set_ 2 (.slice T (ren x.2.1 s.2.2.2.1).2.length W);simp at BFF;exact⟨T,W,BFF,((HD1.out.base a hPO4' hB1).setB j _).setB (j.set_ 1 _) _,((a.mono hB1).setCell (p:=⟨g,1,none⟩) (by exact hg) _).setCell (p:=⟨g,2,none⟩) (by exact hg) _,(BQ6.far (p:=⟨g,1,none⟩) (by show _≠g;omega) _).far (p:=⟨g,2,none⟩) (by show _≠g;omega) _⟩
   case rest=>
    obtain⟨T,W,BG2,hD2,T12,BQ2⟩:=hcut;obtain⟨w2,HWC⟩:∃wq:World,wq=wc:=⟨_,rfl⟩;subst HWC;have T02:Below B r w2:=HTB1.out.2.trans T12;have HT0:=zaa HTB.out;replace X:=BG2.cell 3;simp at X;clear C D cQ0 E BG1 hD1 l HRN;go_wp2_with fail
    go_loopw [116] (fun i wr=>∃k:Nat,k<=x.2.2.1.length/\i=.int .i64 (k:Int)/\Blk wr g 27 #[.bool x.1,.int .i64 x.2.1.1,.slice T (ren x.2.1 s.2.2.2.1).2.length W,.slice A2 x.2.2.1.length c2,.int .i64 x.2.2.2]/\LabD B wr (x.1,ren x.2.1 s.2.2.2.1,rnTo x.2.2.1 s.2.2.2.1 k,x.2.2.2) (.slice T (ren x.2.1 s.2.2.2.1).2.length W) (.slice A2 x.2.2.1.length c2)/\Below B r wr/\Blk wr w.heap.size 59 #[.int .i64 s.1,.string s.2.1,.int .i64 s.2.2.1.1,.slice AL nL cL,.slice AR nR cR,.slice AV nV cV,.slice A L R,.int .i64 s.2.2.2.2.1,.int .i64 s.2.2.2.2.2]) (fun i _=>x.2.2.1.length - (intOf i).toNat)
    case atStart=>exact⟨0,zah _,rfl,BG2,by rw[qf3];exact hD2,T02,BQ2⟩
    case round=>
     clear BG2 hD2 T02 BQ2 T12 X;obtain⟨k,hk,rfl,U,hD,hT,BQr⟩:=hrel
     by_cases hlt:k<x.2.2.1.length
     .have hk0:(0:Int)<=(k:Int):=by omega
      have hk1:(k:Int)<(x.2.2.1.length:Int):=by omega
      have hD':=hD;obtain⟨css2,bls2,dss2,cls2,hPO2,I,hap2⟩:=hD';have hrl:(rnTo x.2.2.1 s.2.2.2.1 k).length=x.2.2.1.length:=qib _ _ hk;have hOW:wr.ownsRow B 57 4 (.slice A2 x.2.2.1.length c2) x.2.2.1.length dss2.flatten:=by
       have h:=I.2.1;rw[show((x.1,ren x.2.1 s.2.2.2.1,rnTo x.2.2.1 s.2.2.2.1 k,x.2.2.2):LabM).2.2.1.length=x.2.2.1.length from hrl]at h;exact h
      obtain⟨g2,rfl,hg2,hnc⟩:=q2o hOW (by omega);obtain⟨A',c',e',hrd⟩:=I.rd;injection e' with e1 e2 e3
      subst e1;obtain⟨b,o,vs,f,hA,-,hc,hrf,-,hfx⟩:=hrd.at (k:=k) (by show k<(rnTo x.2.2.1 s.2.2.2.1 k).length;omega);injection hA with hA
      injection hA with q1 q2
      subst q1;subst q2;obtain⟨fL,M,F,fR,O,G,fV,P,H,rfl,fk,pfL,pfR,pfV⟩:=q21 hrf;have cc0:wr.cell? ⟨g2,k*4,none⟩=some (.int .i64 f.1):=by have e:wr.cell? ⟨g2,0+k*4+0,none⟩=some _:=hc 0 _ rfl;simpa using e
      have cc1:wr.cell? ⟨g2,k*4+1,none⟩=some (.slice fL M F):=by have e:wr.cell? ⟨g2,0+k*4+1,none⟩=some _:=hc 1 _ rfl;simpa using e
      have cc2:wr.cell? ⟨g2,k*4+2,none⟩=some (.slice fR O G):=by have e:wr.cell? ⟨g2,0+k*4+2,none⟩=some _:=hc 2 _ rfl;simpa using e
      have cc3:wr.cell? ⟨g2,k*4+3,none⟩=some (.slice fV P H):=by have e:wr.cell? ⟨g2,0+k*4+3,none⟩=some _:=hc 3 _ rfl;simpa using e
      have K:x.2.2.1[k]?=some f:=(qia hlt).symm.trans hfx;have hfm:=zaf K;have HST:=zaa (qic (s:=s.2.2.2.1) K);obtain⟨Q,HW5⟩:∃wb,Hid (wb=wr.alloc (.cells #[.int .i64 f.1,.slice fL M F,.slice fR O G,.slice fV P H] 57)):=⟨_,rfl⟩;have y:Below wr.heap.size wr Q:=by rw[HW5.out];exact qm _ _
      have BY:Blk Q wr.heap.size 57 #[.int .i64 f.1,.slice fL M F,.slice fR O G,.slice fV P H]:=by rw[HW5.out];exact Blk.new _ _ _
      have hBr:B<=wr.heap.size:=by have:=U.lt;omega
      have hT5:=hT.trans (y.mono hBr);have hz5:=y.size;have hB5:B<=Q.heap.size:=by omega
      have HRF:Hid (∀c,Below Q.heap.size Q c->Calls Tryz.prog 87 #[.agg #[.int .i64 f.1,.slice fL M F,.slice fR O G,.slice fV P H],.slice A L R] c (FoE c (rnF s.2.2.2.1 f))):=fun c m=>
       qj4 x.2.1 f s.2.2.2.1 HAX.out (HTR.out f hfm) HPM.out (HCF.out f hfm) fL M F fR O G fV P H A L R c fk (pfL.next qd (q9 y m rfl)) (pfR.next qd (q9 y m rfl)) (pfV.next qd (q9 y m rfl)) (HNM.out c (HTA.out c (hT5.trans (m.mono hB5))))
      have BG5:=U.next y;have hD5:=hD.next y;have BQ5:=BQr.next y;obtain⟨cY0,cY1,cY2,cY3⟩:=cl4 BY;have cO5:=BG5.cell 3;simp at cO5;have cN5:=BQ5.cell 6;simp at cN5;have V:=zaa (qp hOW y);have HD5:=zaa hD5;have HT5:=zaa hT5;have HKL:Hid (k<(rnTo x.2.2.1 s.2.2.2.1 k).length):=by show _<_;omega
      have xc0:=qe y cc0;have xc1:=qe y cc1;have xc2:=qe y cc2;have xc3:=qe y cc3;have l:Below Q.heap.size Q Q:=zac _ _;clear hOW hc hrf hfx K hfm hrd e2 e3 hD hD5 hPO2 I hap2 hT hT5 pfL pfR pfV fk;go_upto_region 22 with fail;rw[<-HW5.out];clear cc0 cc1 cc2 cc3
      first|(go_region_law (first
       |(go_simp;go_at_call 87;(with_reducible refine(HRF.out _ ?_).mono ?_);(first|exact l|exact zai l);rintro e1 w6 ⟨B1,d1,B2,d2,B3,d3,bk,rfl,hO6,hiv6,J⟩;have a:=q9 (zai (zac Q.heap.size Q)) J rfl;have hiv6':Iv Q.heap.size w6.heap.size bk:=hiv6;have yc0:=qe a xc0;have yc1:=qe a xc1;have yc2:=qe a xc2;have yc3:=qe a xc3;have yf0:=(qp V.out a).frozenAt (k*4);have yf1:=(qp V.out a).frozenAt (k*4+1);have yf2:=(qp V.out a).frozenAt (k*4+2);have yf3:=(qp V.out a).frozenAt (k*4+3);have zO:=qe a cO5;have zN:=qe a cN5)))|fail
      all_goals
       have PF:=HD5.out.putF a (k:=k) rfl HKL.out hO6 hiv6' hB5;have n:=zaa (zao (PF.2.2 (by decide) (BG5.next a)) (zao PF.1 (zao (HT5.out.trans PF.2.1) (PF.2.2 (by decide) (BQ5.next a)))));clear PF;go_wp2_with fail
       go_roundw
       case rel=>exact⟨k+1,by omega,by go_num,n.out.1,by rw[<-HST.out];exact n.out.2.1,n.out.2.2.1,n.out.2.2.2⟩
       case measure=>simp[intOf];omega
     .obtain rfl:k=x.2.2.1.length:=by omega
      have hk1:¬(x.2.2.1.length:Int)<(x.2.2.1.length:Int):=by omega
      have hTB:=HT0.out.trans hT;have HD:=zaa hD;have HBG:=zaa U;go_wp2_with fail;go_ret;exact⟨hTB,zew ⟨_,_,_,HM2.out,rfl,HBG.out,by rw[<-qi9];exact HD.out.w,HIN.out.1,HIN.out.2⟩⟩
theorem qm1 (s:ByteArray):(parA s=none/\paA s=(0, [])/\paB s=false)\/∃a,parA s=some a/\paA s=a/\paB s=true:=by
 cases h:parA s with
 |none=>exact .inl ⟨rfl,(qgp h).1,(qgp h).2⟩
 |some a=>exact .inr ⟨a,rfl,(qd2 h).1,(qd2 h).2⟩
theorem qnx {x:LabM} (h:labB x=true) (c:x.1=false):x.2.1=(0, [])/\x.2.2.1= []:=by
 obtain⟨a,b,-,-⟩:=q85 h;rw[q84 a b c,zal,zal,zax,zax,zax]at h;exact⟨Prod.ext h.1.1 (zco.1 h.1.2),zco.1 h.2⟩
theorem qfx (cs ds:List Value) (x:LabM) (s:qq) (w:World) (h:q19.rd w cs x) (hcap:qbe cs) (h':qh.rd w ds s) (hn:q19.cnt x<=1048576) (hn':s.2.1.size<=1048576) (ht:TabP w)
  (hms:s.1≠1->labB x=true->q2z s=true->x.1=true->∀(B:Nat) (wz:World) (g:Nat) (v u:Value),Below w.heap.size w wz->w.heap.size<=B->B<=g->Blk wz g 27 #[.bool x.1,.int .i64 x.2.1.1,v,u,.int .i64 x.2.2.2]->LabD B wz x v u->Calls Tryz.prog 45 #[.pointer (some ⟨g,0,none⟩),.agg ds.toArray] wz (MkO B g x s wz)):
  Calls Tryz.prog 16 #[.agg cs.toArray,.agg ds.toArray] w (OwA q31 w (slR x s) (slOk x s)):=by
 have hrd:=h;have hrd':=h';obtain⟨Bo,k,d,F,n,c,rfl,qZ,qO,qF,qR⟩:=q42 h;obtain⟨AL,nL,cL,AR,nR,cR,AV,nV,cV,AS,nS,cS,rfl,pK,pT,pF,pL,pR,pV,pS,pA,pB⟩:=q1a h';obtain⟨w0,hw0,T0,hsz0,BP,BQ,BZ⟩:=q4z w #[.bool x.1,.int .i64 x.2.1.1,.slice Bo k d,.slice F n c,.int .i64 x.2.2.2] #[.int .i64 s.1,.string s.2.1,.int .i64 s.2.2.1.1,.slice AL nL cL,.slice AR nR cR,.slice AV nV cV,.slice AS nS cS,.int .i64 s.2.2.2.2.1,.int .i64 s.2.2.2.2.2] #[.bool false,.int .i64 0,.slice none 0 0,.slice none 0 0,.int .i64 0] 27 59 27;have HW0:=zaa hw0;have hs0:w.heap.size+2<w0.heap.size:=by omega
 have HIL:=zaa (q7e _ x w0 (q19.stab hrd T0.block) hcap);have HIS:Hid (∀wz,Below w0.heap.size w0 wz->Calls Tryz.prog 42 #[.agg #[.int .i64 s.1,.string s.2.1,.int .i64 s.2.2.1.1,.slice AL nL cL,.slice AR nR cR,.slice AV nV cV,.slice AS nS cS,.int .i64 s.2.2.2.2.1,.int .i64 s.2.2.2.2.2]] wz (Bl wz (.bool (q2z s)))):=fun wz hz=>q8n _ s wz (qh.stab (qh.stab hrd' T0.block) hz.block)
 have HCL:Hid (∀wz,Below w0.heap.size w0 wz->Calls Tryz.prog 43 #[.agg #[.bool x.1,.int .i64 x.2.1.1,.slice Bo k d,.slice F n c,.int .i64 x.2.2.2]] wz (LabE wz x)):=fun wz hz=>q8y _ x wz (q19.stab (q19.stab hrd T0.block) hz.block) hn
 have HPA:Hid (∀wz,Below w0.heap.size w0 wz->Calls Tryz.prog 44 #[.string s.2.1] wz (OwA qf wz (paA s.2.1) (paB s.2.1))):=fun wz hz=>q9h s.2.1 wz hn' ((ht.next T0).next hz)
 have HMS:=zaa hms;have HQR:=zaa qR;have HT0:=zaa T0;obtain⟨V,X,Y,Z,aa⟩:=cl5 BP;obtain⟨l,m,o,r,t,z,A,C,D⟩:=cl9 BQ;obtain⟨lb,HLB⟩:∃b,Hid (labB x=b):=⟨_,zaa rfl⟩;obtain⟨sb,HSB⟩:∃b,Hid (q2z s=b):=⟨_,zaa rfl⟩;obtain⟨xo,HXO⟩:∃b,Hid (x.1=b):=⟨_,zaa rfl⟩;rw[HLB.out]at HIL;rw[HSB.out]at HIS;clear hw0 hsz0 h h' hrd hrd' hms qO qF qZ qR pK pT pF pL pR pV pS pA pB hcap hn ht T0
 go_enter Tryz.func16,Tryz.ntmps16
 go_upto_region 1 with fail;rw[<-HW0.out];go_wp2_with fail;refine HIL.out.mono ?_;rintro e w1 ⟨rfl,ai⟩;have BZ1:=BZ.next ai;have T1:=q9 HT0.out ai rfl;obtain⟨H,I,J,K,L,M,N,O,P,Q⟩:=cf5 BZ1;have i:=zaa (q18 BZ1 (.bool false) (.int .i64 0) (.slice none 0 0) (.slice none 0 0) (.int .i64 0));have j:=zaa (q10 T1 (g:=w.heap.size+1+1) (by omega) (.bool false) (.int .i64 0) (.slice none 0 0) (.slice none 0 0) (.int .i64 0))
 rcases lb with _|_
 .have U:=zaa (q6k (q5d (x:=x) (s:=s) (fun h=>by rw[HLB.out]at h;exact absurd h.1 (by decide))))
  go_wp2_with fail
  (try simp only[Exit.inBlock,Exit.then])
  refine zat (v:=.tuple #[.agg #[.bool false,.int .i64 0,.slice none 0 0,.slice none 0 0,.int .i64 0],.bool false]) (qn rfl _ _ (w.heap.size+1+1) 27 #[.bool false,.int .i64 0,.slice none 0 0,.slice none 0 0,.int .i64 0] (0,0) _ _ (by simp) i.out zbg rfl (by kernel_rfl) (by simp)) rfl ?_;exact q5i j.out U.out
 .clear H I J K L M N O P Q i j
  have ac:=kk14 ai V X Y Z aa l m o r t z A C D;clear V X Y Z aa l m o r t z A C D;obtain⟨V,X,Y,Z,aa,l,m,o,r,t,z,A,C,D⟩:=ac;go_wp2_with fail;refine(HIS.out w1 ai).mono ?_;rintro e w2 ⟨rfl,hb2⟩;have T2:=q9 T1 hb2 rfl;have W:=q9 ai hb2 rfl;have BZ2:=BZ1.next hb2;have ac:=kk14 hb2 V X Y Z aa l m o r t z A C D;clear V X Y Z aa l m o r t z A C D;obtain⟨V,X,Y,Z,aa,l,m,o,r,t,z,A,C,D⟩:=ac;clear BZ1 BZ BP BQ
  rcases sb with _|_
  .have U:=zaa (q6k (q5d (x:=x) (s:=s) (fun h=>by rw[HSB.out]at h;exact absurd h.2.1 (by decide))))
   have f:=BZ2;obtain⟨H,I,J,K,L,M,N,O,P,Q⟩:=cf5 f;have i:=zaa (q18 f (.bool false) (.int .i64 0) (.slice none 0 0) (.slice none 0 0) (.int .i64 0));have j:=zaa (q10 T2 (g:=w.heap.size+1+1) (by omega) (.bool false) (.int .i64 0) (.slice none 0 0) (.slice none 0 0) (.int .i64 0));clear f;go_wp2_with fail
   (try simp only[Exit.inBlock,Exit.then])
   refine zat (v:=.tuple #[.agg #[.bool false,.int .i64 0,.slice none 0 0,.slice none 0 0,.int .i64 0],.bool false]) (qn rfl _ _ (w.heap.size+1+1) 27 #[.bool false,.int .i64 0,.slice none 0 0,.slice none 0 0,.int .i64 0] (0,0) _ _ (by simp) i.out zbg rfl (by kernel_rfl) (by simp)) rfl ?_;exact q5i j.out U.out
  .rw[HXO.out]at V HCL
   obtain⟨kk,HKK⟩:∃k,Hid (s.1=k):=⟨_,zaa rfl⟩
   by_cases hbad:(xo=true↔s.1≠1)
   rotate_left
   .have U:=zaa (q6k (q5d (x:=x) (s:=s) (fun h=>by rw[HXO.out]at h;exact hbad h.2.2)))
    have hdec:(xo==(s.1 !=1))=false:=by
     rcases xo with _|_
     .by_cases h1:s.1=1
      .exact absurd (by simp[h1]) hbad
      .simp[h1]
     .by_cases h1:s.1=1
      .simp[h1]
      .exact absurd (by simp[h1]) hbad
    clear hbad;have f:=BZ2;obtain⟨H,I,J,K,L,M,N,O,P,Q⟩:=cf5 f;have i:=zaa (q18 f (.bool false) (.int .i64 0) (.slice none 0 0) (.slice none 0 0) (.int .i64 0));have j:=zaa (q10 T2 (g:=w.heap.size+1+1) (by omega) (.bool false) (.int .i64 0) (.slice none 0 0) (.slice none 0 0) (.int .i64 0));clear f;go_wp2_with fail
    (try simp only[Exit.inBlock,Exit.then])
    refine zat (v:=.tuple #[.agg #[.bool false,.int .i64 0,.slice none 0 0,.slice none 0 0,.int .i64 0],.bool false]) (qn rfl _ _ (w.heap.size+1+1) 27 #[.bool false,.int .i64 0,.slice none 0 0,.slice none 0 0,.int .i64 0] (0,0) _ _ (by simp) i.out zbg rfl (by kernel_rfl) (by simp)) rfl ?_;exact q5i j.out U.out
   .have hdec:(xo==(s.1 !=1))=true:=by
     rcases xo with _|_
     .by_cases h1:s.1=1
      .simp[h1]
      .exact absurd (hbad.2 h1) (by decide)
     .by_cases h1:s.1=1
      .exact absurd h1 (hbad.1 rfl)
      .simp[h1]
    have HBD:=zaa hbad;clear hbad;go_wp2_with fail;refine(HCL.out w2 W).mono ?_;rintro e G ⟨v,u,rfl,hLP,aj⟩;have T3:=q9 T2 aj rfl;obtain⟨A1,c1,A2,c2,rfl,rfl,hc2⟩:=hLP.d.w.slices;have hLD:=hLP.d.mono (lo':=w0.heap.size) W.size;have ac:=kk9 aj l m o r t z A C D;clear l m o r t z A C D;obtain⟨l,m,o,r,t,z,A,C,D⟩:=ac;obtain⟨w4,HW4⟩:∃wb,Hid (wb=G.alloc (.cells #[.bool x.1,.int .i64 x.2.1.1,.slice A1 x.2.1.2.length c1,.slice A2 x.2.2.1.length c2,.int .i64 x.2.2.2] 27)):=⟨_,zaa rfl⟩;have hb4:Below G.heap.size G w4:=by rw[HW4.out];exact qm _ _
    have BG4:Blk w4 G.heap.size 27 #[.bool x.1,.int .i64 x.2.1.1,.slice A1 x.2.1.2.length c1,.slice A2 x.2.2.1.length c2,.int .i64 x.2.2.2]:=by rw[HW4.out];exact Blk.new _ _ _
    have T4:=q9 T3 hb4 rfl;have hb24:=q9 aj hb4 rfl;have BZ4:=BZ2.next hb24;have ae:=hLD.next hb4;have hz34:G.heap.size<w4.heap.size:=BG4.lt;have hz3:w.heap.size+1+1<G.heap.size:=by have:=BZ2.lt;have:=aj.size;omega
    have hl3:w.heap.size<=G.heap.size:=by omega
    have ac:=kk9 hb4 l m o r t z A C D;clear l m o r t z A C D;obtain⟨l,m,o,r,t,z,A,C,D⟩:=ac;clear V X Y Z aa hLP hLD HCL HIL HIS BZ2;go_upto_region 4 with fail;rw[<-HW4.out]
    by_cases hk1:s.1=1
    .have hko:xo=false:=by
      rcases xo with _|_
      .rfl
      .exact absurd hk1 (HBD.out.1 rfl)
     have HAL:Hid (labB x=true/\q2z s=true/\(x.1=true↔s.1≠1)):=⟨HLB.out,HSB.out,by rw[HXO.out];exact HBD.out⟩;have hkt:(s.1==1)=true:=by rw[hk1];rfl
     have HSL:=zaa (qc1 HAL.out hk1);have HP4:=zaa (HPA.out w4 (q9 W hb24 rfl));clear hk1 hko hdec;go_wp2_with fail;refine HP4.out.mono ?_;rintro e w5 ⟨csA,blA,rfl,hOA,hIA,ak⟩;have T5:=q9 T4 ak rfl
     rcases qm1 s.2.1 with⟨q1,q2,q3⟩|⟨a,q1,q2,q3⟩
     .have U:=zaa (q6k (HSL.out.trans (by rw[q1];rfl)))
      rw[q2]at hOA;obtain⟨R,S,cssA,blsA,rfl,af,hblA,-⟩:=PO.of_own hOA hIA (zad _);rw[q3];have E:=qm w5 (.cells #[.int .i64 0,.slice R 0 S] 24);have T6:=q9 T5 E rfl;have BZ6:=(BZ4.next ak).next E;obtain⟨w6,ah⟩:∃wb,Hid (wb=w5.alloc (.cells #[.int .i64 0,.slice R 0 S] 24)):=⟨_,zaa rfl⟩;rw[<-ah.out]at T6 BZ6;clear q1 q2 q3 E;go_upto_region 6 with fail
      (try simp only[List.length_nil])
      rw[<-ah.out];have f:=BZ6;obtain⟨H,I,J,K,L,M,N,O,P,Q⟩:=cf5 f;have i:=zaa (q18 f (.bool false) (.int .i64 0) (.slice none 0 0) (.slice none 0 0) (.int .i64 0));have j:=zaa (q10 T6 (g:=w.heap.size+1+1) (by omega) (.bool false) (.int .i64 0) (.slice none 0 0) (.slice none 0 0) (.int .i64 0));clear f;go_wp2_with fail
      (try simp only[Exit.inBlock,Exit.then])
      refine zat (v:=.tuple #[.agg #[.bool false,.int .i64 0,.slice none 0 0,.slice none 0 0,.int .i64 0],.bool false]) (qn rfl _ _ (w.heap.size+1+1) 27 #[.bool false,.int .i64 0,.slice none 0 0,.slice none 0 0,.int .i64 0] (0,0) _ _ (by simp) i.out zbg rfl (by kernel_rfl) (by simp)) rfl ?_;exact q5i j.out U.out
     .have U:=zaa (qgw (HSL.out.trans (by rw[q1];rfl)))
      rw[q2]at hOA;obtain⟨R,S,cssA,blsA,rfl,af,hblA,hInA⟩:=PO.of_own hOA hIA (zad _);rw[q3];have HIA:=zaa hInA;have E:=qm w5 (.cells #[.int .i64 a.1,.slice R a.2.length S] 24);obtain⟨w6,ah⟩:∃wb,Hid (wb=w5.alloc (.cells #[.int .i64 a.1,.slice R a.2.length S] 24)):=⟨_,zaa rfl⟩;rw[<-ah.out]at E;have BXA:Blk w6 w5.heap.size 24 #[.int .i64 a.1,.slice R a.2.length S]:=by rw[ah.out];exact Blk.new _ _ _
      have T6:=q9 T5 E rfl;have BZ6:=(BZ4.next ak).next E;have T:=(BG4.next ak).next E;have HLW:Hid (LabPW w.heap.size w6 (true,a,x.2.2.1,x.2.2.2) (.slice R a.2.length S) (.slice A2 x.2.2.1.length c2)):=by
       obtain⟨css,bls,dss,cls,h1,h4,h5⟩:=ae;refine⟨cssA,blsA,dss,cls,A2,_,c2,c2,rfl,hc2,(af.mono T4.size).next E,((h4.mono (by omega)).next ak).next E,fun b hb hb'=>?_⟩;have e1:=af.2.2.2 b hb;have e2:=h4.2.2.2 b hb';omega
      have cA0:=BXA.cell 0;have cA1:=BXA.cell 1;have cG0:=T.cell 0;have cG1:=T.cell 1;have cG2:=T.cell 2;have fG0:=T.frozen 0;have fG1:=T.frozen 1;have fG2:=T.frozen 2;simp at cA0 cA1 cG0 cG1 cG2;have hneg:G.heap.size≠w5.heap.size:=by have:=ak.size;omega
      have HBG:=zaa T;have HBX:=zaa BZ6;have HTX:=zaa T6;clear q1 q2 q3 hOA af ae T BZ6 T6 E hInA;go_upto_region 8 with fail;rw[<-ah.out]
      go_cut []from 40 to 42 (fun wx=>Blk wx G.heap.size 27 #[.bool true,.int .i64 a.1,.slice R a.2.length S,.slice A2 x.2.2.1.length c2,.int .i64 x.2.2.2]/\LabPW w.heap.size wx (true,a,x.2.2.1,x.2.2.2) (.slice R a.2.length S) (.slice A2 x.2.2.1.length c2)/\Below w.heap.size w wx/\Blk wx (w.heap.size+1+1) 27 #[.bool false,.int .i64 0,.slice none 0 0,.slice none 0 0,.int .i64 0])
      case first=>
       go_region
       all_goals
        go_wp2_with fail;go_meet;have B0:=HBG.out.set_ 0 (.bool true);have B1:=B0.set_ 1 (.int .i64 a.1);have B2:=B1.set_ 2 (.slice R a.2.length S);have L3:=((HLW.out.setB HBG.out (k:=0) (.bool true)).setB B0 (k:=1) (.int .i64 a.1)).setB B1 (k:=2) (.slice R a.2.length S);have T3':=((HTX.out.setCell (p:=⟨G.heap.size,0,none⟩) hl3 (.bool true)).setCell (p:=⟨G.heap.size,1,none⟩) hl3 (.int .i64 a.1)).setCell (p:=⟨G.heap.size,2,none⟩) hl3 (.slice R a.2.length S);have Z3:=((HBX.out.far (p:=⟨G.heap.size,0,none⟩) (by show _≠G.heap.size;omega) (.bool true)).far (p:=⟨G.heap.size,1,none⟩) (by show _≠G.heap.size;omega) (.int .i64 a.1)).far (p:=⟨G.heap.size,2,none⟩) (by show _≠G.heap.size;omega) (.slice R a.2.length S);have hd:∀wq:World,Below wq.heap.size wq wq.drew:=fun wq=>zai (zac _ _)
        exact⟨Blk.next (by simpa using B2) (hd _),LabPW.next L3 (hd _),q9 T3' (hd _) rfl,Blk.next Z3 (hd _)⟩
      case rest=>
       obtain⟨BG7,HL7,T7,BZ7⟩:=hcut;obtain⟨w7,HWC⟩:∃wq:World,wq=wc:=⟨_,rfl⟩;subst HWC;have HLZ:=zaa (LabPW.set5 HL7 BZ7 (.bool true) (.int .i64 a.1) (.slice R a.2.length S) (.slice A2 x.2.2.1.length c2) (.int .i64 x.2.2.2));clear cG0 cG1 cG2 fG0 fG1 fG2;obtain⟨cG0,cG1,cG2,cG3,cG4⟩:=cl5 BG7;have f:=BZ7;obtain⟨H,I,J,K,L,M,N,O,P,Q⟩:=cf5 f;have i:=zaa (q18 f (.bool true) (.int .i64 a.1) (.slice R a.2.length S) (.slice A2 x.2.2.1.length c2) (.int .i64 x.2.2.2));have j:=zaa (q10 T7 (g:=w.heap.size+1+1) (by omega) (.bool true) (.int .i64 a.1) (.slice R a.2.length S) (.slice A2 x.2.2.1.length c2) (.int .i64 x.2.2.2));clear f BG7 HL7 BZ7;go_wp2_with fail
       (try simp only[Exit.inBlock,Exit.then])
       refine zat (v:=.tuple #[.agg #[.bool true,.int .i64 a.1,.slice R a.2.length S,.slice A2 x.2.2.1.length c2,.int .i64 x.2.2.2],.bool true]) (qn rfl _ _ (w.heap.size+1+1) 27 #[.bool true,.int .i64 a.1,.slice R a.2.length S,.slice A2 x.2.2.1.length c2,.int .i64 x.2.2.2] (0,0) _ _ (by simp) i.out zbg rfl (by kernel_rfl) (by simp)) rfl ?_;exact qfk (x:=(true,a,x.2.2.1,x.2.2.2)) HLZ.out HIA.out HQR.out j.out U.out
    .have hko:xo=true:=HBD.out.2 hk1
     have hkt:(s.1==1)=false:=by rw[zbj];exact hk1
     have HAL:Hid (labB x=true/\q2z s=true/\(x.1=true↔s.1≠1)):=⟨HLB.out,HSB.out,by rw[HXO.out];exact HBD.out⟩;have HSM:=zaa (qc2 HAL.out hk1);have hl0:w0.heap.size<=G.heap.size:=by have:=W.size;have:=aj.size;omega
     have HM4:=zaa (HMS.out hk1 HLB.out HSB.out (HXO.out.trans hko) w0.heap.size w4 G.heap.size _ _ T4 (by omega) hl0 BG4 ae);have hzw:w.heap.size+1+1<w0.heap.size:=by omega
     have HZ4:=zaa BZ4;clear hk1 hko hdec BG4 ae BZ4;go_wp2_with fail;refine HM4.out.mono ?_;rintro e w5 ⟨hT5,hcase⟩;have T5:Below w.heap.size w w5:=T4.trans (hT5.mono (by omega));have hB0:w.heap.size<=w0.heap.size:=by omega
     have BZ5:=HZ4.out.below hT5 hzw;clear l m o r t z A C D ai hb2 W aj hb4 hb24 T1 T2 T3 T4 hT5 hz34 hkt hc2 HM4 HW4 HW0 hs0 hz3 hzw hl0 hl3 hn'
     rcases hcase with⟨hno,rfl⟩|⟨y,v,u,hyes,rfl,ag,ab,hI1,hI2⟩
     .have U:=zaa (q6k (by rw[HSM.out,hno,Option.bind_none]))
      clear hno;have f:=BZ5;obtain⟨H,I,J,K,L,M,N,O,P,Q⟩:=cf5 f;have i:=zaa (q18 f (.bool false) (.int .i64 0) (.slice none 0 0) (.slice none 0 0) (.int .i64 0));have j:=zaa (q10 T5 (g:=w.heap.size+1+1) (by omega) (.bool false) (.int .i64 0) (.slice none 0 0) (.slice none 0 0) (.int .i64 0));clear f;go_wp2_with fail
      (try simp only[Exit.inBlock,Exit.then])
      refine zat (v:=.tuple #[.agg #[.bool false,.int .i64 0,.slice none 0 0,.slice none 0 0,.int .i64 0],.bool false]) (qn rfl _ _ (w.heap.size+1+1) 27 #[.bool false,.int .i64 0,.slice none 0 0,.slice none 0 0,.int .i64 0] (0,0) _ _ (by simp) i.out zbg rfl (by kernel_rfl) (by simp)) rfl ?_;exact q5i j.out U.out
     .obtain⟨Av,cv,Au,cu,rfl,rfl,hcu⟩:=ab.slices
      have ad:=zaa (HSM.out.trans (by rw[hyes]));obtain⟨yo,⟨ya,yops⟩,yfs,yr⟩:=y;simp only at ag ab ad hI1 hI2 hcu⊢;obtain⟨nf,HNF⟩:∃q,Hid (yfs.length=q):=⟨_,zaa rfl⟩;obtain⟨no,HNO⟩:∃q,Hid (yops.length=q):=⟨_,zaa rfl⟩;rw[HNF.out,HNO.out]at ag ab;clear hcu hyes;have HI1:=zaa hI1;have HI2:=zaa hI2;obtain⟨cG0,cG1,cG2,cG3,cG4⟩:=cl5 ag
      by_cases h12:(12:Int)<(nf:Int)
      .have U:=zaa (q6k (ad.out.trans (zaj (fun h=>by have:=h.1;have:=HNF.out;simp only at*;omega))))
       clear ag ab hI1 hI2;have f:=BZ5;obtain⟨H,I,J,K,L,M,N,O,P,Q⟩:=cf5 f;have i:=zaa (q18 f (.bool false) (.int .i64 0) (.slice none 0 0) (.slice none 0 0) (.int .i64 0));have j:=zaa (q10 T5 (g:=w.heap.size+1+1) (by omega) (.bool false) (.int .i64 0) (.slice none 0 0) (.slice none 0 0) (.int .i64 0));clear f;go_wp2_with fail
       (try simp only[Exit.inBlock,Exit.then])
       refine zat (v:=.tuple #[.agg #[.bool false,.int .i64 0,.slice none 0 0,.slice none 0 0,.int .i64 0],.bool false]) (qn rfl _ _ (w.heap.size+1+1) 27 #[.bool false,.int .i64 0,.slice none 0 0,.slice none 0 0,.int .i64 0] (0,0) _ _ (by simp) i.out zbg rfl (by kernel_rfl) (by simp)) rfl ?_;exact q5i j.out U.out
      .by_cases h99:(9999:Int)<yr
       .have U:=zaa (q6k (ad.out.trans (zaj (fun h=>by have:=h.2;simp only at*;omega))))
        clear ag ab hI1 hI2;have f:=BZ5;obtain⟨H,I,J,K,L,M,N,O,P,Q⟩:=cf5 f;have i:=zaa (q18 f (.bool false) (.int .i64 0) (.slice none 0 0) (.slice none 0 0) (.int .i64 0));have j:=zaa (q10 T5 (g:=w.heap.size+1+1) (by omega) (.bool false) (.int .i64 0) (.slice none 0 0) (.slice none 0 0) (.int .i64 0));clear f;go_wp2_with fail
        (try simp only[Exit.inBlock,Exit.then])
        refine zat (v:=.tuple #[.agg #[.bool false,.int .i64 0,.slice none 0 0,.slice none 0 0,.int .i64 0],.bool false]) (qn rfl _ _ (w.heap.size+1+1) 27 #[.bool false,.int .i64 0,.slice none 0 0,.slice none 0 0,.int .i64 0] (0,0) _ _ (by simp) i.out zbg rfl (by kernel_rfl) (by simp)) rfl ?_;exact q5i j.out U.out
       .have U:=zaa (qgw (ad.out.trans (zam ⟨by have:=HNF.out;show yfs.length<=12;omega,by show yr<=9999;omega⟩)))
        have HLZ:=zaa (LabPW.set5 (ab.mono hB0) BZ5 (.bool yo) (.int .i64 ya) (.slice Av no cv) (.slice Au nf cu) (.int .i64 yr):LabPW w.heap.size _ _ _ _);clear ab hI1 hI2;have f:=BZ5;obtain⟨H,I,J,K,L,M,N,O,P,Q⟩:=cf5 f;have i:=zaa (q18 f (.bool yo) (.int .i64 ya) (.slice Av no cv) (.slice Au nf cu) (.int .i64 yr));have j:=zaa (q10 T5 (g:=w.heap.size+1+1) (by omega) (.bool yo) (.int .i64 ya) (.slice Av no cv) (.slice Au nf cu) (.int .i64 yr));clear f ag;go_upto_region 12 with fail;clear h12 h99;go_wp2_with fail
        (try simp only[Exit.inBlock,Exit.then])
        refine zat (v:=.tuple #[.agg #[.bool yo,.int .i64 ya,.slice Av no cv,.slice Au nf cu,.int .i64 yr],.bool true]) ?hr rfl ?_
        case hr=>exact qn rfl _ _ (w.heap.size+1+1) 27 #[.bool yo,.int .i64 ya,.slice Av no cv,.slice Au nf cu,.int .i64 yr] (0,0) _ _ rfl i.out zbg rfl (by kernel_rfl) rfl
        exact qfk (x:=(yo,(ya,yops),yfs,yr)) HLZ.out HI1.out HI2.out j.out U.out
theorem qht (B:Nat) (ds:List Value) (x:LabM) (s:qq) (N w:World) (g:Nat) (v u:Value) (hg:B<=g) (k:Blk w g 27 #[.bool x.1,.int .i64 x.2.1.1,v,u,.int .i64 x.2.2.2]) (hD:LabD B w x v u) (aa:Below N.heap.size N w) (haB:N.heap.size<=B) (V:qh.rd N ds s) (hx:AlgP x.2.1) (Z:x.2.2.1.length<=12) (hr:0<=x.2.2.2/\x.2.2.2<=9999) (J:∀f∈x.2.2.1,q1c x.2.1 f=true) (Y:∀f∈x.2.2.1,qj.cnt f<=1048576) (hB:B<=w.heap.size) (a b:Nat) (o:s.2.2.2.2.1=(a:Int)) (p:s.2.2.2.2.2=(b:Int)) (c:s.1=3\/s.1=4):
  Calls Tryz.prog 45 #[.pointer (some ⟨g,0,none⟩),.agg ds.toArray] w (MkO B g x s w):=by
 obtain⟨j,L,G,H⟩:∃(j:Bool) (L:Int),s.1=L/\((L=3/\j=false)\/(L=4/\j=true)):=c.elim (fun h=>⟨false,3,h,.inl ⟨rfl,rfl⟩⟩) fun h=>⟨true,4,h,.inr ⟨rfl,rfl⟩⟩
 have r:=fun(i:World) (v u:Value) (h1:B<=i.heap.size) (h2:Blk i g 27 #[.bool x.1,.int .i64 x.2.1.1,v,u,.int .i64 x.2.2.2]) (h3:LabD B i x v u)=>qn9 B x j L (by rcases H with⟨rfl,rfl⟩|⟨rfl,rfl⟩<;>decide) a b i g v u h1 hg h2 h3 hx Z hr J
 rcases H with⟨rfl,rfl⟩|⟨rfl,rfl⟩
 all_goals
  have z:=hD;have I:=V;obtain⟨AL,nL,cL,AR,nR,cR,AV,nV,cV,AS,nS,cS,rfl,pK,pT,pF,pL,pR,pV,pS,pA,pB⟩:=q1a V;obtain⟨css,bls,dss,cls,m,l,W⟩:=hD;obtain⟨A1,c1,rfl⟩:=qu m.2.1;obtain⟨A2,c2,rfl⟩:=qu l.2.1;obtain⟨i,K,q,d,BQ⟩:=q15 w #[.int .i64 s.1,.string s.2.1,.int .i64 s.2.2.1.1,.slice AL nL cL,.slice AR nR cR,.slice AV nV cV,.slice AS nS cS,.int .i64 s.2.2.2.2.1,.int .i64 s.2.2.2.2.2] 59;have R:=zaa K;have hgw:=k.lt;have BG:=k.next q;have D:=m.next q;have C:=l.next q;have TB:Below B w i:=q.mono (by omega);have Q:=zaa TB;have hs0:i.heap.size=w.heap.size+1:=d;obtain⟨cG0,cG1,cG2,cG3,cG4,fG0,fG1,fG2,fG3,fG4⟩:=cf5 BG;obtain⟨S,cQ1,cQ2,cQ3,cQ4,cQ5,cQ6,T,U⟩:=cl9 BQ;have O:Hid (makM x s=(twoF x s.1 (a:Int) (b:Int)).map (addF x)):=by
   show _=_
   unfold makM;rw[zaj (by rw[G];decide),zam (by rw[G];decide),o,p]
  have HC:=zaa (r i _ _ (by omega) BG (z.next q));rw[G]at S;rw[G]at O;rw[o]at T;rw[p]at U;clear G o p c r;clear K d V I m l D C W TB q pK pT pF pL pR pV pS pA pB k aa Y J hx z
  go_enter Tryz.func45,Tryz.ntmps45
  go_upto_region 1 with fail;rw[<-R.out];go_wp2_with fail;refine HC.out.mono ?_;rintro e w1 ⟨X,n⟩;have hT:=Q.out.trans X
  rcases n with⟨hn,rfl⟩|⟨y,v',u',hs,rfl,t,A,E,F⟩
  .have P:=zaa (O.out.trans hn)
   clear hn;go_wp2_with fail;go_ret;exact⟨hT,Or.inl ⟨P.out,rfl⟩⟩
  .have P:=zaa (O.out.trans hs)
   have M:=zaa (zao t (zao A (zao E F)));clear hs t A E F;go_wp2_with fail;go_ret;exact⟨hT,zew ⟨y,v',u',P.out,rfl,M.out.1,M.out.2.1,M.out.2.2.1,M.out.2.2.2⟩⟩
theorem qml {s:qq} (h:q2z s=true):(s.1=3\/s.1=4->0<=s.2.2.2.2.1/\0<=s.2.2.2.2.2)/\(s.1=5->0<=s.2.2.2.2.1)/\1<=s.1/\s.1<=7:=by
 unfold q2z at h
 by_cases h1:s.1=1
 .exact⟨by omega,by omega,by omega,by omega⟩
 rw[zaj h1]at h
 by_cases h2:s.1=2
 .exact⟨by omega,by omega,by omega,by omega⟩
 rw[zaj h2]at h
 by_cases h3:s.1=3\/s.1=4
 .rw[zam h3,zal,zal,zax,zax]at h
  exact⟨fun _=>h.2,by omega,by omega,by omega⟩
 rw[zaj h3]at h
 by_cases h5:s.1=5
 .rw[zam h5,zal,zax]at h
  exact⟨by omega,fun _=>h.2,by omega,by omega⟩
 rw[zaj h5]at h
 by_cases h6:s.1=6
 .exact⟨by omega,by omega,by omega,by omega⟩
 rw[zaj h6]at h
 by_cases h7:s.1=7
 .exact⟨by omega,by omega,by omega,by omega⟩
 rw[zaj h7]at h;cases h
theorem qeg (B:Nat) (ds:List Value) (x:LabM) (s:qq) (p w:World) (g:Nat) (v u:Value) (H:B<=w.heap.size) (r:B<=g) (d:Blk w g 27 #[.bool x.1,.int .i64 x.2.1.1,v,u,.int .i64 x.2.2.2]) (q:LabD B w x v u) (k:Below p.heap.size p w) (m:p.heap.size<=B) (z:qh.rd p ds s) (j:labB x=true) (M:x.1=true) (G:q2z s=true) (N:s.1≠1) (o:q19.cnt x<=1048576) (J:qh.cnt s<=1048576):
  Calls Tryz.prog 45 #[.pointer (some ⟨g,0,none⟩),.agg ds.toArray] w (MkO B g x s w):=by
 obtain⟨h,i,f,E⟩:=q85 j;obtain⟨y,I,K,L⟩:=qml G;have t:=E M;have l:=qh.stab z k.block;have n:qj.cnt s.2.2.1<=1048576:=by
  have e:qh.cnt s=0+(Sh.str.cnt s.2.1+(qj.cnt s.2.2.1+(s.2.2.2.1.length+(0+0)))):=rfl;omega
 rcases(by omega:s.1=2\/s.1=3\/s.1=4\/s.1=5\/s.1=6\/s.1=7)with c|c|c|c|c|c
 .exact qqk B ds x s w g v u r d q l t f ⟨h,i⟩ n c
 .obtain⟨A,C⟩:=y (.inl c)
  obtain⟨a,D⟩:=zan A;obtain⟨b,F⟩:=zan C;exact qht B ds x s p w g v u r d q k m z t f ⟨h,i⟩ (q6y j) (qci o) H a b D F (.inl c)
 .obtain⟨A,C⟩:=y (.inr c)
  obtain⟨a,D⟩:=zan A;obtain⟨b,F⟩:=zan C;exact qht B ds x s p w g v u r d q k m z t f ⟨h,i⟩ (q6y j) (qci o) H a b D F (.inr c)
 .exact qql B ds x s w g v u r d q l t f ⟨h,i⟩ n c (I c)
 .exact qqm B ds x s p w g v u r d q k m z t f ⟨h,i⟩ (q6y j) (qci o) c
 .exact qqn B ds x s w g v u r d q l t f ⟨h,i⟩ n c
theorem qj5 (cs ds:List Value) (x:LabM) (s:qq) (w:World) (h:q19.rd w cs x) (b:qbe cs) (j:qh.rd w ds s) (k:q19.cnt x<=1048576) (e:s.2.1.size<=1048576) (c:qh.cnt s<=1048576) (p:TabP w):
  Calls Tryz.prog 16 #[.agg cs.toArray,.agg ds.toArray] w (OwA q31 w (slR x s) (slOk x s)):=
 qfx cs ds x s w h b j k e p fun l d f o B r g v u q i n a m=>qeg B ds x s w r g v u (by have:=a.lt;omega) n a m q i j d o f l k c
theorem qri (l:List qy):cntS q29 l=l.length+cntS qj.cnt l:=by
 induction l with
 |nil=>rfl
 | cons y l ih =>
   rw [q1h, q1h, ih, za0];show (1 + y.2.1.1.length + y.2.1.2.length + y.2.2.length) + _ = _ + ((0 + ((y.2.1.1.length + y.2.1.2.length) + y.2.2.length)) + _)
   omega
theorem qp6 {a:qi} (h:AlgP a):q1i a<=20000:=by
 have b:∀l:List OpM,(∀o∈l,OpP a.1.toNat o)->cntS mcOp l<=l.length*4097:=by
  intro l
  induction l with
  |nil=>intro _;exact zah _
  | cons o l ih =>
    intro d;rw [q1h, za0, zet];have e := ih fun o f => d o (by simp [f])
    have c := qph (d o (by simp)) (by have := h.2.1; omega);have g : mcOp o = 1 + o.2.length := rfl;omega
 have e:=b a.2 h.2.2.2;have c:=h.2.2.1;have i:=zd7 4097 c;show cntS mcOp a.2<=20000
 omega
theorem qpr {x:qq} (h:qh.cnt x<=1048576):x.2.1.size<=1048576:=by
 have a:qh.cnt x=0+(x.2.1.size+(qj.cnt x.2.2.1+(x.2.2.2.1.length+(0+0)))):=rfl;omega
theorem qk9:∀ {l:List Int} {a b:Int},l.Pairwise (· < ·)->(∀v∈l,a<=v/\v<b)->a<=b->(l.length:Int)<=b - a
 | [],a,b,_,_,h=>by show(0:Int)<=b - a;omega
 | x :: l, a, b, hp, hb, h => by
   have h1 := hb x zaq
   have d := qk9 (l := l) (a := x + 1) (b := b) (zd4.1 hp).2 (fun v c => by
     have e := (zd4.1 hp).1 v c;have f := hb v (zap _ c)
     omega) (by omega)
   rw [za0];omega
theorem qko {x:qi} {f:qy} (n:AlgP x) (h:q1c x f=true):q29 f<=1000:=by
 have l:x.1.toNat<=8:=by have:=n.2.1;omega
 have j:∀ {V:List Int},q1z 0 ((x.1.toNat:Int) - 1) V=true->q24 V=true->V.length<=8:=fun {V} e g=>by
  have o:=qk9 (a:=0) (b:=(x.1.toNat:Int)) (q39.1 g) (fun v m=>by have:=(q38.1 e) v m;omega) (by omega);omega
 have i:q29 f=1+f.2.1.1.length+f.2.1.2.length+f.2.2.length:=rfl
 rcases q2j.1 h with⟨-,e,g⟩|⟨-,e,g⟩|⟨k,e⟩
 .unfold q5r at e
  rw[zal]at e;have a:=(q28 (q56 e.1).1).1;have b:=(q28 (q56 e.1).2).1;rw[g]at i;rw[i];simp only[List.length_nil];omega
 .have a:=(q28 (q56 e).1).1
  have b:=(q28 (q56 e).2).1;unfold q3f at g;rw[zal,zal,zax]at g;have c:=qoa f.2.1.1 f.2.1.2;have d:=g.2.1;omega
 .unfold noEq at k
  rw[zal,zax,zax]at k
  rcases e with⟨-,e⟩|⟨-,e⟩|⟨-,e⟩|⟨-,e⟩
  .unfold subB at e
   rw[zal,zal]at e;have:=j e.1.1 e.1.2;omega
  .unfold q2k at e
   rw[zal]at e;have:=(q2h.1 e.1:ParP _ _).1;omega
  .unfold genB at e
   rw[zal,zal]at e;have:=j e.1.1 e.1.2;omega
  .unfold homB at e
   rw[zal,zal,zax]at e;have:=e.1.1;omega
theorem qke {α:Type} (f:α->Nat) (c:Nat):∀ {l:List α},(∀x∈l,f x<=c)->cntS f l<=c*l.length
 | [],_=>zah _
 | x :: l, h => by
   rw [q1h, za0, Nat.mul_succ];have h1 := qke f c (l := l) fun y a => h y (zap _ a)
   have b := h x zaq;omega
theorem qpy {a:qi} (h:AlgP a):qf.cnt a<=20000:=by
 have b:=qp6 h;have c:∀l:List OpM,cntS mcOp l=l.length+cntS shOp.cnt l:=by
  intro l
  induction l with
  |nil=>rfl
  | cons o l ih =>
    rw [q1h, q1h, za0, ih];have : mcOp o = 1 + shOp.cnt o := by show 1 + o.2.length = 1 + (0 + o.2.length); omega
    omega
 have e:qf.cnt a=0+(a.2.length+cntS shOp.cnt a.2):=rfl;have d:q1i a=cntS mcOp a.2:=rfl;rw[d,c]at b;omega
theorem q86 {x:LabM} (h:labB x=true):q53 x<=4194304/\q19.cnt x<=1048576:=by
 have i:q19.cnt x=0+(qf.cnt x.2.1+((x.2.2.1.length+cntS qj.cnt x.2.2.1)+0)):=rfl;have k:q53 x=q1i x.2.1+cntS q29 x.2.2.1:=rfl;have j:=qri x.2.2.1
 rcases ho:x.1 with _|_
 .obtain⟨-,-,e,g⟩:=(q6b ho).1 h
  rw[e,g]at i k;have m:qf.cnt (0, [])=0:=rfl;have n:q1i (0, [])=0:=rfl;have o:cntS qj.cnt []=0:=rfl;have p:cntS q29 []=0:=rfl;rw[m,o]at i;rw[n,p]at k;simp only[List.length_nil]at i;omega
 .obtain⟨-,-,e,g,q⟩:=(q2m ho).1 h
  have a:=qp6 e;have b:=qpy e;have c:=qke q29 1000 (l:=x.2.2.1) fun f j=>qko e (q.1 f j)
  have d:1000*x.2.2.1.length<=1000*12:=zem _ g;omega
noncomputable def runF (p:LabM×Nat) (s:qq):LabM×Nat:=match q6m p.1 s with
 |some z=>(z,p.2+1)
 |none=>p
noncomputable def runL (x:LabM) (ss:List qq):LabM×Nat:=ss.foldl runF (x,0)
noncomputable def ruB (x:LabM) (ss:List qq):Bool:=labB x &&decide (ss.length<=30)
noncomputable def ruM (x:LabM) (ss:List qq):LabM:=if ruB x ss then(runL x ss).1 else zLab
noncomputable def ruN (x:LabM) (ss:List qq):Int:=if ruB x ss then((runL x ss).2:Int)else 0
theorem qid {x:LabM} {ss:List qq} {k:Nat} {s:qq} (h:ss[k]?=some s):runL x (ss.take (k+1))=runF (runL x (ss.take k)) s:=by
 unfold runL;rw[q3a h,List.foldl_append];rfl
theorem qpp {x:LabM} (h:labB x=true):∀ {ss:List qq} {n:Nat},labB (ss.foldl runF (x,n)).1=true/\(ss.foldl runF (x,n)).2<=n+ss.length:=by
 intro ss
 induction ss generalizing x with
 |nil=>intro n;exact⟨h,zad _⟩
 | cons s ss ih =>
   intro n;rw [List.foldl_cons, za0]
   rcases e : q6m x s with _ | z
   . have a : runF (x, n) s = (x, n) := by unfold runF; rw [e]
     rw [a];have := ih h (n := n);exact ⟨this.1, by omega⟩
   . have a : runF (x, n) s = (z, n + 1) := by unfold runF; rw [e]
     rw [a];have := ih (qjy e) (n := n + 1);exact ⟨this.1, by omega⟩
theorem qpo {x:LabM} (h:labB x=true) (ss:List qq) (k:Nat):labB (runL x (ss.take k)).1=true/\(runL x (ss.take k)).2<=k:=by
 have:=qpp h (ss:=ss.take k) (n:=0);exact⟨this.1,za7 this.2 (by rw[za9];omega)⟩
theorem qrx {x:LabM} {ss:List qq}:q53 (ruM x ss)<=4194304:=by
 unfold ruM
 by_cases h:ruB x ss=true
 .rw[zam h]
  unfold ruB at h;rw[zal]at h;have:=(qpp h.1 (ss:=ss) (n:=0)).1;exact(q86 this).1
 .rw[zaj h]
  show 0+0<=4194304
  omega
theorem qol {x:LabM} {ss:List qq} (h:ruB x ss=false):ruM x ss=zLab/\ruN x ss=0:=by
 unfold ruM ruN;rw[h];exact⟨rfl,rfl⟩
theorem qpn {x:LabM} {ss:List qq} (h:ruB x ss=true):ruM x ss=(runL x ss).1/\ruN x ss=((runL x ss).2:Int):=by
 unfold ruM ruN;rw[h];exact⟨rfl,rfl⟩
theorem q34 {P:Program} {fn:Func} {p u u2:Tmp} {e:TypeId} (h:fn.results= #[.cell p e,.tmp u,.tmp u2]) (a:Array Value) (w:World) (g:Nat) (t:TypeId) (cs:Array Value) (i:Nat×Nat) (d:TypeDesc) (b f:Value)
  (k:a.getD p undef=.pointer (some ⟨g,0,none⟩)) (j:a.getD u undef=b) (c:(a.getD u2 undef=f)) (l:w.heap[g]?=some (.cells cs t i))
  (m:P.underlying e=some d) (hd:(match d with| .struct _| .array _ _=>true|_=>false)=true) (hi:(P.info? e).map (·.size)=some cs.size):
  (results fn a).run P w=.ok (.tuple #[.agg cs,b,f]) w:=by
 simp only[Array.getD_eq_getD_getElem?]at k j c;simp only[results,h];simp[Sem.run_bind,Result.andThen,k,asAddr,run_loadVar_row w g t e cs i d l m hd hi,j,c]
theorem qq2 {w:World} {cs:List Value} {x:LabM} {f:List Nat} (h:q31.own w cs x f):qbe cs:=by
 obtain⟨g,_,_,_,rfl,-,⟨_,rfl,-⟩,⟨i,j,_,_,rfl,-,⟨_,_,_,_,rfl,-,⟨_,rfl,-⟩,⟨l,_,_,rfl,-⟩⟩,⟨k,_,_,_,rfl,-,⟨B,n,c,d,_,_,rfl,a,-⟩,-⟩⟩⟩:=h;intro F m e b;simp at b;obtain⟨-,rfl,rfl⟩:=b;exact a
def OwA3 {α:Type} (S:Sh α) (w:World) (x:α) (n:Int) (ok:Bool) (e:Ending) (w':World):Prop:=∃cs bl,e=.returned (.tuple #[.agg cs.toArray,.int .i64 n,.bool ok])/\S.own w' cs x bl/\Iv w.heap.size w'.heap.size bl/\Below w.heap.size w w'
def RdA3 {α:Type} (S:Sh α) (w:World) (x:α) (n:Int) (ok:Bool) (e:Ending) (w':World):Prop:=∃cs,e=.returned (.tuple #[.agg cs.toArray,.int .i64 n,.bool ok])/\S.rd w' cs x/\Below w.heap.size w w'
theorem qp3 {w w':World} (b:Below w.heap.size w w'):OwA3 q31 w zLab 0 false (.returned (.tuple #[.agg #[.bool false,.int .i64 0,.slice none 0 0,.slice none 0 0,.int .i64 0],.int .i64 0,.bool false])) w':=by
 obtain⟨a,d,c⟩:=(qaj w.heap.size w').own ⟨by decide,by decide⟩ ⟨by decide,by decide⟩;exact⟨_,a,rfl,d,c,b⟩
theorem qfc {ss:List qq} {k:Nat} {s:qq} (h:ss[k]?=some s) (c:(Sh.rows qh 59).cnt ss<=1048576):qh.cnt s<=1048576:=by
 have a:=q3w (f:=qh.cnt) (zaf h);have b:(Sh.rows qh 59).cnt ss=ss.length+cntS qh.cnt ss:=rfl;omega
theorem qd8 {w:World} {g:Nat} {a b c d e:Value} {k:Nat} (h:k≠g):(((((w.setCell ⟨g,0,none⟩ a).setCell ⟨g,1,none⟩ b).setCell ⟨g,2,none⟩ c).setCell ⟨g,3,none⟩ d).setCell ⟨g,4,none⟩ e).heap[k]?=w.heap[k]?:=by
 rw[za8 _ ⟨g,4,none⟩ _ k h,za8 _ ⟨g,3,none⟩ _ k h,za8 _ ⟨g,2,none⟩ _ k h,za8 _ ⟨g,1,none⟩ _ k h,za8 _ ⟨g,0,none⟩ _ k h]
theorem qhz {α:Type} {S:Sh α} {w:World} {cs:List Value} {x:α} {i:List Nat} {g:Nat} (h:S.own w cs x i) (f:g∉i) (a b c d e:Value):S.own (((((w.setCell ⟨g,0,none⟩ a).setCell ⟨g,1,none⟩ b).setCell ⟨g,2,none⟩ c).setCell ⟨g,3,none⟩ d).setCell ⟨g,4,none⟩ e) cs x i:=
 Sh.oset' (p:=⟨g,4,none⟩) (Sh.oset' (p:=⟨g,3,none⟩) (Sh.oset' (p:=⟨g,2,none⟩) (Sh.oset' (p:=⟨g,1,none⟩) (Sh.oset' (p:=⟨g,0,none⟩) h f _) f _) f _) f _) f _
theorem qds {w:World} {g q:Nat} {t:TypeId} {cs:Array Value} (h:Blk w q t cs) (f:q≠g) (a b c d e:Value):Blk (((((w.setCell ⟨g,0,none⟩ a).setCell ⟨g,1,none⟩ b).setCell ⟨g,2,none⟩ c).setCell ⟨g,3,none⟩ d).setCell ⟨g,4,none⟩ e) q t cs:=(qd8 f).trans h
theorem qbl (cs:List Value) (v:Value) (x:LabM) (ss:List qq) (w:World) (h:q19.rd w cs x) (hcap:qbe cs) (h':(Sh.rows qh 59).rd w [v] ss) (hn:q19.cnt x<=1048576) (hn':(Sh.rows qh 59).cnt ss<=1048576) (ht:TabP w):
  Calls Tryz.prog 25 #[.agg cs.toArray,v] w (OwA3 q31 w (ruM x ss) (ruN x ss) (ruB x ss)):=by
 have Z:=h;obtain⟨Bo,k,d,F,n,c,rfl,-,-,-,-⟩:=q42 h;obtain⟨A9,T,c9,e9,hR⟩:=h';injection e9 with e9 _
 subst e9;have hlen:=hR.len;have hm9:T<=1048576:=by
  have h2:(Sh.rows qh 59).cnt ss=ss.length+cntS qh.cnt ss:=rfl;omega
 obtain⟨w0,hw0,T0,hsz0,BP,f⟩:=q1q w #[.bool x.1,.int .i64 x.2.1.1,.slice Bo k d,.slice F n c,.int .i64 x.2.2.2] #[.bool false,.int .i64 0,.slice none 0 0,.slice none 0 0,.int .i64 0] 27 27;have HW0:=zaa hw0;have hs0:w.heap.size+1<w0.heap.size:=by omega
 have HT0:=zaa T0;have HLEN:=zaa hlen;have HNN:=zaa hn';have HIL:=zaa (q7e _ x w0 (q19.stab Z T0.block) hcap);have HCL:Hid (∀wz,Below w0.heap.size w0 wz->Calls Tryz.prog 43 #[.agg #[.bool x.1,.int .i64 x.2.1.1,.slice Bo k d,.slice F n c,.int .i64 x.2.2.2]] wz (LabE wz x)):=fun wz hz=>q8y _ x wz (q19.stab (q19.stab Z T0.block) hz.block) hn
 have HTB:=zaa (ht.next T0);have HIN:Hid (InR x.2.1.1/\InR x.2.2.2):=by
  obtain⟨_,_,_,_,_,_,-,q1,-,-,q2⟩:=q42 Z;exact⟨q1,q2⟩
 obtain⟨cP0,cP1,cP2,cP3,cP4⟩:=cl5 BP;obtain⟨lb,HLB⟩:∃b,Hid (labB x=b):=⟨_,zaa rfl⟩;rw[HLB.out]at HIL;obtain⟨rb,t⟩:∃b,Hid (ruB x ss=b):=⟨_,zaa rfl⟩;have HRV:Hid (rb=(lb &&decide (T<=30))):=by show _=_;rw[<-t.out,<-HLB.out,<-HLEN.out];rfl
 have HRR:=zaa (hR.next (S:=qh) T0);clear hw0 hsz0 h Z T0 hlen hn' hR hcap hn ht
 go_enter Tryz.func25,Tryz.ntmps25
 go_upto_region 1 with fail;rw[<-HW0.out];go_wp2_with fail;refine HIL.out.mono ?_;rintro e w1 ⟨rfl,M⟩;have T1:=q9 HT0.out M rfl;replace f:=f.next M;replace BP:=BP.next M;clear cP0 cP1 cP2 cP3 cP4;obtain⟨cP0,cP1,cP2,cP3,cP4⟩:=cl5 BP
 rcases lb with _|_
 .obtain rfl:rb=false:=HRV.out
  have HE:=zaa (qol t.out);obtain⟨cZ0,cZ1,cZ2,cZ3,cZ4,fcZ0,fcZ1,fcZ2,fcZ3,fcZ4⟩:=cf5 f;have J:=zaa (q18 f (.bool false) (.int .i64 0) (.slice none 0 0) (.slice none 0 0) (.int .i64 0));have K:=zaa (q10 (T1) (g:=w.heap.size+1) (by omega) (.bool false) (.int .i64 0) (.slice none 0 0) (.slice none 0 0) (.int .i64 0));clear f T1 BP;go_wp2_with fail
  (try simp only[Exit.inBlock,Exit.then])
  refine zat (v:=.tuple #[.agg #[.bool false,.int .i64 0,.slice none 0 0,.slice none 0 0,.int .i64 0],.int .i64 0,.bool false]) ?hr rfl ?_
  case hr=>exact q34 rfl _ _ (w.heap.size+1) 27 #[.bool false,.int .i64 0,.slice none 0 0,.slice none 0 0,.int .i64 0] (0,0) _ _ _ rfl rfl rfl J.out zbg rfl (by kernel_rfl)
  rw[t.out,HE.out.1,HE.out.2];exact qp3 K.out
 by_cases h30:30<T
 .obtain rfl:rb=false:=by rw[HRV.out,zbi (by omega)];rfl
  have HE:=zaa (qol t.out);have h31:(T:Int)>30:=by omega
  obtain⟨cZ0,cZ1,cZ2,cZ3,cZ4,fcZ0,fcZ1,fcZ2,fcZ3,fcZ4⟩:=cf5 f;have J:=zaa (q18 f (.bool false) (.int .i64 0) (.slice none 0 0) (.slice none 0 0) (.int .i64 0));have K:=zaa (q10 (T1) (g:=w.heap.size+1) (by omega) (.bool false) (.int .i64 0) (.slice none 0 0) (.slice none 0 0) (.int .i64 0));clear f T1 BP;go_wp2_with fail
  (try simp only[Exit.inBlock,Exit.then])
  refine zat (v:=.tuple #[.agg #[.bool false,.int .i64 0,.slice none 0 0,.slice none 0 0,.int .i64 0],.int .i64 0,.bool false]) ?hr rfl ?_
  case hr=>exact q34 rfl _ _ (w.heap.size+1) 27 #[.bool false,.int .i64 0,.slice none 0 0,.slice none 0 0,.int .i64 0] (0,0) _ _ _ rfl rfl rfl J.out zbg rfl (by kernel_rfl)
  rw[t.out,HE.out.1,HE.out.2];exact qp3 K.out
 have h31:¬(T:Int)>30:=by omega
 obtain rfl:rb=true:=by rw[HRV.out,zbh (by omega)];rfl
 have HE:=zaa (qpn t.out);have HT1:=zaa T1;have HB1:=zaa M;clear T1 h30 M;go_wp2_with fail;refine(HCL.out w1 HB1.out).mono ?_;rintro e H ⟨v1,u1,rfl,hLP,P⟩;obtain⟨u,B,A,C,rfl,rfl,-⟩:=hLP.d.w.slices;obtain⟨L,O,I⟩:=hLP.d.w.own HIN.out.1 HIN.out.2;obtain⟨D,HN1⟩:∃q,Hid (x.2.1.2.length=q):=⟨_,zaa rfl⟩;obtain⟨E,HN2⟩:∃q,Hid (x.2.2.1.length=q):=⟨_,zaa rfl⟩;rw[HN1.out,HN2.out]at O⊢;replace f:=f.next P;have hzc:=P.size;have hz01:=HB1.out.size;obtain⟨l,r⟩:∃q,Hid (H.heap.size=q):=⟨_,zaa rfl⟩;have hlo:w0.heap.size<=l:=by rw[<-r.out];omega
 have HTc:=zaa (q9 HB1.out P rfl);have HTw:=zaa (q9 HT1.out P rfl);replace I:=I.mono (show w0.heap.size<=w1.heap.size from hz01) (zad _);obtain⟨w2,HW2⟩:∃q,Hid (q=H.alloc (.cells #[.bool x.1,.int .i64 x.2.1.1,.slice u D B,.slice A E C,.int .i64 x.2.2.2] 27)):=⟨_,zaa rfl⟩;have N:Below H.heap.size H w2:=by rw[HW2.out];exact qm _ _
 have m:Blk w2 l 27 #[.bool x.1,.int .i64 x.2.1.1,.slice u D B,.slice A E C,.int .i64 x.2.2.2]:=by rw[HW2.out,<-r.out];exact Blk.new _ _ _
 have Y:l∉L:=fun hh=>by have:=(I.2 _ hh).2;have:=r.out;omega
 replace O:=Sh.onext O N;replace I:=I.mono (zad _) N.size;replace f:=f.next N;have hgz:l≠w.heap.size+1:=by omega
 have Tl:Below l H w2:=by rw[<-r.out];exact N
 have Q:l<w2.heap.size:=m.lt;have HR0:Hid (runL x (ss.take 0)=(x,0)):=by show _=_;rw[zcw];rfl
 clear hLP P N HCL BP cP0 cP1 cP2 cP3 cP4;go_upto_region 4 with fail;rw[<-HW2.out,r.out];go_wp2_with fail
 go_loopw [8,26] (fun mq i wr=>∃(j mk:Nat) (y:LabM) (u:Option Addr) (D B:Nat) (A:Option Addr) (E C:Nat) (L:List Nat),j<=T/\i=.int .i64 j/\mq=.int .i64 mk/\Hid (runL x (ss.take j)=(y,mk))/\Blk wr l 27 #[.bool y.1,.int .i64 y.2.1.1,.slice u D B,.slice A E C,.int .i64 y.2.2.2]/\q31.own wr [.bool y.1,.int .i64 y.2.1.1,.slice u D B,.slice A E C,.int .i64 y.2.2.2] y L/\Iv w0.heap.size wr.heap.size L/\l∉L/\Blk wr (w.heap.size+1) 27 #[.bool false,.int .i64 0,.slice none 0 0,.slice none 0 0,.int .i64 0]/\Below l H wr/\l<wr.heap.size) (fun _ i _=>T - (intOf i).toNat)
 case atStart=>exact⟨0,0,x,u,D,B,A,E,C,L,zah _,rfl,rfl,HR0,m,O,I,Y,f,Tl,Q⟩
 case round=>
  clear m O I Y f Tl Q;obtain⟨j,mk,y,u,D,B,A,E,C,L,hj,rfl,rfl,V,m,O,I,Y,f,Tl,Q⟩:=hrel;have Tc:Below H.heap.size H wr:=by rw[r.out];exact Tl
  have HVY:Hid (labB y=true/\mk<=j):=by
   have:=qpo HLB.out ss j;rw[V.out]at this;exact this
  by_cases hlt:j<T
  .have hj0:(0:Int)<=(j:Int):=by omega
   have hj1:(j:Int)<(T:Int):=by omega
   obtain⟨X,o9,vs,s,rfl,-,R,hr,-,hs⟩:=((HRR.out.next (S:=qh) HTc.out).next (S:=qh) Tc).at hlt;have HSD:=zaa hr;obtain⟨AL,nL,cL,AR,nR,cR,AV,nV,cV,AS,nS,cS,rfl,-,-,-,-,-,-,-,-,-⟩:=q1a hr;have HCN:=zaa (qfc hs HNN.out);have HRS:=zaa (qid (x:=x) hs);have cc0:wr.cell? ⟨X,o9+j*9,none⟩=some (.int .i64 s.1):=R 0 _ rfl;have cc1:wr.cell? ⟨X,o9+j*9+1,none⟩=some (.string s.2.1):=R 1 _ rfl;have cc2:wr.cell? ⟨X,o9+j*9+2,none⟩=some (.int .i64 s.2.2.1.1):=R 2 _ rfl;have cc3:wr.cell? ⟨X,o9+j*9+3,none⟩=some (.slice AL nL cL):=R 3 _ rfl;have cc4:wr.cell? ⟨X,o9+j*9+4,none⟩=some (.slice AR nR cR):=R 4 _ rfl;have cc5:wr.cell? ⟨X,o9+j*9+5,none⟩=some (.slice AV nV cV):=R 5 _ rfl;have cc6:wr.cell? ⟨X,o9+j*9+6,none⟩=some (.slice AS nS cS):=R 6 _ rfl;have cc7:wr.cell? ⟨X,o9+j*9+7,none⟩=some (.int .i64 s.2.2.2.2.1):=R 7 _ rfl;have cc8:wr.cell? ⟨X,o9+j*9+8,none⟩=some (.int .i64 s.2.2.2.2.2):=R 8 _ rfl;obtain⟨wq,HWQ⟩:∃q:World,Hid (q=wr):=⟨_,zaa rfl⟩;rw[<-HWQ.out]at cc0 cc1 cc2 cc3 cc4 cc5 cc6 cc7 cc8 m O I f Tl Q Tc HSD;rw[<-HWQ.out];obtain⟨w3,HW3⟩:∃q,Hid (q=wq.alloc (.cells #[.int .i64 s.1,.string s.2.1,.int .i64 s.2.2.1.1,.slice AL nL cL,.slice AR nR cR,.slice AV nV cV,.slice AS nS cS,.int .i64 s.2.2.2.2.1,.int .i64 s.2.2.2.2.2] 59)):=⟨_,zaa rfl⟩;have o:Below wq.heap.size wq w3:=by rw[HW3.out];exact qm _ _
   have BS:Blk w3 wq.heap.size 59 #[.int .i64 s.1,.string s.2.1,.int .i64 s.2.2.1.1,.slice AL nL cL,.slice AR nR cR,.slice AV nV cV,.slice AS nS cS,.int .i64 s.2.2.2.2.1,.int .i64 s.2.2.2.2.2]:=by rw[HW3.out];exact Blk.new _ _ _
   clear R hr hs HWQ;go_upto_region 8 with fail;rw[<-HW3.out];replace m:=m.next o;replace O:=Sh.onext O o;replace I:=I.mono (zad _) o.size;replace f:=f.next o;have Tl3:Below l H w3:=Tl.trans (o.mono (by omega));have Tc3:Below H.heap.size H w3:=by rw[r.out];exact Tl3
   have hz3:l<w3.heap.size:=by have:=o.size;omega
   have HI:=zaa (qj5 [.bool y.1,.int .i64 y.2.1.1,.slice u D B,.slice A E C,.int .i64 y.2.2.2] [.int .i64 s.1,.string s.2.1,.int .i64 s.2.2.1.1,.slice AL nL cL,.slice AR nR cR,.slice AV nV cV,.slice AS nS cS,.int .i64 s.2.2.2.2.1,.int .i64 s.2.2.2.2.2] y s w3 (q31.ord O) (qq2 O) (qh.stab HSD.out o.block) (q86 HVY.out.1).2 (qpr HCN.out) HCN.out ((HTB.out.next HTc.out).next Tc3));obtain⟨cN0,cN1,cN2,cN3,cN4⟩:=cl5 m;obtain⟨cS0,cS1,cS2,cS3,cS4,cS5,cS6,cS7,cS8⟩:=cl9 BS;clear cc0 cc1 cc2 cc3 cc4 cc5 cc6 cc7 cc8 BS Tl Tc Q o Tc3;go_wp2_with fail;refine HI.out.mono ?_;rintro e w4 ⟨cs4,bl4,rfl,O4,I4,G⟩;obtain⟨A3,n3,c3,A4,n4,c4,rfl,-,-,-,-⟩:=q42 (q31.ord O4:q19.rd _ _ _);replace m:=m.next G;replace O:=Sh.onext O G;replace I:=I.mono (zad _) G.size;replace f:=f.next G;have Tl4:Below l H w4:=Tl3.trans (G.mono (by omega));have hz4:l<w4.heap.size:=by have:=G.size;omega
   obtain⟨w5,HW5⟩:∃q,Hid (q=w4.alloc (.cells #[.bool (slR y s).1,.int .i64 (slR y s).2.1.1,.slice A3 n3 c3,.slice A4 n4 c4,.int .i64 (slR y s).2.2.2] 27)):=⟨_,zaa rfl⟩;have p:Below w4.heap.size w4 w5:=by rw[HW5.out];exact qm _ _
   have BX:Blk w5 w4.heap.size 27 #[.bool (slR y s).1,.int .i64 (slR y s).2.1.1,.slice A3 n3 c3,.slice A4 n4 c4,.int .i64 (slR y s).2.2.2]:=by rw[HW5.out];exact Blk.new _ _ _
   clear HI cN0 cN1 cN2 cN3 cN4 cS0 cS1 cS2 cS3 cS4 cS5 cS6 cS7 cS8;go_upto_region 9 with fail;rw[<-HW5.out];replace m:=m.next p;replace O:=Sh.onext O p;replace O4:=Sh.onext O4 p;have hg4:l∉bl4:=fun hh=>by have:=(I4.2 _ hh).1;omega
   replace I:=I.mono (zad _) p.size;replace I4:=I4.mono (show w0.heap.size<=w3.heap.size by omega) p.size;replace f:=f.next p;have W:Below l H w5:=Tl4.trans (p.mono (by omega));have hz5:l<w5.heap.size:=by have:=p.size;omega
   have hmk:mk<=30:=by have:=HVY.out.2;omega
   rcases hso:q6m y s with _|z
   .have U:Hid (slOk y s=false):=(q6k hso).2
    have HR2:Hid (runL x (ss.take (j+1))=(y,mk)):=by show _=_;rw[HRS.out,V.out];unfold runF;rw[hso]
    rw[U.out];have a:=zaa (zao m (zao O (zao I (zao f W))));clear hso m O I f W BX O4 I4 hg4;go_wp2_with fail
    go_roundw
    case rel=>exact⟨j+1,mk,y,u,D,B,A,E,C,L,by omega,by go_num,rfl,HR2,a.out.1,a.out.2.1,a.out.2.2.1,Y,a.out.2.2.2.1,a.out.2.2.2.2,hz5⟩
    case measure=>simp[intOf];try omega
   .have U:Hid (slR y s=z/\slOk y s=true):=qgw hso
    have HR2:Hid (runL x (ss.take (j+1))=(z,mk+1)):=by show _=_;rw[HRS.out,V.out];unfold runF;rw[hso]
    rw[U.out.2];rw[U.out.1]at O4 BX;obtain⟨cX0,cX1,cX2,cX3,cX4⟩:=cl5 BX;obtain⟨cN0,cN1,cN2,cN3,cN4,fcN0,fcN1,fcN2,fcN3,fcN4⟩:=cf5 m;have a:=zaa (zao (q18 m (.bool z.1) (.int .i64 z.2.1.1) (.slice A3 n3 c3) (.slice A4 n4 c4) (.int .i64 z.2.2.2)) (zao (qhz O4 hg4 (.bool z.1) (.int .i64 z.2.1.1) (.slice A3 n3 c3) (.slice A4 n4 c4) (.int .i64 z.2.2.2)) (zao (qds f (g:=l) (by omega) (.bool z.1) (.int .i64 z.2.1.1) (.slice A3 n3 c3) (.slice A4 n4 c4) (.int .i64 z.2.2.2)) (q10 W (zad l) (.bool z.1) (.int .i64 z.2.1.1) (.slice A3 n3 c3) (.slice A4 n4 c4) (.int .i64 z.2.2.2)))));obtain⟨w6,HW6⟩:∃q,Hid (q=((((w5.setCell ⟨l,0,none⟩ (.bool z.1)).setCell ⟨l,1,none⟩ (.int .i64 z.2.1.1)).setCell ⟨l,2,none⟩ (.slice A3 n3 c3)).setCell ⟨l,3,none⟩ (.slice A4 n4 c4)).setCell ⟨l,4,none⟩ (.int .i64 z.2.2.2)):=⟨_,zaa rfl⟩;rw[<-HW6.out]at a;have hz6:w6.heap.size=w5.heap.size:=by rw[HW6.out];simp
    have I6:Iv w0.heap.size w6.heap.size bl4:=by rw[hz6];exact I4
    have hz7:l<w6.heap.size:=by omega
    clear hso m O I f W BX O4 I4 hz6;go_wp2_with fail;rw[<-HW6.out]
    go_roundw
    case rel=>exact⟨j+1,mk+1,z,A3,n3,c3,A4,n4,c4,bl4,by omega,by go_num,by go_num,HR2,a.out.1,a.out.2.1,I6,hg4,a.out.2.2.1,a.out.2.2.2,hz7⟩
    case measure=>simp[intOf];try omega
  .obtain rfl:j=T:=by omega
   have hj1:¬(j:Int)<(j:Int):=by omega
   have HF:Hid (runL x ss=(y,mk)):=by
    have:=V.out
    rwa [<-HLEN.out,zar (zad _)]at this
   have hgz2:w.heap.size+1∉L:=fun hh=>by have:=(I.2 _ hh).1;omega
   obtain⟨cN0,cN1,cN2,cN3,cN4⟩:=cl5 m;obtain⟨cZ0,cZ1,cZ2,cZ3,cZ4,fcZ0,fcZ1,fcZ2,fcZ3,fcZ4⟩:=cf5 f;have J:=zaa (q18 f (.bool y.1) (.int .i64 y.2.1.1) (.slice u D B) (.slice A E C) (.int .i64 y.2.2.2));have HOX:=zaa (qhz O hgz2 (.bool y.1) (.int .i64 y.2.1.1) (.slice u D B) (.slice A E C) (.int .i64 y.2.2.2));have K:=zaa (q10 (q9 HTw.out Tc rfl) (g:=w.heap.size+1) (by omega) (.bool y.1) (.int .i64 y.2.1.1) (.slice u D B) (.slice A E C) (.int .i64 y.2.2.2));have HIX:Hid (Iv w.heap.size wr.heap.size L):=I.mono (by omega) (zad _);clear m O I f Tl Tc hgz2;go_wp2_with fail
   (try simp only[Exit.inBlock,Exit.then])
   refine zat (v:=.tuple #[.agg #[.bool y.1,.int .i64 y.2.1.1,.slice u D B,.slice A E C,.int .i64 y.2.2.2],.int .i64 mk,.bool true]) ?hr rfl ?_
   case hr=>exact q34 rfl _ _ (w.heap.size+1) 27 #[.bool y.1,.int .i64 y.2.1.1,.slice u D B,.slice A E C,.int .i64 y.2.2.2] (0,0) _ _ _ rfl rfl rfl J.out zbg rfl (by kernel_rfl)
   rw[t.out,HE.out.1,HE.out.2,HF.out];exact⟨_,L,rfl,HOX.out,HIX.out.mono (zad _) (by simp),K.out⟩
def BelO (B:Nat) (u:Value) (w w':World):Prop:=Below B w w'/\∀k,k<w.heap.size->k∉obl u->w'.heap[k]?=w.heap[k]?
theorem BelO.of {B:Nat} {u:Value} {w w':World} (h:Below w.heap.size w w') (a:B<=w.heap.size):BelO B u w w':=⟨h.mono a,fun k b _=>h.block k b⟩
theorem BelO.step {B:Nat} {u:Value} {w wr a:World} (h:BelO B u w wr) (d:Below B wr a) (f:w.heap.size<=wr.heap.size) (e:∀k,k<wr.heap.size->k∉obl u->a.heap[k]?=wr.heap[k]?):BelO B u w a:=
 ⟨h.1.trans d,fun k b c=>(e k (zcu b f) c).trans (h.2 k b c)⟩
theorem BelO.set5 {B g:Nat} {u:Value} {w w':World} (h:BelO B u w w') (j:w.heap.size<=g) (i:B<=w.heap.size) (a b c d e:Value):BelO B u w (((((w'.setCell ⟨g,0,none⟩ a).setCell ⟨g,1,none⟩ b).setCell ⟨g,2,none⟩ c).setCell ⟨g,3,none⟩ d).setCell ⟨g,4,none⟩ e):=
 ⟨q10 h.1 (za7 i j) a b c d e,fun k l m=>by
  have f:k≠g:=by omega
  rw[za8 _ ⟨g,4,none⟩ e k f,za8 _ ⟨g,3,none⟩ d k f,za8 _ ⟨g,2,none⟩ c k f,za8 _ ⟨g,1,none⟩ b k f,za8 _ ⟨g,0,none⟩ a k f]
  exact h.2 k l m⟩
def LmE (B:Nat) (u:Value) (w:World) (x:LabM) (s:qq) (e:Ending) (w':World):Prop:=
 BelO B u w w'/\((makM x s=none/\e=.returned (.tuple #[.agg #[.bool false,.int .i64 0,.slice none 0 0,.slice none 0 0,.int .i64 0],.bool false]))\/
  ∃y v u,makM x s=some y/\e=.returned (.tuple #[.agg #[.bool y.1,.int .i64 y.2.1.1,v,u,.int .i64 y.2.2.2],.bool (decide ((y.2.2.1.length:Int)<=12) &&decide (y.2.2.2<=9999))])/\LabD B w' y v u)
theorem qo2 (B:Nat) (ds:List Value) (x:LabM) (s:qq) (w:World) (D j:Option Addr) (I G l k:Nat) (Y:B<=w.heap.size) (H:qh.rd w ds s) (a:x.1=true) (hr:0<=x.2.2.2/\x.2.2.2<=9999) (d:s.1=7):
  Calls Tryz.prog 28 #[.agg #[.bool x.1,.int .i64 x.2.1.1,.slice D I G,.slice j l k,.int .i64 x.2.2.2],.agg ds.toArray] w (LmE B (.slice j l k) w x s):=by
 obtain⟨J,nL,P,K,nR,Q,M,nV,S,L,nS,R,rfl,-,-,-,-,-,-,-,-,-⟩:=q1a H;obtain⟨w0,i,F,h,m,E,c⟩:=q4z w #[.bool x.1,.int .i64 x.2.1.1,.slice D I G,.slice j l k,.int .i64 x.2.2.2] #[.int .i64 s.1,.string s.2.1,.int .i64 s.2.2.1.1,.slice J nL P,.slice K nR Q,.slice M nV S,.slice L nS R,.int .i64 s.2.2.2.2.1,.int .i64 s.2.2.2.2.2] #[.bool false,.int .i64 0,.slice none 0 0,.slice none 0 0,.int .i64 0] 27 59 27;have q:=zaa i;have e:=m.cell 0;have r:=m.cell 4;have f:=E.cell 0;have t:=c.cell 0;have y:=c.cell 1;have z:=c.cell 2;have A:=c.cell 3;have C:=c.cell 4;have T:=c.frozen 0;have U:=c.frozen 1;have V:=c.frozen 2;have W:=c.frozen 3;have X:=c.frozen 4;simp at e r f t y z A C;rw[d]at f;rw[a]at e;have N:Hid (makM x s=some (false,(0, []), [],x.2.2.2)):=by
  show _=_
  unfold makM;rw[zaj (by rw[d];decide),zaj (by rw[d];decide),zaj (by rw[d];decide),zaj (by rw[d];decide)]
 have n:=zaa (q18 c (.bool false) (.int .i64 0) (.slice none 0 0) (.slice none 0 0) (.int .i64 x.2.2.2));have p:=zaa (BelO.of (u:=.slice j l k) (q10 F (g:=w.heap.size+1+1) (by omega) (.bool false) (.int .i64 0) (.slice none 0 0) (.slice none 0 0) (.int .i64 x.2.2.2)) Y);have o:Hid (decide (x.2.2.2<=9999)=true):=zbh hr.2;have HK:=zaa d;have O:=zaa a;clear i h H d a m E c F
 go_enter Tryz.func28,zgd
 go_upto_region 1 with fail;rw[<-q.out];go_wp2_with fail
 (try simp only[Exit.inBlock,Exit.then])
 refine zat (v:=.tuple #[.agg #[.bool false,.int .i64 0,.slice none 0 0,.slice none 0 0,.int .i64 x.2.2.2],.bool true]) ?hr rfl ?_
 case hr=>exact qn rfl _ _ (w.heap.size+1+1) 27 #[.bool false,.int .i64 0,.slice none 0 0,.slice none 0 0,.int .i64 x.2.2.2] (0,0) _ _ rfl n.out zbg rfl (by kernel_rfl) rfl
 exact⟨p.out,zew ⟨(false,(0, []), [],x.2.2.2),_,_,N.out,by show _=Ending.returned (.tuple #[_,.bool (decide ((0:Int)<=12) &&decide (x.2.2.2<=9999))]);rw[o.out];rfl,⟨[], [], [], [],PO.nil _ _,PG.nil _ _ _ _ _,fun b Z=>by simp[obl,Value.ownBlock]at Z⟩⟩⟩
def PutE (B:Nat) (w:World) (x:LabM) (v u:Value) (e:Ending) (w':World):Prop:=
 ∃u',e=.returned (.tuple #[.agg #[.bool x.1,.int .i64 x.2.1.1,v,u',.int .i64 x.2.2.2],.bool (decide ((x.2.2.1.length:Int)<=12))])/\LabD B w' x v u'/\Below B w w'/\∀k,k<w.heap.size->k∉obl u->w'.heap[k]?=w.heap[k]?
theorem qk4 (x:LabM) (f:qy) (v:Value):(addF x f).1=x.1/\(addF x f).2.1=x.2.1/\(addF x f).2.2.2=x.2.2.2:=by
 unfold addF
 split<;>exact⟨rfl,rfl,rfl⟩
theorem qbq (B:Nat) (wa w:World) (x:LabM) (v u:Value) (f:qy) (AL AR AV:Option Addr) (nL cL nR cR nV cV:Nat) (bk:List Nat) (hB:B<=wa.heap.size) (hD:LabD B wa x v u) (hba:Below wa.heap.size wa w) (ho:qj.own w [.int .i64 f.1,.slice AL nL cL,.slice AR nR cR,.slice AV nV cV] f bk) (hiv:Iv wa.heap.size w.heap.size bk) (hln:x.2.2.1.length<=1000):
  Calls Tryz.prog 60 #[.agg #[.bool x.1,.int .i64 x.2.1.1,v,u,.int .i64 x.2.2.2],.agg #[.int .i64 f.1,.slice AL nL cL,.slice AR nR cR,.slice AV nV cV]] w (PutE B w (addF x f) v u):=by
 obtain⟨css,bls,dss,cls,hPO,T,hap⟩:=hD;obtain⟨o,s,rfl⟩:=qu hPO.2.1;obtain⟨Q,R,rfl⟩:=qu T.2.1;have hza:=hba.size;obtain⟨w0,hw0,T0,hsz0,BP,BF1,BR⟩:=q4z w #[.bool x.1,.int .i64 x.2.1.1,.slice o x.2.1.2.length s,.slice Q x.2.2.1.length R,.int .i64 x.2.2.2] #[.int .i64 f.1,.slice AL nL cL,.slice AR nR cR,.slice AV nV cV] #[.bool false,.int .i64 0,.slice none 0 0,.slice none 0 0,.int .i64 0] 27 57 27;have HW0:=zaa hw0;have hs0:w0.heap.size=w.heap.size+3:=hsz0;have hb0:=q9 hba T0 rfl;have HRD:Hid (∀j,Below w0.heap.size w0 j->Calls Tryz.prog 59 #[.slice Q x.2.2.1.length R,.agg #[.int .i64 f.1,.slice AL nL cL,.slice AR nR cR,.slice AV nV cV]] j (Bl j (.int .i64 (posF x.2.2.1 f)))):=fun j P=>by
  obtain⟨A',c',e,hrd⟩:=((T.next hb0).next P).rd;injection e with e1 e2 e3
  exact q7l Q x.2.2.1.length R _ x.2.2.1 f j (by rw[e1];exact hrd) (qj.ord (Sh.onext (Sh.onext ho T0) P))
 obtain⟨p,HP⟩:∃p,Hid (posF x.2.2.1 f=p):=⟨_,zaa rfl⟩;rw[HP.out]at HRD;obtain⟨t,y,z,A,C⟩:=cl5 BP;obtain⟨cQ0,cQ1,cQ2,cQ3⟩:=cl4 BF1;have HPO:=zaa hPO;have HPG:=zaa T;have HAP:=zaa hap;have HT0:=zaa T0;have HB0:=zaa hb0;have HO:=zaa (Sh.onext ho T0);have HIV:Hid (Iv wa.heap.size w0.heap.size bk):=hiv.mono (zad _) (by omega);clear hw0 hsz0 hPO T hap ho hiv T0 hb0
 go_enter Tryz.func60,Tryz.ntmps60
 go_upto_region 1 with fail;rw[<-HW0.out];go_wp2_with fail;refine(HRD.out _ (zac _ _)).mono ?_;rintro e F ⟨rfl,m⟩;have L:=q9 HB0.out m rfl;have T1:=q9 HT0.out m rfl;have J:=HPO.out.next L;have l:=BP.next m;have i:=BR.next m;have hz1:=m.size;have zkk:=kk9 m t y z A C cQ0 cQ1 cQ2 cQ3;clear t y z A C cQ0 cQ1 cQ2 cQ3;obtain⟨t,y,z,A,C,cQ0,cQ1,cQ2,cQ3⟩:=zkk
 by_cases hp:p<0
 .have HAD:Hid (addF x f=(x.1,x.2.1,x.2.2.1++ [f],x.2.2.2)):=by
   show _=_
   unfold addF;rw[HP.out,zam hp]
  have S:B<=w.heap.size:=by omega
  have W:Hid (Iv wa.heap.size F.heap.size bk):=HIV.out.mono (zad _) hz1;obtain⟨U,HPU⟩:=HPG.out.push q4v rfl L hB (Sh.onext HO.out m) W.out;have hB1:B<=F.heap.size:=by omega
  have cO1:=l.cell 3;have fO1:=l.frozen 3;have X:=(l.alloc (.cells #[.int .i64 f.1,.slice AL nL cL,.slice AR nR cR,.slice AV nV cV] 57)).cell 3;simp at cO1 X
  go_wp2_with (at_builtin;refine appU F rfl _ _ 25 57 rfl (.agg #[.int .i64 0,.slice none 0 0,.slice none 0 0,.slice none 0 0]) 4 80 zbx q16 rfl (by decide) (by decide) B x.2.2.1.length R Q dss.flatten rfl U [.int .i64 f.1,.slice AL nL cL,.slice AR nR cR,.slice AV nV cV] rfl (by intro q hq;simp at hq;rcases hq with rfl|rfl|rfl|rfl<;>rfl) rfl (by omega) hB1 ?_;intro M N w8 n E hb8;have G:=l.grown E (fun e=>q1s U l (by decide) e.symm);have BR8:=i.grown E (fun e=>q1s U i (by decide) e.symm);have cO8:=G.cell 3;have fO8:=G.frozen 3;simp at cO8)
  obtain⟨V,r⟩:∃wb,Hid (wb=w8.setCell ⟨w.heap.size,3,none⟩ (.slice M (x.2.2.1.length+1) N)):=⟨_,zaa rfl⟩;rw[<-r.out];have H:Blk V w.heap.size 27 #[.bool x.1,.int .i64 x.2.1.1,.slice o x.2.1.2.length s,.slice M (x.2.2.1.length+1) N,.int .i64 x.2.2.2]:=by rw[r.out];simpa using G.set_ 3 (.slice M (x.2.2.1.length+1) N)
  have h:Blk V (w.heap.size+1+1) 27 #[.bool false,.int .i64 0,.slice none 0 0,.slice none 0 0,.int .i64 0]:=by rw[r.out];exact BR8.far (p:=⟨w.heap.size,3,none⟩) (by show _≠w.heap.size;omega) _
  have PN8:=HPU n E;have K:PO B w8 (.slice o x.2.1.2.length s) x.2.1.2 css bls:=J.same E.size fun b D=>E.block b (J.2.2.2 b D).2 fun e=>HAP.out b D (zbb _ (q1e.2 e.symm))
  have APN:∀b∈obl (.slice o x.2.1.2.length s)++bls.flatten,b∉obl (.slice M (x.2.2.1.length+1) N)++(cls++ [bk]).flatten:=fun b D O=>by
   rcases zau.1 O with O|O
   .exact q5x K n b D O
   .rw[zbu,zau]at O
    rcases O with O|O
    .exact HAP.out b D (zaz _ O)
    .have h1:=(W.out.2 b (by simpa using O)).1
     have h2:=(HPO.out.2.2.2 b D).2;omega
  have Y:LabD B w8 (x.1,x.2.1,x.2.2.1++ [f],x.2.2.2) (.slice o x.2.1.2.length s) (.slice M (x.2.2.1.length+1) N):=⟨css,bls,_,_,K,PN8,APN⟩;have Z:LabD B V (x.1,x.2.1,x.2.2.1++ [f],x.2.2.2) (.slice o x.2.1.2.length s) (.slice M (x.2.2.1.length+1) N):=by rw[r.out];exact Y.setB G _
  have T9:Below B w V:=by rw[r.out];exact((T1.mono S).trans hb8).setCell (p:=⟨w.heap.size,3,none⟩) S _
  have HLD:Hid (∀a b c d e,LabD B (((((V.setCell ⟨w.heap.size+1+1,0,none⟩ a).setCell ⟨w.heap.size+1+1,1,none⟩ b).setCell ⟨w.heap.size+1+1,2,none⟩ c).setCell ⟨w.heap.size+1+1,3,none⟩ d).setCell ⟨w.heap.size+1+1,4,none⟩ e) (x.1,x.2.1,x.2.2.1++ [f],x.2.2.2) (.slice o x.2.1.2.length s) (.slice M (x.2.2.1.length+1) N)):=fun a b c d e=>
   ((((Z.setB h a).setB (h.set_ 0 a) b).setB ((h.set_ 0 a).set_ 1 b) c).setB (((h.set_ 0 a).set_ 1 b).set_ 2 c) d).setB ((((h.set_ 0 a).set_ 1 b).set_ 2 c).set_ 3 d) e
  have HBX:Hid (∀a b c d e,Blk (((((V.setCell ⟨w.heap.size+1+1,0,none⟩ a).setCell ⟨w.heap.size+1+1,1,none⟩ b).setCell ⟨w.heap.size+1+1,2,none⟩ c).setCell ⟨w.heap.size+1+1,3,none⟩ d).setCell ⟨w.heap.size+1+1,4,none⟩ e) (w.heap.size+1+1) 27 #[a,b,c,d,e]):=fun a b c d e=>q18 h a b c d e
  have HTX:Hid (∀a b c d e,Below B w (((((V.setCell ⟨w.heap.size+1+1,0,none⟩ a).setCell ⟨w.heap.size+1+1,1,none⟩ b).setCell ⟨w.heap.size+1+1,2,none⟩ c).setCell ⟨w.heap.size+1+1,3,none⟩ d).setCell ⟨w.heap.size+1+1,4,none⟩ e)):=fun a b c d e=>q10 T9 (by omega) a b c d e
  have HSM:Hid (∀a b c d e k,k<w.heap.size->k∉obl (.slice Q x.2.2.1.length R)->(World.drew (((((V.setCell ⟨w.heap.size+1+1,0,none⟩ a).setCell ⟨w.heap.size+1+1,1,none⟩ b).setCell ⟨w.heap.size+1+1,2,none⟩ c).setCell ⟨w.heap.size+1+1,3,none⟩ d).setCell ⟨w.heap.size+1+1,4,none⟩ e)).heap[k]?=w.heap[k]?):=fun a b c d e k hk hn=>by
   have q1:Below w.heap.size w8 V:=by rw[r.out];exact(zac w.heap.size w8).setCell (p:=⟨w.heap.size,3,none⟩) (zad _) _
   have q2:=(zai (q10 q1 (g:=w.heap.size+1+1) (by omega) a b c d e)).block k hk;rw[q2,E.block k (by omega) (fun e=>hn (q1e.2 e.symm))];exact T1.block k hk
  have hlen:((x.2.2.1++ [f]).length:Int)=(x.2.2.1.length:Int)+1:=by simp
  have HLN:=zaa hlen;clear cO1 fO1 X cO8 fO8 t y z A C hlen;have t:=H.cell 0;have y:=H.cell 1;have z:=H.cell 2;have A:=H.cell 3;have C:=H.cell 4;have fR0:=h.frozen 0;have fR1:=h.frozen 1;have fR2:=h.frozen 2;have fR3:=h.frozen 3;have fR4:=h.frozen 4;have cR0:=h.cell 0;have cR1:=h.cell 1;have cR2:=h.cell 2;have cR3:=h.cell 3;have cR4:=h.cell 4;simp at t y z A C cR0 cR1 cR2 cR3 cR4;clear J l i G BR8 PN8 K APN Y Z n U HPU
  go_region
  all_goals
   go_wp2_with fail
   (try simp only[Exit.inBlock,Exit.then])
   refine zat (v:=.tuple #[.agg #[.bool x.1,.int .i64 x.2.1.1,.slice o x.2.1.2.length s,.slice M (x.2.2.1.length+1) N,.int .i64 x.2.2.2],.bool (decide ((x.2.2.1.length:Int)+1<=12))]) ?hr rfl ?_
   case hr=>exact qn rfl _ _ (w.heap.size+1+1) 27 #[.bool x.1,.int .i64 x.2.1.1,.slice o x.2.1.2.length s,.slice M (x.2.2.1.length+1) N,.int .i64 x.2.2.2] (0,0) _ _ rfl ((HBX.out _ _ _ _ _).next (zai (zac _ _))) zbg rfl (by kernel_rfl) rfl
   rw[HAD.out];exact⟨.slice M (x.2.2.1.length+1) N,by show _=Ending.returned (.tuple #[_,.bool (decide (((x.2.2.1++ [f]).length:Int)<=12))]);rw[HLN.out],(HLD.out _ _ _ _ _).next (zai (zac _ _)),zai (HTX.out _ _ _ _ _),fun k hk hn=>HSM.out _ _ _ _ _ k hk hn⟩
 .have HAD:Hid (addF x f=x):=by
   show _=_
   unfold addF;rw[HP.out,zaj hp]
  have S:B<=w.heap.size:=by omega
  have HLD:Hid (∀j,Below F.heap.size F j->∀a b c d e,LabD B (((((j.setCell ⟨w.heap.size+1+1,0,none⟩ a).setCell ⟨w.heap.size+1+1,1,none⟩ b).setCell ⟨w.heap.size+1+1,2,none⟩ c).setCell ⟨w.heap.size+1+1,3,none⟩ d).setCell ⟨w.heap.size+1+1,4,none⟩ e) x (.slice o x.2.1.2.length s) (.slice Q x.2.2.1.length R)):=fun j P a b c d e=>by
   have I:=i.next P;have h0:LabD B j x (.slice o x.2.1.2.length s) (.slice Q x.2.2.1.length R):=⟨css,bls,dss,cls,J.next P,(HPG.out.next L).next P,HAP.out⟩;exact((((h0.setB I a).setB (I.set_ 0 a) b).setB ((I.set_ 0 a).set_ 1 b) c).setB (((I.set_ 0 a).set_ 1 b).set_ 2 c) d).setB ((((I.set_ 0 a).set_ 1 b).set_ 2 c).set_ 3 d) e
  have HSM:Hid (∀a b c d e k,k<w.heap.size->(World.drew (((((F.setCell ⟨w.heap.size+1+1,0,none⟩ a).setCell ⟨w.heap.size+1+1,1,none⟩ b).setCell ⟨w.heap.size+1+1,2,none⟩ c).setCell ⟨w.heap.size+1+1,3,none⟩ d).setCell ⟨w.heap.size+1+1,4,none⟩ e)).heap[k]?=w.heap[k]?):=fun a b c d e k hk=>(zai (q10 T1 (g:=w.heap.size+1+1) (by omega) a b c d e)).block k hk
  have HBX:Hid (∀j,Below F.heap.size F j->∀a b c d e,Blk (((((j.setCell ⟨w.heap.size+1+1,0,none⟩ a).setCell ⟨w.heap.size+1+1,1,none⟩ b).setCell ⟨w.heap.size+1+1,2,none⟩ c).setCell ⟨w.heap.size+1+1,3,none⟩ d).setCell ⟨w.heap.size+1+1,4,none⟩ e) (w.heap.size+1+1) 27 #[a,b,c,d,e]):=fun j P a b c d e=>q18 (i.next P) a b c d e
  have HTX:Hid (∀j,Below F.heap.size F j->∀a b c d e,Below B w (((((j.setCell ⟨w.heap.size+1+1,0,none⟩ a).setCell ⟨w.heap.size+1+1,1,none⟩ b).setCell ⟨w.heap.size+1+1,2,none⟩ c).setCell ⟨w.heap.size+1+1,3,none⟩ d).setCell ⟨w.heap.size+1+1,4,none⟩ e)):=fun j P a b c d e=>q10 ((q9 T1 P rfl).mono S) (by omega) a b c d e
  have fR0:=i.frozen 0;have fR1:=i.frozen 1;have fR2:=i.frozen 2;have fR3:=i.frozen 3;have fR4:=i.frozen 4;obtain⟨cR0,cR1,cR2,cR3,cR4⟩:=cl5 i;clear J l;go_upto_region 3 with fail
  go_region
  all_goals
   go_wp2_with fail
   (try simp only[Exit.inBlock,Exit.then])
   refine zat (v:=.tuple #[.agg #[.bool x.1,.int .i64 x.2.1.1,.slice o x.2.1.2.length s,.slice Q x.2.2.1.length R,.int .i64 x.2.2.2],(.bool (decide ((x.2.2.1.length:Int)<=12)):Value)]) ?hr rfl ?_
   case hr=>exact qn rfl _ _ (w.heap.size+1+1) 27 #[.bool x.1,.int .i64 x.2.1.1,.slice o x.2.1.2.length s,.slice Q x.2.2.1.length R,.int .i64 x.2.2.2] (0,0) _ _ rfl ((HBX.out F (zac _ _) _ _ _ _ _).next (zai (zac _ _))) zbg rfl (by kernel_rfl) rfl
   rw[HAD.out];exact⟨_,rfl,(HLD.out F (zac _ _) _ _ _ _ _).next (zai (zac _ _)),zai (HTX.out F (zac _ _) _ _ _ _ _),fun k hk _=>HSM.out _ _ _ _ _ k hk⟩
theorem qaf (k:Int) (G:Option Addr) (g cL:Nat) (H:Option Addr) (i cR:Nat) (I:Option Addr) (j cV:Nat) (L R V:List Int) (w:World) (hL:RdL RI w G g L) (hR:RdL RI w H i R) (hV:RdL RI w I j V) (h1:g<=1048576) (h2:i<=1048576) (h3:j<=1048576):
  Calls Tryz.prog 61 #[.agg #[.int .i64 k,.slice G g cL,.slice H i cR,.slice I j cV]] w (CfE w (k,(L,R),V)):=by
 obtain rfl:L.length=g:=hL.len;obtain rfl:R.length=i:=hR.len;obtain rfl:V.length=j:=hV.len;obtain⟨g,J⟩:∃n,Hid (L.length=n):=⟨_,rfl⟩;obtain⟨i,K⟩:∃n,Hid (R.length=n):=⟨_,rfl⟩;obtain⟨j,HNV⟩:∃n,Hid (V.length=n):=⟨_,rfl⟩;unfold CfE;simp only;rw[J.out]at hL h1⊢;rw[K.out]at hR h2⊢;rw[HNV.out]at hV h3⊢;obtain⟨m,X,Z,W,BP,t⟩:=q1q w #[.int .i64 k,.slice G g cL,.slice H i cR,.slice I j cV] #[.int .i64 0,.slice none 0 0,.slice none 0 0,.slice none 0 0] 57 57;have HW0:=zaa X;have HC1:Hid (∀l,Below m.heap.size m l->Calls Tryz.prog 109 #[.agg #[.slice G g cL,.slice H i cR]] l fun e w'=>∃r u s x,e=.returned (.agg #[.slice r g u,.slice s i x])/\w'.ownsRow l.heap.size 3 1 (.slice r g u) g (ints L)/\w'.ownsRow l.heap.size 3 1 (.slice s i x) i (ints R)/\Apart (.slice r g u) (.slice s i x)/\Below l.heap.size l w'):=fun l hz=>by
  have:=qec G g cL H i cR L R l ((hL.next qd Z).next qd hz) ((hR.next qd Z).next qd hz) h1 h2;unfold CeE at this;rw[J.out,K.out]at this;exact this
 have HC2:Hid (∀l,Below m.heap.size m l->Calls Tryz.prog 110 #[.slice I j cV] l fun e w'=>∃A' c',e=.returned (.slice A' j c')/\w'.ownsRow l.heap.size 3 1 (.slice A' j c') j (ints V)/\Below l.heap.size l w'):=fun l hz=>q2s I j cV V l ((hV.next qd Z).next qd hz) h3
 obtain⟨M,N,O,P⟩:=cl4 BP;obtain⟨Q,S,T,U⟩:=cl4 t;have hne:w.heap.size+1≠w.heap.size:=by omega
 have a:Below m.heap.size m m:=zac _ _;have B:w.heap.size+1<m.heap.size:=by omega
 have y:=zaa Z;clear X W hL hR hV
 go_enter Tryz.func61,Tryz.ntmps61
 go_upto_region 1 with fail;rw[<-HW0.out]
 first|(go_region_law (first|(go_simp;go_at_call 109;(with_reducible refine(HC1.out _ ?_).mono ?_);(first|exact a|exact zai a|exact qc (zac _ _) _|exact qc a _);rintro e wn ⟨r,u,s,x,rfl,d,f,C,c⟩;(try (have o:=(q13 b d (by first|exact zad _|(simp;omega))).symm));(try (have q:=(q13 b f (by first|exact zad _|(simp;omega))).symm));(try replace b:=qp b (by first|exact c|exact(qc (zac _ _) _).trans c));replace d:=ql (base':=m.heap.size) d (by exact a.size);replace f:=ql (base':=m.heap.size) f (by exact a.size);replace a:=q9 (by first|exact a|exact zai a|exact qc (zac _ _) _|exact qc a _) c rfl;have xP0:=qe a M;have xP1:=qe a N;have xP2:=qe a O;have xP3:=qe a P;have xR0:=qe a Q;have xR1:=qe a S;have xR2:=qe a T;have xR3:=qe a U;have fR0:=(t.next a).frozen 0;have fR1:=(t.next a).frozen 1;have fR2:=(t.next a).frozen 2;have fR3:=(t.next a).frozen 3)|(go_simp;go_at_call 110;(with_reducible refine(HC2.out _ ?_).mono ?_);(first|exact a|exact zai a|exact qc (zac _ _) _|exact qc a _);rintro e wn ⟨E,F,rfl,b,c⟩;(try (have o:=q13 d b (by first|exact zad _|(simp;omega))));(try (have q:=q13 f b (by first|exact zad _|(simp;omega))));(try replace d:=qp d (by first|exact c|exact(qc (zac _ _) _).trans c));(try replace f:=qp f (by first|exact c|exact(qc (zac _ _) _).trans c));replace b:=ql (base':=m.heap.size) b (by exact a.size);replace a:=q9 (by first|exact a|exact zai a|exact qc (zac _ _) _|exact qc a _) c rfl;have xP0:=qe a M;have xP1:=qe a N;have xP2:=qe a O;have xP3:=qe a P;have xR0:=qe a Q;have xR1:=qe a S;have xR2:=qe a T;have xR3:=qe a U;have fR0:=(t.next a).frozen 0;have fR1:=(t.next a).frozen 1;have fR2:=(t.next a).frozen 2;have fR3:=(t.next a).frozen 3)))|fail
 all_goals
  have BR:=t.next a;obtain⟨Y,z⟩:∃Y,Hid (Y=(((wn.setCell ⟨w.heap.size+1,0,none⟩ (.int .i64 k)).setCell ⟨w.heap.size+1,1,none⟩ (.slice r g u)).setCell ⟨w.heap.size+1,2,none⟩ (.slice s i x)).setCell ⟨w.heap.size+1,3,none⟩ (.slice E j F)):=⟨_,rfl⟩;have BRR:Blk Y (w.heap.size+1) 57 #[.int .i64 k,.slice r g u,.slice s i x,.slice E j F]:=by rw[z.out];simpa using(((BR.set_ 0 (.int .i64 k)).set_ 1 (.slice r g u)).set_ 2 (.slice s i x)).set_ 3 (.slice E j F)
  have A:∀ {v:Value} {n:Nat} {xs:List Value},wn.ownsRow m.heap.size 3 1 v n xs->Y.ownsRow m.heap.size 3 1 v n xs:=fun h=>by
   rw[z.out];exact qx (qx (qx (qx h (by exact B)) (by exact B)) (by exact B)) (by exact B)
  have HO1:=zaa (A d);have HO2:=zaa (A f);have HO3:=zaa (A b);have HTT:Hid (Below w.heap.size w Y):=by
   show Below _ _ _
   rw[z.out];exact((((q9 y.out a rfl).setCell (p:=⟨w.heap.size+1,0,none⟩) (show w.heap.size<=w.heap.size+1 by omega) _).setCell (p:=⟨w.heap.size+1,1,none⟩) (show w.heap.size<=w.heap.size+1 by omega) _).setCell (p:=⟨w.heap.size+1,2,none⟩) (show w.heap.size<=w.heap.size+1 by omega) _).setCell (p:=⟨w.heap.size+1,3,none⟩) (show w.heap.size<=w.heap.size+1 by omega) _
  have D:=zaa (zao C (zao o q));clear d f b BR C o q A;go_wp2_with fail;rw[<-z.out]
  (try simp only[Exit.inBlock,Exit.then])
  refine zat (v:=.agg #[.int .i64 k,.slice r g u,.slice s i x,.slice E j F]) (zb0 rfl _ _ (w.heap.size+1) 57 #[.int .i64 k,.slice r g u,.slice s i x,.slice E j F] (0,0) _ (by simp) BRR zcp rfl (by kernel_rfl)) rfl ?_;exact⟨r,u,s,x,E,F,rfl,ql HO1.out y.out.size,ql HO2.out y.out.size,ql HO3.out y.out.size,D.out.1,D.out.2.1,D.out.2.2,HTT.out⟩
end Go.Proofs.YtfnmkbpogbekpaaGreatDoor
