import Derived.Test.YtfnmkbpogbekpaaGreatDoorQ9
set_option linter.unusedVariables false
set_option linter.unusedSimpArgs false
set_option maxRecDepth 100000
set_option maxHeartbeats 32000000
namespace Go.Proofs.YtfnmkbpogbekpaaGreatDoor
open Go.RowKit
theorem qnz (B:Nat) (ds:List Value) (x:LabM) (s:qq) (w:World) (v u:Value) (hB:B<=w.heap.size) (hD:LabD B w x v u) (h':qh.rd w ds s) (N:x.1=true) (hx:AlgP x.2.1) (hln:x.2.2.1.length<=12) (hr:0<=x.2.2.2/\x.2.2.2<=9999) (hcs:qj.cnt s.2.2.1<=1048576) (hk:s.1=2):
  Calls Tryz.prog 28 #[.agg #[.bool x.1,.int .i64 x.2.1.1,v,u,.int .i64 x.2.2.2],.agg ds.toArray] w (LmE B u w x s):=by
 obtain⟨AL,nL,cL,AR,nR,cR,AV,nV,cV,AS,nS,cS,rfl,-,-,pF,pL,pR,pV,-,-,-⟩:=q1a h';obtain⟨css,bls,dss,cls,hPO,hPG,hap⟩:=hD;obtain⟨j,k,rfl⟩:=qu hPO.2.1;obtain⟨n,o,rfl⟩:=qu hPG.2.1;obtain⟨w0,hw0,T0,hsz0,BP,BQ,BZ⟩:=q4z w #[.bool x.1,.int .i64 x.2.1.1,.slice j x.2.1.2.length k,.slice n x.2.2.1.length o,.int .i64 x.2.2.2] #[.int .i64 s.1,.string s.2.1,.int .i64 s.2.2.1.1,.slice AL nL cL,.slice AR nR cR,.slice AV nV cV,.slice AS nS cS,.int .i64 s.2.2.2.2.1,.int .i64 s.2.2.2.2.2] #[.bool false,.int .i64 0,.slice none 0 0,.slice none 0 0,.int .i64 0] 27 59 27;have HW0:=zaa hw0;have hs0:w0.heap.size=w.heap.size+3:=hsz0;have HQL:=zaa (pL.next qd T0);have HQR:=zaa (pR.next qd T0);have HQV:=zaa (pV.next qd T0);have hcf:0+((s.2.2.1.2.1.1.length+s.2.2.1.2.1.2.length)+s.2.2.1.2.2.length)<=1048576:=hcs;have HCF:Hid (∀i,Below w0.heap.size w0 i->Calls Tryz.prog 61 #[.agg #[.int .i64 s.2.2.1.1,.slice AL nL cL,.slice AR nR cR,.slice AV nV cV]] i (CfE i s.2.2.1)):=fun i G=>
  qaf s.2.2.1.1 AL nL cL AR nR cR AV nV cV s.2.2.1.2.1.1 s.2.2.1.2.1.2 s.2.2.1.2.2 i (HQL.out.next qd G) (HQR.out.next qd G) (HQV.out.next qd G) (by rw[<-pL.len];omega) (by rw[<-pR.len];omega) (by rw[<-pV.len];omega)
 have HFR:Hid (∀i,Below w0.heap.size w0 i->qj.rd i [.int .i64 s.2.2.1.1,.slice AL nL cL,.slice AR nR cR,.slice AV nV cV] s.2.2.1):=fun i G=>q6d pF (HQL.out.next qd G) (HQR.out.next qd G) (HQV.out.next qd G)
 have HBD:Hid ((∀v∈s.2.2.1.2.1.1,InR v)/\(∀v∈s.2.2.1.2.1.2,InR v)/\(∀v∈s.2.2.1.2.2,InR v)):=⟨pL.bounds,pR.bounds,pV.bounds⟩;have HQK:Hid (InR s.2.2.1.1):=pF;have hin:InR x.2.1.1:=⟨by have:=hx.1;omega,by have:=hx.2.1;omega⟩;obtain⟨tb,HTBV⟩:∃b,Hid (q1c x.2.1 s.2.2.1=b):=⟨_,zaa rfl⟩;obtain⟨p,HP⟩:∃p,Hid (posF x.2.2.1 s.2.2.1=p):=⟨_,zaa rfl⟩;have ad:=hPO.next T0;have ac:=hPG.next T0;have HI:Hid (∀i,Below w0.heap.size w0 i->Calls Tryz.prog 58 #[.agg #[.int .i64 x.2.1.1,.slice j x.2.1.2.length k],.agg #[.int .i64 s.2.2.1.1,.slice AL nL cL,.slice AR nR cR,.slice AV nV cV]] i (Bl i (.bool tb))):=fun i G=>by
  have:=qah [.int .i64 x.2.1.1,.slice j x.2.1.2.length k] _ x.2.1 s.2.2.1 i (qf.ord ((ad.next G).algO hin)) (HFR.out i G) hx
  rwa [HTBV.out]at this
 have HX:Hid (∀i,Below w0.heap.size w0 i->Calls Tryz.prog 59 #[.slice n x.2.2.1.length o,.agg #[.int .i64 s.2.2.1.1,.slice AL nL cL,.slice AR nR cR,.slice AV nV cV]] i (Bl i (.int .i64 p))):=fun i G=>by
  obtain⟨A',c',e,hrd⟩:=(ac.next G).rd;injection e with e1 e2 e3
  have:=q7l n x.2.2.1.length o _ x.2.2.1 s.2.2.1 i (by rw[e1];exact hrd) (HFR.out i G)
  rwa [HP.out]at this
 have HNG:Hid (w.heap.size+1+1∉obl (.slice n x.2.2.1.length o)):=fun h=>by have:=(hPG.2.2.2 _ (zbb _ h)).2;omega
 have HM:Hid (makM x s=some (if tb=true/\p<0 then(x.1,x.2.1,x.2.2.1++ [s.2.2.1],x.2.2.2)else(x.1,x.2.1,x.2.2.1,x.2.2.2+1))):=by
  show _=_
  unfold makM;rw[zam hk,HTBV.out,HP.out]
 have HLD:Hid (LabD B w0 x (.slice j x.2.1.2.length k) (.slice n x.2.2.1.length o)):=⟨css,bls,dss,cls,ad,ac,hap⟩;have HAD:Hid (p<0->addF x s.2.2.1=(x.1,x.2.1,x.2.2.1++ [s.2.2.1],x.2.2.2)):=fun hp=>by unfold addF;rw[HP.out,zam hp]
 have cP0:=BP.cell 0;have C:=BP.cell 1;have D:=BP.cell 2;have E:=BP.cell 3;have y:=BP.cell 4;have cQ0:=BQ.cell 0;have I:=BQ.cell 2;have J:=BQ.cell 3;have K:=BQ.cell 4;have L:=BQ.cell 5;simp at cP0 C D E y cQ0 I J K L;rw[hk]at cQ0;have l:=cP0;rw[N]at l;have HOP:=zaa N;have HT0:=zaa T0;clear hw0 hsz0 h' hk hPO hPG ad ac hap T0 pF pL pR pV hcf hcs cP0 N
 go_enter Tryz.func28,zgd
 go_upto_region 1 with fail;rw[<-HW0.out];go_wp2_with fail;refine(HI.out _ (zac _ _)).mono ?_;rintro e w1 ⟨rfl,F⟩;have zkk:=kk9 F l C D E y I J K L;clear l C D E y I J K L;obtain⟨l,C,D,E,y,I,J,K,L⟩:=zkk;have T1:=q9 HT0.out F rfl;obtain⟨qb,HQB⟩:∃q,Hid ((tb &&decide (p<0))=q):=⟨_,zaa rfl⟩;have hcase:(tb=false)\/(tb=true/\p<0)\/(tb=true/\¬p<0):=by
  rcases tb with _|_
  .exact Or.inl rfl
  .by_cases hp:p<0
   .exact zew (Or.inl ⟨rfl,hp⟩)
   .exact zew (zew ⟨rfl,hp⟩)
 rcases hcase with rfl|⟨rfl,hp⟩|⟨rfl,hp⟩
 .have HNO:Hid (¬(false=true/\p<0)):=fun h=>by cases h.1
  have S:Hid (makM x s=some (x.1,x.2.1,x.2.2.1,x.2.2.2+1)):=HM.out.trans (by rw[zaj HNO.out]);have hw64:IntKind.i64.wrap (x.2.2.2+1)=x.2.2.2+1:=zck _ (by omega);have A:=BP.next F;have P:=BZ.next F;have fP4:=A.frozen 4;obtain⟨O,t⟩:∃wb,Hid (wb=w1.setCell ⟨w.heap.size,4,none⟩ (.int .i64 (x.2.2.2+1))):=⟨_,zaa rfl⟩;have r:Blk O w.heap.size 27 #[.bool x.1,.int .i64 x.2.1.1,.slice j x.2.1.2.length k,.slice n x.2.2.1.length o,.int .i64 (x.2.2.2+1)]:=by rw[t.out];simpa using A.set_ 4 (.int .i64 (x.2.2.2+1))
  have f:Blk O (w.heap.size+1+1) 27 #[.bool false,.int .i64 0,.slice none 0 0,.slice none 0 0,.int .i64 0]:=by rw[t.out];exact P.far (p:=⟨w.heap.size,4,none⟩) (by show _≠w.heap.size;omega) _
  have ab:LabD B w1 (x.1,x.2.1,x.2.2.1,x.2.2.2+1) (.slice j x.2.1.2.length k) (.slice n x.2.2.1.length o):=HLD.out.next F;have aa:LabD B O (x.1,x.2.1,x.2.2.1,x.2.2.2+1) (.slice j x.2.1.2.length k) (.slice n x.2.2.1.length o):=by rw[t.out];exact ab.setB A _
  have T9:Below w.heap.size w O:=by rw[t.out];exact T1.setCell (p:=⟨w.heap.size,4,none⟩) (zad _) _
  have R:Hid (∀a b c d e,LabD B (((((O.setCell ⟨w.heap.size+1+1,0,none⟩ a).setCell ⟨w.heap.size+1+1,1,none⟩ b).setCell ⟨w.heap.size+1+1,2,none⟩ c).setCell ⟨w.heap.size+1+1,3,none⟩ d).setCell ⟨w.heap.size+1+1,4,none⟩ e) (x.1,x.2.1,x.2.2.1,x.2.2.2+1) (.slice j x.2.1.2.length k) (.slice n x.2.2.1.length o)):=fun a b c d e=>
   ((((aa.setB f a).setB (f.set_ 0 a) b).setB ((f.set_ 0 a).set_ 1 b) c).setB (((f.set_ 0 a).set_ 1 b).set_ 2 c) d).setB ((((f.set_ 0 a).set_ 1 b).set_ 2 c).set_ 3 d) e
  have Q:Hid (∀a b c d e,Blk (((((O.setCell ⟨w.heap.size+1+1,0,none⟩ a).setCell ⟨w.heap.size+1+1,1,none⟩ b).setCell ⟨w.heap.size+1+1,2,none⟩ c).setCell ⟨w.heap.size+1+1,3,none⟩ d).setCell ⟨w.heap.size+1+1,4,none⟩ e) (w.heap.size+1+1) 27 #[a,b,c,d,e]):=fun a b c d e=>q18 f a b c d e
  have U:Hid (∀a b c d e,Below w.heap.size w (((((O.setCell ⟨w.heap.size+1+1,0,none⟩ a).setCell ⟨w.heap.size+1+1,1,none⟩ b).setCell ⟨w.heap.size+1+1,2,none⟩ c).setCell ⟨w.heap.size+1+1,3,none⟩ d).setCell ⟨w.heap.size+1+1,4,none⟩ e)):=fun a b c d e=>q10 T9 (by omega) a b c d e
  have dP0:=r.cell 0;have dP1:=r.cell 1;have dP2:=r.cell 2;have dP3:=r.cell 3;have dP4:=r.cell 4;have fR0:=f.frozen 0;have fR1:=f.frozen 1;have fR2:=f.frozen 2;have fR3:=f.frozen 3;have fR4:=f.frozen 4;have V:=f.cell 0;have W:=f.cell 1;have X:=f.cell 2;have Y:=f.cell 3;have Z:=f.cell 4;simp at dP0 dP1 dP2 dP3 dP4 V W X Y Z;have T:Hid ((decide ((x.2.2.1.length:Int)<=12) &&decide (x.2.2.2+1<=9999))=decide (x.2.2.2+1<=9999)):=by show _=_;rw[zbh (by omega:(x.2.2.1.length:Int)<=12),zdo]
  clear A P ab aa;go_upto_region 15 with fail;rw[<-t.out]
  go_region
  all_goals
   go_wp2_with fail
   (try simp only[Exit.inBlock,Exit.then])
   refine zat (v:=.tuple #[.agg #[.bool x.1,.int .i64 x.2.1.1,.slice j x.2.1.2.length k,.slice n x.2.2.1.length o,.int .i64 (x.2.2.2+1)],.bool (decide (x.2.2.2+1<=9999))]) ?hr rfl ?_
   case hr=>exact qn rfl _ _ (w.heap.size+1+1) 27 #[.bool x.1,.int .i64 x.2.1.1,.slice j x.2.1.2.length k,.slice n x.2.2.1.length o,.int .i64 (x.2.2.2+1)] (0,0) _ _ rfl ((Q.out _ _ _ _ _).next (zai (zac _ _))) zbg rfl (by kernel_rfl) rfl
   exact⟨BelO.of (zai (U.out _ _ _ _ _)) hB,zew ⟨(x.1,x.2.1,x.2.2.1,x.2.2.2+1),.slice j x.2.1.2.length k,.slice n x.2.2.1.length o,S.out,by show _=Ending.returned (.tuple #[_,.bool (decide ((x.2.2.1.length:Int)<=12) &&decide (x.2.2.2+1<=9999))]);rw[T.out],(R.out _ _ _ _ _).next (zai (zac _ _))⟩⟩
 .go_wp2_with fail
  refine(HX.out _ F).mono ?_;rintro e H ⟨rfl,M⟩;have S:Hid (makM x s=some (true,x.2.1,x.2.2.1++ [s.2.2.1],x.2.2.2)):=HM.out.trans (by rw[zam (by simp[hp]),HOP.out]);have m:=q9 F M rfl;have T2:=q9 T1 M rfl;have zkk:=kk9 M l C D E y I J K L;clear l C D E y I J K L;obtain⟨l,C,D,E,y,I,J,K,L⟩:=zkk;have HLD2:Hid (LabD B H x (.slice j x.2.1.2.length k) (.slice n x.2.2.1.length o)):=HLD.out.next m;have BZ2:=BZ.next m;have hz12:=m.size;have HC2:Hid (∀i,Below H.heap.size H i->Calls Tryz.prog 61 #[.agg #[.int .i64 s.2.2.1.1,.slice AL nL cL,.slice AR nR cR,.slice AV nV cV]] i (CfE i s.2.2.1)):=fun i G=>HCF.out i (q9 m G rfl)
  have hBw2:B<=H.heap.size:=by omega
  have HPUT:Hid (∀(w6:World) (B1:Option Addr) (d1:Nat) (B2:Option Addr) (d2:Nat) (B3:Option Addr) (d3:Nat) (bk:List Nat),Below H.heap.size H w6->qj.own w6 [.int .i64 s.2.2.1.1,.slice B1 s.2.2.1.2.1.1.length d1,.slice B2 s.2.2.1.2.1.2.length d2,.slice B3 s.2.2.1.2.2.length d3] s.2.2.1 bk->Iv H.heap.size w6.heap.size bk->
    Calls Tryz.prog 60 #[.agg #[.bool true,.int .i64 x.2.1.1,.slice j x.2.1.2.length k,.slice n x.2.2.1.length o,.int .i64 x.2.2.2],.agg #[.int .i64 s.2.2.1.1,.slice B1 s.2.2.1.2.1.1.length d1,.slice B2 s.2.2.1.2.1.2.length d2,.slice B3 s.2.2.1.2.2.length d3]] w6 (PutE B w6 (true,x.2.1,x.2.2.1++ [s.2.2.1],x.2.2.2) (.slice j x.2.1.2.length k) (.slice n x.2.2.1.length o))):=fun w6 B1 d1 B2 d2 B3 d3 bk G ho hiv=>by
   have:=qbq B H w6 x (.slice j x.2.1.2.length k) (.slice n x.2.2.1.length o) s.2.2.1 B1 B2 B3 _ d1 _ d2 _ d3 bk hBw2 HLD2.out G ho hiv (by omega);rw[HAD.out hp,HOP.out]at this;exact this
  have Tk:Below H.heap.size H H:=zac _ _;go_upto_region 13 with fail
  first|(go_region_law (first
   |(go_simp;go_at_call 61;(with_reducible refine(HC2.out _ ?_).mono ?_);(first|exact Tk|exact zai Tk);rintro e w6 hcf;obtain⟨B1,d1,B2,d2,B3,d3,bk,rfl,hO6,hiv6,hbn⟩:=qbk hcf HQK.out HBD.out.1 HBD.out.2.1 HBD.out.2.2;have z:=q9 (zai (zac H.heap.size H)) hbn rfl;have hiv6':Iv H.heap.size w6.heap.size bk:=hiv6;have ycP0:=qe z l;have ycP1:=qe z C;have ycP2:=qe z D;have ycP3:=qe z E;have ycP4:=qe z y)
   |(go_simp;go_at_call 60;refine(HPUT.out _ _ _ _ _ _ _ _ z hO6 hiv6').mono ?_;rintro e w7 ⟨u7,rfl,hLD7,hB7,hS7⟩;obtain⟨A7,c7,A8,c8,-,rfl,-⟩:=hLD7.w.slices;have g:Blk w7 (w.heap.size+1+1) 27 #[.bool false,.int .i64 0,.slice none 0 0,.slice none 0 0,.int .i64 0]:=(hS7 _ (by have:=z.size;omega) HNG.out).trans (BZ2.next z);have V:=g.cell 0;have fR0:=g.frozen 0;have W:=g.cell 1;have fR1:=g.frozen 1;have X:=g.cell 2;have fR2:=g.frozen 2;have Y:=g.cell 3;have fR3:=g.frozen 3;have Z:=g.cell 4;have fR4:=g.frozen 4;simp at V W X Y Z)))|fail
  all_goals
   have hle:(x.2.2.1++ [s.2.2.1]).length=x.2.2.1.length+1:=by simp
   have hLD8:LabD B w7 (true,x.2.1,x.2.2.1++ [s.2.2.1],x.2.2.2) (.slice j x.2.1.2.length k) (.slice A8 (x.2.2.1.length+1) c8):=by rw[<-hle];exact hLD7
   have R:Hid (∀a b c d e,LabD B (((((w7.setCell ⟨w.heap.size+1+1,0,none⟩ a).setCell ⟨w.heap.size+1+1,1,none⟩ b).setCell ⟨w.heap.size+1+1,2,none⟩ c).setCell ⟨w.heap.size+1+1,3,none⟩ d).setCell ⟨w.heap.size+1+1,4,none⟩ e) (true,x.2.1,x.2.2.1++ [s.2.2.1],x.2.2.2) (.slice j x.2.1.2.length k) (.slice A8 (x.2.2.1.length+1) c8)):=fun a b c d e=>
    ((((hLD8.setB g a).setB (g.set_ 0 a) b).setB ((g.set_ 0 a).set_ 1 b) c).setB (((g.set_ 0 a).set_ 1 b).set_ 2 c) d).setB ((((g.set_ 0 a).set_ 1 b).set_ 2 c).set_ 3 d) e
   have Q:Hid (∀a b c d e,Blk (((((w7.setCell ⟨w.heap.size+1+1,0,none⟩ a).setCell ⟨w.heap.size+1+1,1,none⟩ b).setCell ⟨w.heap.size+1+1,2,none⟩ c).setCell ⟨w.heap.size+1+1,3,none⟩ d).setCell ⟨w.heap.size+1+1,4,none⟩ e) (w.heap.size+1+1) 27 #[a,b,c,d,e]):=fun a b c d e=>q18 g a b c d e
   have U:Hid (∀a b c d e,BelO B (.slice n x.2.2.1.length o) w (((((w7.setCell ⟨w.heap.size+1+1,0,none⟩ a).setCell ⟨w.heap.size+1+1,1,none⟩ b).setCell ⟨w.heap.size+1+1,2,none⟩ c).setCell ⟨w.heap.size+1+1,3,none⟩ d).setCell ⟨w.heap.size+1+1,4,none⟩ e)):=fun a b c d e=>BelO.set5 (BelO.step (BelO.of (q9 T2 z rfl) hB) hB7 (by have:=z.size;have:=T2.size;omega) hS7) (by omega) hB a b c d e
   have T:Hid ((decide (((x.2.2.1++ [s.2.2.1]).length:Int)<=12) &&decide (x.2.2.2<=9999))=decide ((x.2.2.1.length:Int)+1<=12)):=by show _=_;rw[zbh hr.2,Bool.and_true,hle];push_cast;rfl
   go_wp2_with fail
   (try simp only[Exit.inBlock,Exit.then])
   refine zat (v:=.tuple #[.agg #[.bool true,.int .i64 x.2.1.1,.slice j x.2.1.2.length k,.slice A8 (x.2.2.1.length+1) c8,.int .i64 x.2.2.2],.bool (decide ((x.2.2.1.length:Int)+1<=12))]) ?hr rfl ?_
   case hr=>exact qn rfl _ _ (w.heap.size+1+1) 27 #[.bool true,.int .i64 x.2.1.1,.slice j x.2.1.2.length k,.slice A8 (x.2.2.1.length+1) c8,.int .i64 x.2.2.2] (0,0) _ _ rfl (Q.out _ _ _ _ _) zbg rfl (by kernel_rfl) rfl
   exact⟨U.out _ _ _ _ _,zew ⟨(true,x.2.1,x.2.2.1++ [s.2.2.1],x.2.2.2),.slice j x.2.1.2.length k,.slice A8 (x.2.2.1.length+1) c8,S.out,by show _=Ending.returned (.tuple #[_,.bool (decide (((x.2.2.1++ [s.2.2.1]).length:Int)<=12) &&decide (x.2.2.2<=9999))]);rw[T.out],R.out _ _ _ _ _⟩⟩
 .have HNO:Hid (¬(true=true/\p<0)):=fun h=>hp h.2
  go_wp2_with fail;refine(HX.out _ F).mono ?_;rintro e H ⟨rfl,M⟩;have m:=q9 F M rfl;have T2:=q9 T1 M rfl;replace y:=qe M y;clear C D E;have S:Hid (makM x s=some (x.1,x.2.1,x.2.2.1,x.2.2.2+1)):=HM.out.trans (by rw[zaj HNO.out]);have hw64:IntKind.i64.wrap (x.2.2.2+1)=x.2.2.2+1:=zck _ (by omega);have A:=BP.next m;have P:=BZ.next m;have fP4:=A.frozen 4;obtain⟨O,t⟩:∃wb,Hid (wb=H.setCell ⟨w.heap.size,4,none⟩ (.int .i64 (x.2.2.2+1))):=⟨_,zaa rfl⟩;have r:Blk O w.heap.size 27 #[.bool x.1,.int .i64 x.2.1.1,.slice j x.2.1.2.length k,.slice n x.2.2.1.length o,.int .i64 (x.2.2.2+1)]:=by rw[t.out];simpa using A.set_ 4 (.int .i64 (x.2.2.2+1))
  have f:Blk O (w.heap.size+1+1) 27 #[.bool false,.int .i64 0,.slice none 0 0,.slice none 0 0,.int .i64 0]:=by rw[t.out];exact P.far (p:=⟨w.heap.size,4,none⟩) (by show _≠w.heap.size;omega) _
  have ab:LabD B H (x.1,x.2.1,x.2.2.1,x.2.2.2+1) (.slice j x.2.1.2.length k) (.slice n x.2.2.1.length o):=HLD.out.next m;have aa:LabD B O (x.1,x.2.1,x.2.2.1,x.2.2.2+1) (.slice j x.2.1.2.length k) (.slice n x.2.2.1.length o):=by rw[t.out];exact ab.setB A _
  have T9:Below w.heap.size w O:=by rw[t.out];exact T2.setCell (p:=⟨w.heap.size,4,none⟩) (zad _) _
  have R:Hid (∀a b c d e,LabD B (((((O.setCell ⟨w.heap.size+1+1,0,none⟩ a).setCell ⟨w.heap.size+1+1,1,none⟩ b).setCell ⟨w.heap.size+1+1,2,none⟩ c).setCell ⟨w.heap.size+1+1,3,none⟩ d).setCell ⟨w.heap.size+1+1,4,none⟩ e) (x.1,x.2.1,x.2.2.1,x.2.2.2+1) (.slice j x.2.1.2.length k) (.slice n x.2.2.1.length o)):=fun a b c d e=>
   ((((aa.setB f a).setB (f.set_ 0 a) b).setB ((f.set_ 0 a).set_ 1 b) c).setB (((f.set_ 0 a).set_ 1 b).set_ 2 c) d).setB ((((f.set_ 0 a).set_ 1 b).set_ 2 c).set_ 3 d) e
  have Q:Hid (∀a b c d e,Blk (((((O.setCell ⟨w.heap.size+1+1,0,none⟩ a).setCell ⟨w.heap.size+1+1,1,none⟩ b).setCell ⟨w.heap.size+1+1,2,none⟩ c).setCell ⟨w.heap.size+1+1,3,none⟩ d).setCell ⟨w.heap.size+1+1,4,none⟩ e) (w.heap.size+1+1) 27 #[a,b,c,d,e]):=fun a b c d e=>q18 f a b c d e
  have U:Hid (∀a b c d e,Below w.heap.size w (((((O.setCell ⟨w.heap.size+1+1,0,none⟩ a).setCell ⟨w.heap.size+1+1,1,none⟩ b).setCell ⟨w.heap.size+1+1,2,none⟩ c).setCell ⟨w.heap.size+1+1,3,none⟩ d).setCell ⟨w.heap.size+1+1,4,none⟩ e)):=fun a b c d e=>q10 T9 (by omega) a b c d e
  have dP0:=r.cell 0;have dP1:=r.cell 1;have dP2:=r.cell 2;have dP3:=r.cell 3;have dP4:=r.cell 4;have fR0:=f.frozen 0;have fR1:=f.frozen 1;have fR2:=f.frozen 2;have fR3:=f.frozen 3;have fR4:=f.frozen 4;have V:=f.cell 0;have W:=f.cell 1;have X:=f.cell 2;have Y:=f.cell 3;have Z:=f.cell 4;simp at dP0 dP1 dP2 dP3 dP4 V W X Y Z;have T:Hid ((decide ((x.2.2.1.length:Int)<=12) &&decide (x.2.2.2+1<=9999))=decide (x.2.2.2+1<=9999)):=by show _=_;rw[zbh (by omega:(x.2.2.1.length:Int)<=12),zdo]
  clear A P ab aa;go_upto_region 15 with fail;rw[<-t.out]
  go_region
  all_goals
   go_wp2_with fail
   (try simp only[Exit.inBlock,Exit.then])
   refine zat (v:=.tuple #[.agg #[.bool x.1,.int .i64 x.2.1.1,.slice j x.2.1.2.length k,.slice n x.2.2.1.length o,.int .i64 (x.2.2.2+1)],.bool (decide (x.2.2.2+1<=9999))]) ?hr rfl ?_
   case hr=>exact qn rfl _ _ (w.heap.size+1+1) 27 #[.bool x.1,.int .i64 x.2.1.1,.slice j x.2.1.2.length k,.slice n x.2.2.1.length o,.int .i64 (x.2.2.2+1)] (0,0) _ _ rfl ((Q.out _ _ _ _ _).next (zai (zac _ _))) zbg rfl (by kernel_rfl) rfl
   exact⟨BelO.of (zai (U.out _ _ _ _ _)) hB,zew ⟨(x.1,x.2.1,x.2.2.1,x.2.2.2+1),.slice j x.2.1.2.length k,.slice n x.2.2.1.length o,S.out,by show _=Ending.returned (.tuple #[_,.bool (decide ((x.2.2.1.length:Int)<=12) &&decide (x.2.2.2+1<=9999))]);rw[T.out],(R.out _ _ _ _ _).next (zai (zac _ _))⟩⟩
theorem qbw (b:List Int) (x:Int):∀l:List Int,q2d b (l++ [x])=q2d b l++(if hasI x b=true then[x]else[])
 | [] => by
   show q2d b [x] = _
   unfold q2d
   split <;> rename_i h
   . rfl
   . rfl
 | a :: l => by
   show q2d b (a :: (l ++ [x])) = _
   rw [q2d, q2d, qbw b x l]
   split <;> rfl
theorem qem (cs:List Value) (x:qi) (A U:Option Addr) (n c m d:Nat) (S T:List Int) (w:World) (h:qf.rd w cs x) (hx:AlgP x) (hS:RdL RI w A n S) (hT:RdL RI w U m T) (sS:subB x.1.toNat x.2 S=true) (sT:subB x.1.toNat x.2 T=true) (hn:n<=1000):
  Calls Tryz.prog 111 #[.agg cs.toArray,.slice A n c,.slice U m d] w (fun e w'=>∃A1 c1,e=.returned (.tuple #[.slice A1 (q2d T S).length c1,.bool true])/\w'.ownsRow w.heap.size 3 1 (.slice A1 (q2d T S).length c1) (q2d T S).length (ints (q2d T S))/\Below w.heap.size w w'):=by
 have O:=h;obtain⟨B,k,e,rfl,-,-⟩:=qv h;obtain⟨H,Q,T0,P,BP⟩:=q15 w #[.int .i64 x.1,.slice B k e] 24;have aa:=zaa Q;obtain⟨V,E⟩:∃wb,Hid (wb=H.alloc (.cells #[] 3)):=⟨_,zaa rfl⟩;have F:Below H.heap.size H V:=by rw[E.out];exact qm _ _
 have T1:=q9 T0 F rfl;have hz0:=T0.size;have hO:V.ownsRow w.heap.size 3 1 (.slice (some ⟨H.heap.size,0,none⟩) 0 0) 0 []:=by rw[E.out];exact ql (zb7 (base:=H.heap.size) (e:=3) (size:=1) H #[] 0 (zad _) (zah _) rfl) hz0
 have t:=(BP.next F).cell 0;have y:=(BP.next F).cell 1;simp at t y;have W:Hid (∀wz,Below V.heap.size V wz->qf.rd wz [.int .i64 x.1,.slice B k e] x):=fun wz hz=>q6l (q6l O T1) hz
 have X:Hid (algB x=true):=q43.2 hx;have M:=zaa hx;have J:=zaa hS;have K:=zaa hT;have ab:=zaa sS;have ac:=zaa sT;have D:=zaa T1;clear Q P h O sS sT
 go_enter Tryz.func111,Tryz.ntmps111
 go_upto_region 1 with fail;rw[<-aa.out];go_upto_region 2 with fail;rw[<-E.out];go_wp2_with fail;refine(q5a _ x _ (W.out _ (zac _ _))).mono ?_;rintro e w2 ⟨rfl,p⟩;rw[X.out];have k0:=qe p t;have k1:=qe p y;go_wp2_with fail;refine(q82 _ x A n c S _ (W.out _ p) M.out (J.out.next qd (q9 D.out p rfl))).mono ?_;rintro e w3 ⟨rfl,ad⟩;rw[ab.out];have a:=q9 p ad rfl;have j0:=qe a t;have j1:=qe a y;go_wp2_with fail;refine(q82 _ x U m d T _ (W.out _ a) M.out (K.out.next qd (q9 D.out a rfl))).mono ?_;rintro e w4 ⟨rfl,ae⟩;rw[ac.out];have z:=q9 a ae rfl;have T4:=q9 D.out z rfl;have N:=qp hO z;clear hO k0 k1 j0 j1 t y;have HL:=zaa hS.len;go_wp2_with fail
 go_loopw [8,9] (fun s i wr=>∃(j:Nat) (A1:Option Addr) (c1:Nat),j<=n/\i=.int .i64 j/\s=.slice A1 (q2d T (S.take j)).length c1/\wr.ownsRow w.heap.size 3 1 (.slice A1 (q2d T (S.take j)).length c1) (q2d T (S.take j)).length (ints (q2d T (S.take j)))/\Below w.heap.size w wr) (fun _ i _=>n - (intOf i).toNat)
 case atStart=>exact⟨0,_,_,zah _,rfl,rfl,N,T4⟩
 case round=>
  clear N T4 hS hT;obtain⟨j,A1,c1,hj,rfl,rfl,f,g⟩:=hrel;have hz:=g.size
  by_cases hlt:j<n
  .have hj0:(0:Int)<=(j:Int):=by omega
   have ag:(j:Int)<(n:Int):=by omega
   obtain⟨b,o,u,v,rfl,hc,⟨rfl,-,-⟩,-,R⟩:=(J.out.next qd g).at hlt;have Z:Hid (S.take (j+1)=S.take j++ [v]):=q3a R;have HQ:=zaa (ql8 U m d T v wr (K.out.next qd g));obtain⟨qb,I⟩:∃q,Hid (hasI v T=q):=⟨_,zaa rfl⟩;have C:Hid (q2d T (S.take (j+1))=q2d T (S.take j)++(if qb=true then[v]else[])):=by show _=_;rw[Z.out,qbw,I.out]
   rw[I.out]at HQ;obtain⟨L,r⟩:∃L,Hid (q2d T (S.take j)=L):=⟨_,zaa rfl⟩;have Y:Hid (L.length<=n):=by show _<=_;rw[<-r.out];exact za7 (qel T (S.take j)) (by rw[za9];omega)
   rw[r.out]at f C;have hll:=Y.out;clear R;go_wp2_with fail;refine HQ.out.mono ?_;rintro e w5 ⟨rfl,rfl⟩
   rcases qb with _|_
   .have l:Hid (q2d T (S.take (j+1))=L):=by show _=_;rw[C.out];simp
    go_wp2_with fail
    go_roundw
    case rel=>exact⟨j+1,A1,c1,by omega,by go_num,by rw[l.out,<-r.out],by rw[l.out];exact f,g⟩
    case measure=>simp[intOf];try omega
   .have l:Hid (q2d T (S.take (j+1))=L++ [v]):=by show _=_;rw[C.out];simp
    go_wp2_with (at_builtin;refine app1 _ rfl _ _ 43 3 rfl (.int .i64 0) 8 za1 q14 rfl (by decide) w.heap.size L.length c1 A1 (ints L) (by first|rfl|(rw[r.out];rfl)) f (.int .i64 v) rfl rfl (by omega) hz ?_;intro A3 c3 w6 G hg3 af)
    go_roundw
    case rel=>exact⟨j+1,A3,c3,by omega,by go_num,by rw[l.out];simp,by rw[l.out,q3c];simpa[ints]using G,g.trans af⟩
    case measure=>simp[intOf];try omega
  .obtain rfl:j=n:=by omega
   have ag:¬(j:Int)<(j:Int):=by omega
   have HE:Hid (S.take j=S):=zar (by rw[HL.out];exact zad _);rw[HE.out]at f;go_wp2_with fail
   go_ret2
   exact⟨A1,c1,by first|rfl|(rw[HE.out];rfl),f,g⟩
theorem qe7 (cs:List Value) (x:qi) (A u:Option Addr) (n c m d:Nat) (S T:List Int) (w:World) (h:qf.rd w cs x) (hx:AlgP x) (hS:RdL RI w A n S) (hT:RdL RI w u m T) (sS:subB x.1.toNat x.2 S=true) (sT:subB x.1.toNat x.2 T=true) (hn:n<=1000) (hm:m<=1000) (bS:∀v∈S,0<=v/\v<=x.1 - 1) (bT:∀v∈T,0<=v/\v<=x.1 - 1):
  Calls Tryz.prog 112 #[.agg cs.toArray,.slice A n c,.slice u m d] w (fun e w'=>∃A1 c1,e=.returned (.tuple #[.slice A1 (genL x.1.toNat x.2 (S++T)).length c1,.bool true])/\w'.ownsRow w.heap.size 3 1 (.slice A1 (genL x.1.toNat x.2 (S++T)).length c1) (genL x.1.toNat x.2 (S++T)).length (ints (genL x.1.toNat x.2 (S++T)))/\Below w.heap.size w w'):=by
 have I:=h;obtain⟨B,k,e,rfl,-,-⟩:=qv h;obtain⟨w0,K,T0,J,BP⟩:=q15 w #[.int .i64 x.1,.slice B k e] 24;have V:=zaa K;obtain⟨L,W⟩:∃wb,wb=w0:=⟨_,rfl⟩;subst W;have H:Below L.heap.size L L:=zac _ _;have T1:=T0;have hz0:=T0.size;have i:=(BP.next H).cell 0;have j:=(BP.next H).cell 1;simp at i j;have M:Hid (∀a,Below L.heap.size L a->qf.rd a [.int .i64 x.1,.slice B k e] x):=fun a t=>q6l (q6l I T1) t
 have O:Hid (algB x=true):=q43.2 hx;have p:=zaa hx;have C:=zaa hS;have E:=zaa hT;have X:=zaa sS;have Y:=zaa sT;have q:=zaa T1;clear K J h I sS sT
 go_enter Tryz.func112,Tryz.ntmps112
 go_upto_region 1 with fail;rw[<-V.out];go_wp2_with fail;refine(q5a _ x _ (M.out _ (zac _ _))).mono ?_;rintro e w2 ⟨rfl,l⟩;rw[O.out];have k0:=qe l i;have k1:=qe l j;go_wp2_with fail;refine(q82 _ x A n c S _ (M.out _ l) p.out (C.out.next qd (q9 q.out l rfl))).mono ?_;rintro e w3 ⟨rfl,Z⟩;rw[X.out];have b:=q9 l Z rfl;have j0:=qe b i;have j1:=qe b j;go_wp2_with fail;refine(q82 _ x u m d T _ (M.out _ b) p.out (E.out.next qd (q9 q.out b rfl))).mono ?_;rintro e g ⟨rfl,aa⟩;rw[Y.out];have f:=q9 b aa rfl;have F:=q9 q.out f rfl;have k4:=qe f i;have k5:=qe f j;have Q:Hid (∀a,Below g.heap.size g a->Calls Tryz.prog 110 #[.slice A n c] a fun e w'=>∃A' c',e=.returned (.slice A' n c')/\w'.ownsRow a.heap.size 3 1 (.slice A' n c') n (ints S)/\Below a.heap.size a w'):=fun a t=>q2s A n c S a ((C.out.next qd F).next qd t) (by omega)
 have U:Hid (∀a,Below g.heap.size g a->RdL RI a u m T):=fun a t=>(E.out.next qd F).next qd t
 have N:Hid (∀a,Below g.heap.size g a->qf.rd a [.int .i64 x.1,.slice B k e] x):=fun a t=>M.out _ (q9 f t rfl)
 have z:Hid (∀v∈S++T,0<=v/\v<=x.1 - 1):=fun v hv=>(zau.1 hv).elim (bS v) (bT v)
 have P:Hid (∀v∈S++T, -9223372036854775808<=v/\v<=9223372036854775807):=fun v hv=>by
  have h1:=z.out v hv;have h2:=p.out.2.1;omega
 have D:=zaa F;have hz4:=F.size;have o:Below g.heap.size g g:=zac _ _;clear k0 k1 j0 j1 i j F bS bT hS hT;go_upto_region 3 with fail
 first|(go_region_law (first
  |(refine q1b (R:=RI) _ rfl (.tmp 26) (.tmp 27) 43 3 rfl (.int .i64 0) 8 za1 q14 rfl (by decide) g.heap.size n c5 A5 (ints S) (by rfl) (by exact ae) u m d T (fun y=>.int .i64 y) (fun _=>rfl) (by rfl) (U.out _ o) (fun _ _ _ hr=>hr.1) (by omega) (by exact o.size) ?_;intro A6 c6 w6 r hg6 ac;have G:Below g.heap.size g w6:=o.trans ac;have s:w6.ownsRow g.heap.size 3 1 (.slice A6 (n+m) c6) (n+m) (ints (S++T)):=(by simpa[ints]using r);have q0:=qe G k4;have q1:=qe G k5)
  |(go_simp;go_at_call 110;(with_reducible refine(Q.out _ ?_).mono ?_);(first|exact o|exact zai o);rintro e w5 ⟨A5,c5,rfl,ae,ab⟩;replace o:=q9 (by first|exact o|exact zai o) ab rfl;have x0:=qe o k4;have x1:=qe o k5)
  |(go_simp;go_at_call 106;refine(q7m _ x A6 (n+m) c6 (S++T) _ (N.out _ G) p.out (q12 (R:=RI) s (q1r P.out)) z.out).mono ?_;rintro e w7 ⟨A7,c7,rfl,af,ad⟩)))|fail
 all_goals
  go_wp2_with fail
  go_ret2
  exact⟨A7,c7,rfl,ql af (by have:=G.size;omega),q9 D.out (q9 G ad rfl) rfl⟩
def TwE (w:World) (o:Option qy) (e:Ending) (w':World):Prop:=Below w.heap.size w w'/\((o=none/\e=.returned (.tuple #[.agg #[.int .i64 0,.slice none 0 0,.slice none 0 0,.slice none 0 0],.bool false]))\/∃(k:Int) (L:List Int) (A:Option Addr) (c:Nat),o=some (k,([], []),L)/\e=.returned (.tuple #[.agg #[.int .i64 k,.slice none 0 0,.slice none 0 0,.slice A L.length c],.bool true])/\qj.own w' [.int .i64 k,.slice none 0 0,.slice none 0 0,.slice A L.length c] (k,([], []),L) (obl (.slice A L.length c))/\Iv w.heap.size w'.heap.size (obl (.slice A L.length c)))
theorem qoe {w:World} {lo j n:Nat} {e:TypeId} {v:Value} {xs:List Value} (h:w.ownsRow lo e j v n xs) {g:Nat} {k l m o:Value} (i:Blk w g 57 #[k,l,m,o]) (f:e≠57) (a b c d:Value):((((w.setCell ⟨g,0,none⟩ a).setCell ⟨g,1,none⟩ b).setCell ⟨g,2,none⟩ c).setCell ⟨g,3,none⟩ d).ownsRow lo e j v n xs:=
 q23 (q23 (q23 (q23 h i f 0 a) (i.set_ 0 a) f 1 b) ((i.set_ 0 a).set_ 1 b) f 2 c) (((i.set_ 0 a).set_ 1 b).set_ 2 c) f 3 d
theorem qjd (B:Nat) (ds:List Value) (x:LabM) (s:qq) (j:Bool) (kd:Int) (hkd:(j=true->kd=4)/\(j=false->kd=3)) (a b:Nat) (w:World) (A1 A2:Option Addr) (c1 Y:Nat) (hD:LabD B w x (.slice A1 x.2.1.2.length c1) (.slice A2 x.2.2.1.length Y)) (h':qh.rd w ds s) (hx:AlgP x.2.1) (hln:x.2.2.1.length<=12) (htr:∀f∈x.2.2.1,q1c x.2.1 f=true) (hj:s.1=kd) (hsa:s.2.2.2.2.1=(a:Int)) (hsb:s.2.2.2.2.2=(b:Int)):
  Calls Tryz.prog 62 #[.agg #[.bool x.1,.int .i64 x.2.1.1,.slice A1 x.2.1.2.length c1,.slice A2 x.2.2.1.length Y,.int .i64 x.2.2.2],.agg ds.toArray] w (TwE w (twoF x kd (a:Int) (b:Int))):=by
 obtain⟨AL,nL,cL,AR,nR,cR,AV,nV,cV,AS,nS,cS,rfl,-,-,-,-,-,-,-,-,-⟩:=q1a h';obtain⟨css,bls,dss,cls,hPO,hPG,hap⟩:=hD;have hin:InR x.2.1.1:=⟨by have:=hx.1;omega,by have:=hx.2.1;omega⟩;rw[hsa,hsb,hj];obtain⟨D,hw0,T0,hsz0,BP,BQ,BZ⟩:=q4z w #[.bool x.1,.int .i64 x.2.1.1,.slice A1 x.2.1.2.length c1,.slice A2 x.2.2.1.length Y,.int .i64 x.2.2.2] #[.int .i64 kd,.string s.2.1,.int .i64 s.2.2.1.1,.slice AL nL cL,.slice AR nR cR,.slice AV nV cV,.slice AS nS cS,.int .i64 (a:Int),.int .i64 (b:Int)] #[.int .i64 0,.slice none 0 0,.slice none 0 0,.slice none 0 0] 27 59 57;have HW0:=zaa hw0;have HT0:=zaa T0;have hs0:D.heap.size=w.heap.size+3:=hsz0;have HP0:=zaa (hPO.next T0);have cP1:=BP.cell 1;have cP2:=BP.cell 2;have m:=BP.cell 3;have cQ0:=BQ.cell 0;have n:=BQ.cell 7;have o:=BQ.cell 8;simp at cP1 cP2 m cQ0 n o;obtain⟨M,N,O,R,fZ0,fZ1,fZ2,fZ3⟩:=cf4 BZ;have Tk:Below D.heap.size D D:=zac _ _
 by_cases hno:a=b\/x.2.2.1.length<=a\/x.2.2.1.length<=b
 .have HM:Hid (twoF x kd (a:Int) (b:Int)=none):=by show _=_;exact qmv hno
  by_cases h1:x.2.2.1.length<=a
  .have h1':decide (x.2.2.1.length<=a)=true:=zbh h1
   clear hno;clear hPO hPG hap HP0 BP BQ
   go_enter Tryz.func62,Tryz.ntmps62
   go_upto_region 1 with fail;rw[<-HW0.out]
   go_cut [46] (fun t wx=>t=.bool true/\Below D.heap.size D wx)
   case first=>
    refine zca (S:=fun w'=>w'.cell? ⟨w.heap.size,3,none⟩=some (.slice A2 x.2.2.1.length Y)/\w'.cell? ⟨w.heap.size+1,7,none⟩=some (.int .i64 (a:Int))/\w'.cell? ⟨w.heap.size+1,8,none⟩=some (.int .i64 (b:Int))) (by kernel_rfl) ⟨m,n,o⟩ (fun hHeld0=>?_);obtain⟨af,u⟩:∃x,Hid (x=World.drew D):=⟨_,rfl⟩;have h:Below D.heap.size D af:=by rw[u.out];exact(zac _ _).drew
    rw[<-u.out]at hHeld0⊢;have ywt1:=h.size;replace Tk:=q9 Tk h rfl;have z:=kk3 h m n o;clear m n o;obtain⟨m,n,o⟩:=z;refine tp 0 (.pointer (some ⟨w.heap.size+1,7,none⟩)) rfl ?_;refine tk 1 (.int .i64 (a:Int)) rfl (.inl ⟨by kernel_rfl,fun C d=>by(obtain⟨i,k,l⟩:=d);go_simp⟩) ?_;refine tp 2 (.pointer (some ⟨w.heap.size,3,none⟩)) rfl ?_;refine tk 3 (.slice A2 x.2.2.1.length Y) rfl (.inl ⟨by kernel_rfl,fun C d=>by(obtain⟨i,k,l⟩:=d);go_simp⟩) ?_;refine tp 4 (.int .i64 (x.2.2.1.length:Int)) rfl ?_;refine tp 5 (.bool true) rfl ?_;refine tp 6 (.bool true) rfl ?_;refine tu 7 rfl ?_;refine tu 8 rfl ?_;refine tu 9 rfl ?_;refine tu 10 rfl ?_;refine tu 11 rfl ?_;refine tu 12 rfl ?_;refine tp 13 (.bool true) rfl ?_;refine tp 14 (.bool true) rfl ?_;refine tu 15 rfl ?_;refine tu 16 rfl ?_;refine tu 17 rfl ?_;refine tu 18 rfl ?_;refine tu 19 rfl ?_;refine tp 20 (.bool true) rfl ?_;refine tp 21 (.bool true) rfl ?_;refine tu 22 rfl ?_;refine tu 23 rfl ?_;refine tu 24 rfl ?_;refine tu 25 rfl ?_;refine tu 26 rfl ?_;refine tu 27 rfl ?_;refine tu 28 rfl ?_;refine tu 29 rfl ?_;refine tu 30 rfl ?_;refine tu 31 rfl ?_;refine tu 32 rfl ?_;refine tu 33 rfl ?_;refine tu 34 rfl ?_;refine tu 35 rfl ?_;refine tu 36 rfl ?_;refine tp 37 (.bool true) rfl ?_
    (try simp only[Act.put,zA,zB,zC,zD,zE,zF])
    refine zcf (by kernel_rfl) ?_ _;go_wp2_with fail;go_meet;exact⟨rfl,Tk⟩
   case rest=>
    obtain⟨rfl,F⟩:=hcut;obtain⟨w1,V⟩:∃wq:World,wq=wc:=⟨_,rfl⟩;subst V;have HT1:=zaa (q9 HT0.out F rfl);have y:=BZ.next F;have aa:=zaa (q6u y (.int .i64 0) (.slice none 0 0) (.slice none 0 0) (.slice none 0 0));have X:=zaa (q4c HT1.out (g:=w.heap.size+1+1) (by omega) (.int .i64 0) (.slice none 0 0) (.slice none 0 0) (.slice none 0 0));have z:=kk4 F M N O R;clear M N O R;obtain⟨M,N,O,R⟩:=z;replace fZ0:=y.frozen 0;replace fZ1:=y.frozen 1;replace fZ2:=y.frozen 2;replace fZ3:=y.frozen 3;go_wp2_with fail
    (try simp only[Exit.inBlock,Exit.then])
    refine zat (v:=.tuple #[.agg #[.int .i64 0,.slice none 0 0,.slice none 0 0,.slice none 0 0],.bool false]) ?hr rfl ?_
    case hr=>exact qn rfl _ _ (w.heap.size+1+1) 57 #[.int .i64 0,.slice none 0 0,.slice none 0 0,.slice none 0 0] (0,0) _ _ rfl aa.out zcp rfl (by kernel_rfl) rfl
    exact⟨X.out,.inl ⟨HM.out,rfl⟩⟩
  .by_cases h2:x.2.2.1.length<=b
   .have h1':decide (x.2.2.1.length<=a)=false:=zbi h1
    have h2':decide (x.2.2.1.length<=b)=true:=zbh h2;clear hno;clear hPO hPG hap HP0 BP BQ
    go_enter Tryz.func62,Tryz.ntmps62
    go_upto_region 1 with fail;rw[<-HW0.out]
    go_cut [46] (fun t wx=>t=.bool true/\Below D.heap.size D wx)
    case first=>
     refine zca (S:=fun w'=>w'.cell? ⟨w.heap.size,3,none⟩=some (.slice A2 x.2.2.1.length Y)/\w'.cell? ⟨w.heap.size+1,7,none⟩=some (.int .i64 (a:Int))/\w'.cell? ⟨w.heap.size+1,8,none⟩=some (.int .i64 (b:Int))) (by kernel_rfl) ⟨m,n,o⟩ (fun hHeld0=>?_);obtain⟨af,u⟩:∃x,Hid (x=World.drew D):=⟨_,rfl⟩;have h:Below D.heap.size D af:=by rw[u.out];exact(zac _ _).drew
     rw[<-u.out]at hHeld0⊢;have ywt1:=h.size;replace Tk:=q9 Tk h rfl;have z:=kk3 h m n o;clear m n o;obtain⟨m,n,o⟩:=z;refine tp 0 (.pointer (some ⟨w.heap.size+1,7,none⟩)) rfl ?_;refine tk 1 (.int .i64 (a:Int)) rfl (.inl ⟨by kernel_rfl,fun C d=>by(obtain⟨i,k,l⟩:=d);go_simp⟩) ?_;refine tp 2 (.pointer (some ⟨w.heap.size,3,none⟩)) rfl ?_;refine tk 3 (.slice A2 x.2.2.1.length Y) rfl (.inl ⟨by kernel_rfl,fun C d=>by(obtain⟨i,k,l⟩:=d);go_simp⟩) ?_;refine tp 4 (.int .i64 (x.2.2.1.length:Int)) rfl ?_;refine tp 5 (.bool false) rfl ?_;refine tp 6 (.bool false) rfl ?_;refine tp 7 (.pointer (some ⟨w.heap.size+1,8,none⟩)) rfl ?_;refine tk 8 (.int .i64 (b:Int)) rfl (.inl ⟨by kernel_rfl,fun C d=>by(obtain⟨i,k,l⟩:=d);go_simp⟩) ?_;refine tp 9 (.pointer (some ⟨w.heap.size,3,none⟩)) rfl ?_;refine tk 10 (.slice A2 x.2.2.1.length Y) rfl (.inl ⟨by kernel_rfl,fun C d=>by(obtain⟨i,k,l⟩:=d);go_simp⟩) ?_;refine tp 11 (.int .i64 (x.2.2.1.length:Int)) rfl ?_;refine tp 12 (.bool true) rfl ?_;refine tp 13 (.bool true) rfl ?_;refine tp 14 (.bool true) rfl ?_;refine tu 15 rfl ?_;refine tu 16 rfl ?_;refine tu 17 rfl ?_;refine tu 18 rfl ?_;refine tu 19 rfl ?_;refine tp 20 (.bool true) rfl ?_;refine tp 21 (.bool true) rfl ?_;refine tu 22 rfl ?_;refine tu 23 rfl ?_;refine tu 24 rfl ?_;refine tu 25 rfl ?_;refine tu 26 rfl ?_;refine tu 27 rfl ?_;refine tu 28 rfl ?_;refine tu 29 rfl ?_;refine tu 30 rfl ?_;refine tu 31 rfl ?_;refine tu 32 rfl ?_;refine tu 33 rfl ?_;refine tu 34 rfl ?_;refine tu 35 rfl ?_;refine tu 36 rfl ?_;refine tp 37 (.bool true) rfl ?_
     (try simp only[Act.put,zA,zB,zC,zD,zE,zF])
     refine zcf (by kernel_rfl) ?_ _;go_wp2_with fail;go_meet;exact⟨rfl,Tk⟩
    case rest=>
     obtain⟨rfl,F⟩:=hcut;obtain⟨w1,V⟩:∃wq:World,wq=wc:=⟨_,rfl⟩;subst V;have HT1:=zaa (q9 HT0.out F rfl);have y:=BZ.next F;have aa:=zaa (q6u y (.int .i64 0) (.slice none 0 0) (.slice none 0 0) (.slice none 0 0));have X:=zaa (q4c HT1.out (g:=w.heap.size+1+1) (by omega) (.int .i64 0) (.slice none 0 0) (.slice none 0 0) (.slice none 0 0));have z:=kk4 F M N O R;clear M N O R;obtain⟨M,N,O,R⟩:=z;replace fZ0:=y.frozen 0;replace fZ1:=y.frozen 1;replace fZ2:=y.frozen 2;replace fZ3:=y.frozen 3;go_wp2_with fail
     (try simp only[Exit.inBlock,Exit.then])
     refine zat (v:=.tuple #[.agg #[.int .i64 0,.slice none 0 0,.slice none 0 0,.slice none 0 0],.bool false]) ?hr rfl ?_
     case hr=>exact qn rfl _ _ (w.heap.size+1+1) 57 #[.int .i64 0,.slice none 0 0,.slice none 0 0,.slice none 0 0] (0,0) _ _ rfl aa.out zcp rfl (by kernel_rfl) rfl
     exact⟨X.out,.inl ⟨HM.out,rfl⟩⟩
   .have h3:a=b:=by omega
    subst h3;have h1':decide (x.2.2.1.length<=a)=false:=zbi h1;clear hno;clear hPO hPG hap HP0 BP BQ
    go_enter Tryz.func62,Tryz.ntmps62
    go_upto_region 1 with fail;rw[<-HW0.out]
    go_cut [46] (fun t wx=>t=.bool true/\Below D.heap.size D wx)
    case first=>
     refine zca (S:=fun w'=>w'.cell? ⟨w.heap.size,3,none⟩=some (.slice A2 x.2.2.1.length Y)/\w'.cell? ⟨w.heap.size+1,7,none⟩=some (.int .i64 (a:Int))/\w'.cell? ⟨w.heap.size+1,8,none⟩=some (.int .i64 (a:Int))) (by kernel_rfl) ⟨m,n,o⟩ (fun hHeld0=>?_);obtain⟨af,u⟩:∃x,Hid (x=World.drew D):=⟨_,rfl⟩;have h:Below D.heap.size D af:=by rw[u.out];exact(zac _ _).drew
     rw[<-u.out]at hHeld0⊢;have ywt1:=h.size;replace Tk:=q9 Tk h rfl;have z:=kk3 h m n o;clear m n o;obtain⟨m,n,o⟩:=z;refine tp 0 (.pointer (some ⟨w.heap.size+1,7,none⟩)) rfl ?_;refine tk 1 (.int .i64 (a:Int)) rfl (.inl ⟨by kernel_rfl,fun C d=>by(obtain⟨i,k,l⟩:=d);go_simp⟩) ?_;refine tp 2 (.pointer (some ⟨w.heap.size,3,none⟩)) rfl ?_;refine tk 3 (.slice A2 x.2.2.1.length Y) rfl (.inl ⟨by kernel_rfl,fun C d=>by(obtain⟨i,k,l⟩:=d);go_simp⟩) ?_;refine tp 4 (.int .i64 (x.2.2.1.length:Int)) rfl ?_;refine tp 5 (.bool false) rfl ?_;refine tp 6 (.bool false) rfl ?_;refine tp 7 (.pointer (some ⟨w.heap.size+1,8,none⟩)) rfl ?_;refine tk 8 (.int .i64 (a:Int)) rfl (.inl ⟨by kernel_rfl,fun C d=>by(obtain⟨i,k,l⟩:=d);go_simp⟩) ?_;refine tp 9 (.pointer (some ⟨w.heap.size,3,none⟩)) rfl ?_;refine tk 10 (.slice A2 x.2.2.1.length Y) rfl (.inl ⟨by kernel_rfl,fun C d=>by(obtain⟨i,k,l⟩:=d);go_simp⟩) ?_;refine tp 11 (.int .i64 (x.2.2.1.length:Int)) rfl ?_;refine tp 12 (.bool false) rfl ?_;refine tp 13 (.bool false) rfl ?_;refine tp 14 (.bool false) rfl ?_;refine tp 15 (.pointer (some ⟨w.heap.size+1,7,none⟩)) rfl ?_;refine tk 16 (.int .i64 (a:Int)) rfl (.inl ⟨by kernel_rfl,fun C d=>by(obtain⟨i,k,l⟩:=d);go_simp⟩) ?_;refine tp 17 (.pointer (some ⟨w.heap.size+1,8,none⟩)) rfl ?_;refine tk 18 (.int .i64 (a:Int)) rfl (.inl ⟨by kernel_rfl,fun C d=>by(obtain⟨i,k,l⟩:=d);go_simp⟩) ?_;refine tp 19 (.bool true) rfl ?_;refine tp 20 (.bool true) rfl ?_;refine tp 21 (.bool true) rfl ?_;refine tu 22 rfl ?_;refine tu 23 rfl ?_;refine tu 24 rfl ?_;refine tu 25 rfl ?_;refine tu 26 rfl ?_;refine tu 27 rfl ?_;refine tu 28 rfl ?_;refine tu 29 rfl ?_;refine tu 30 rfl ?_;refine tu 31 rfl ?_;refine tu 32 rfl ?_;refine tu 33 rfl ?_;refine tu 34 rfl ?_;refine tu 35 rfl ?_;refine tu 36 rfl ?_;refine tp 37 (.bool true) rfl ?_
     (try simp only[Act.put,zA,zB,zC,zD,zE,zF])
     refine zcf (by kernel_rfl) ?_ _;go_wp2_with fail;go_meet;exact⟨rfl,Tk⟩
    case rest=>
     obtain⟨rfl,F⟩:=hcut;obtain⟨w1,V⟩:∃wq:World,wq=wc:=⟨_,rfl⟩;subst V;have HT1:=zaa (q9 HT0.out F rfl);have y:=BZ.next F;have aa:=zaa (q6u y (.int .i64 0) (.slice none 0 0) (.slice none 0 0) (.slice none 0 0));have X:=zaa (q4c HT1.out (g:=w.heap.size+1+1) (by omega) (.int .i64 0) (.slice none 0 0) (.slice none 0 0) (.slice none 0 0));have z:=kk4 F M N O R;clear M N O R;obtain⟨M,N,O,R⟩:=z;replace fZ0:=y.frozen 0;replace fZ1:=y.frozen 1;replace fZ2:=y.frozen 2;replace fZ3:=y.frozen 3;go_wp2_with fail
     (try simp only[Exit.inBlock,Exit.then])
     refine zat (v:=.tuple #[.agg #[.int .i64 0,.slice none 0 0,.slice none 0 0,.slice none 0 0],.bool false]) ?hr rfl ?_
     case hr=>exact qn rfl _ _ (w.heap.size+1+1) 57 #[.int .i64 0,.slice none 0 0,.slice none 0 0,.slice none 0 0] (0,0) _ _ rfl aa.out zcp rfl (by kernel_rfl) rfl
     exact⟨X.out,.inl ⟨HM.out,rfl⟩⟩
 .have hab:a≠b:=fun e=>hno (.inl e)
  have hal:a<x.2.2.1.length:=by omega
  have hbl:b<x.2.2.1.length:=by omega
  have h2:¬x.2.2.1.length<=a:=by omega
  have h3:¬x.2.2.1.length<=b:=by omega
  have h4:¬(a:Int)=(b:Int):=by omega
  have h5:((a:Int)==(b:Int))=false:=by simp;omega
  have ha0:(0:Int)<=(a:Int):=by omega
  have hb0:(0:Int)<=(b:Int):=by omega
  have ha1:(a:Int)<(x.2.2.1.length:Int):=by omega
  have F:(b:Int)<(x.2.2.1.length:Int):=by omega
  obtain⟨A',c',e',hrd⟩:=(hPG.next T0).rd;injection e' with e1 e2 e3
  subst e1;obtain⟨H,J,vs,⟨I,⟨Lf,Rf⟩,Vf⟩,hAe,-,hc,hrf,-,hfx⟩:=hrd.at hal;obtain⟨bb2,oo2,vs2,⟨kh,⟨Lh,Rh⟩,Vh⟩,hAe2,-,hc2,hrh,-,hhx⟩:=hrd.at hbl;rw[hAe]at hAe2;injection hAe2 with hAe2
  injection hAe2 with q1 q2
  subst q1;subst q2;subst hAe;obtain⟨fL,nfL,cfL,fR,nfR,cfR,fV,nfV,cfV,rfl,fk,pfL,pfR,pfV⟩:=q21 hrf;obtain⟨hL,nhL,chL,hR,nhR,chR,hV,W,chV,rfl,hhk,phL,phR,phV⟩:=q21 hrh;have T:D.cell? ⟨H,J+a*4,none⟩=some (.int .i64 I):=hc 0 _ rfl;have ab:D.cell? ⟨H,J+a*4+3,none⟩=some (.slice fV nfV cfV):=hc 3 _ rfl;have U:D.cell? ⟨H,J+b*4,none⟩=some (.int .i64 kh):=hc2 0 _ rfl;have ac:D.cell? ⟨H,J+b*4+3,none⟩=some (.slice hV W chV):=hc2 3 _ rfl;have ag:Hid (q1c x.2.1 (I,(Lf,Rf),Vf)=true/\q1c x.2.1 (kh,(Lh,Rh),Vh)=true):=⟨htr _ (zaf hfx),htr _ (zaf hhx)⟩;have HTW:Hid (twoF x kd (a:Int) (b:Int)=if I=kh/\(I=3\/I=4)then some (I,([], []),twoL x.2.1 j (I,(Lf,Rf),Vf) (kh,(Lh,Rh),Vh))else none):=zaa (qmu hkd hab hfx hhx);have pfV':RdL RI D fV nfV Vf:=pfV;have phV':RdL RI D hV W Vh:=phV;have HQF:=zaa pfV';have HQH:=zaa phV';have HFK:Hid (InR I/\InR kh):=⟨fk,hhk⟩;have HAX:=zaa hx
  by_cases hkk:I=kh
  rotate_left
  .have HM:Hid (twoF x kd (a:Int) (b:Int)=none):=by show _=_;rw[HTW.out,zaj fun hc=>hkk hc.1]
   have hkn:(I !=kh)=true:=by simp[hkk]
   clear hno hrd hc hc2 hrf hrh hfx hhx pfL pfR pfV phL phR phV pfV' phV' htr fk hhk e2 e3;clear hPO hPG hap HP0 BP BQ
   go_enter Tryz.func62,Tryz.ntmps62
   go_upto_region 1 with fail;rw[<-HW0.out]
   go_cut [46] (fun t wx=>t=.bool true/\Below D.heap.size D wx)
   case first=>
    refine zca (S:=fun w'=>w'.cell? ⟨w.heap.size,3,none⟩=some (.slice (some ⟨H,J,none⟩) x.2.2.1.length Y)/\w'.cell? ⟨w.heap.size+1,7,none⟩=some (.int .i64 (a:Int))/\w'.cell? ⟨w.heap.size+1,8,none⟩=some (.int .i64 (b:Int))/\w'.cell? ⟨H,J+a*4,none⟩=some (.int .i64 I)/\w'.cell? ⟨H,J+b*4,none⟩=some (.int .i64 kh)) (by kernel_rfl) ⟨m,n,o,T,U⟩ (fun hHeld0=>?_);obtain⟨af,u⟩:∃x,Hid (x=World.drew D):=⟨_,rfl⟩;have h:Below D.heap.size D af:=by rw[u.out];exact(zac _ _).drew
    rw[<-u.out]at hHeld0⊢;have ywt1:=h.size;replace Tk:=q9 Tk h rfl;have z:=kk5 h m n o T U;clear m n o T U;obtain⟨m,n,o,T,U⟩:=z;refine tp 0 (.pointer (some ⟨w.heap.size+1,7,none⟩)) rfl ?_;refine tk 1 (.int .i64 (a:Int)) rfl (.inl ⟨by kernel_rfl,fun C d=>by(obtain⟨i,k,l,q,r⟩:=d);go_simp⟩) ?_;refine tp 2 (.pointer (some ⟨w.heap.size,3,none⟩)) rfl ?_;refine tk 3 (.slice (some ⟨H,J,none⟩) x.2.2.1.length Y) rfl (.inl ⟨by kernel_rfl,fun C d=>by(obtain⟨i,k,l,q,r⟩:=d);go_simp⟩) ?_;refine tp 4 (.int .i64 (x.2.2.1.length:Int)) rfl ?_;refine tp 5 (.bool false) rfl ?_;refine tp 6 (.bool false) rfl ?_;refine tp 7 (.pointer (some ⟨w.heap.size+1,8,none⟩)) rfl ?_;refine tk 8 (.int .i64 (b:Int)) rfl (.inl ⟨by kernel_rfl,fun C d=>by(obtain⟨i,k,l,q,r⟩:=d);go_simp⟩) ?_;refine tp 9 (.pointer (some ⟨w.heap.size,3,none⟩)) rfl ?_;refine tk 10 (.slice (some ⟨H,J,none⟩) x.2.2.1.length Y) rfl (.inl ⟨by kernel_rfl,fun C d=>by(obtain⟨i,k,l,q,r⟩:=d);go_simp⟩) ?_;refine tp 11 (.int .i64 (x.2.2.1.length:Int)) rfl ?_;refine tp 12 (.bool false) rfl ?_;refine tp 13 (.bool false) rfl ?_;refine tp 14 (.bool false) rfl ?_;refine tp 15 (.pointer (some ⟨w.heap.size+1,7,none⟩)) rfl ?_;refine tk 16 (.int .i64 (a:Int)) rfl (.inl ⟨by kernel_rfl,fun C d=>by(obtain⟨i,k,l,q,r⟩:=d);go_simp⟩) ?_;refine tp 17 (.pointer (some ⟨w.heap.size+1,8,none⟩)) rfl ?_;refine tk 18 (.int .i64 (b:Int)) rfl (.inl ⟨by kernel_rfl,fun C d=>by(obtain⟨i,k,l,q,r⟩:=d);go_simp⟩) ?_;refine tp 19 (.bool false) rfl ?_;refine tp 20 (.bool false) rfl ?_;refine tp 21 (.bool false) rfl ?_;refine tp 22 (.pointer (some ⟨w.heap.size,3,none⟩)) rfl ?_;refine tk 23 (.slice (some ⟨H,J,none⟩) x.2.2.1.length Y) rfl (.inl ⟨by kernel_rfl,fun C d=>by(obtain⟨i,k,l,q,r⟩:=d);go_simp⟩) ?_;refine tp 24 (.pointer (some ⟨w.heap.size+1,7,none⟩)) rfl ?_;refine tk 25 (.int .i64 (a:Int)) rfl (.inl ⟨by kernel_rfl,fun C d=>by(obtain⟨i,k,l,q,r⟩:=d);go_simp⟩) ?_;refine tp 26 (.pointer (some ⟨H,J+a*4,none⟩)) rfl ?_;refine tp 27 (.pointer (some ⟨H,J+a*4,none⟩)) rfl ?_;refine tk 28 (.int .i64 I) rfl (.inl ⟨by kernel_rfl,fun C d=>by(obtain⟨i,k,l,q,r⟩:=d);go_simp⟩) ?_;refine tp 29 (.pointer (some ⟨w.heap.size,3,none⟩)) rfl ?_;refine tk 30 (.slice (some ⟨H,J,none⟩) x.2.2.1.length Y) rfl (.inl ⟨by kernel_rfl,fun C d=>by(obtain⟨i,k,l,q,r⟩:=d);go_simp⟩) ?_;refine tp 31 (.pointer (some ⟨w.heap.size+1,8,none⟩)) rfl ?_;refine tk 32 (.int .i64 (b:Int)) rfl (.inl ⟨by kernel_rfl,fun C d=>by(obtain⟨i,k,l,q,r⟩:=d);go_simp⟩) ?_;refine tp 33 (.pointer (some ⟨H,J+b*4,none⟩)) rfl ?_;refine tp 34 (.pointer (some ⟨H,J+b*4,none⟩)) rfl ?_;refine tk 35 (.int .i64 kh) rfl (.inl ⟨by kernel_rfl,fun C d=>by(obtain⟨i,k,l,q,r⟩:=d);go_simp⟩) ?_;refine tp 36 (.bool true) rfl ?_;refine tp 37 (.bool true) rfl ?_
    (try simp only[Act.put,zA,zB,zC,zD,zE,zF])
    refine zcf (by kernel_rfl) ?_ _;go_wp2_with fail;go_meet;exact⟨rfl,Tk⟩
   case rest=>
    obtain⟨rfl,F⟩:=hcut;obtain⟨w1,V⟩:∃wq:World,wq=wc:=⟨_,rfl⟩;subst V;have HT1:=zaa (q9 HT0.out F rfl);have y:=BZ.next F;have aa:=zaa (q6u y (.int .i64 0) (.slice none 0 0) (.slice none 0 0) (.slice none 0 0));have X:=zaa (q4c HT1.out (g:=w.heap.size+1+1) (by omega) (.int .i64 0) (.slice none 0 0) (.slice none 0 0) (.slice none 0 0));have z:=kk4 F M N O R;clear M N O R;obtain⟨M,N,O,R⟩:=z;replace fZ0:=y.frozen 0;replace fZ1:=y.frozen 1;replace fZ2:=y.frozen 2;replace fZ3:=y.frozen 3;go_wp2_with fail
    (try simp only[Exit.inBlock,Exit.then])
    refine zat (v:=.tuple #[.agg #[.int .i64 0,.slice none 0 0,.slice none 0 0,.slice none 0 0],.bool false]) ?hr rfl ?_
    case hr=>exact qn rfl _ _ (w.heap.size+1+1) 57 #[.int .i64 0,.slice none 0 0,.slice none 0 0,.slice none 0 0] (0,0) _ _ rfl aa.out zcp rfl (by kernel_rfl) rfl
    exact⟨X.out,.inl ⟨HM.out,rfl⟩⟩
  .subst hkk
   have hkn:(I !=I)=false:=by simp
   have hb00:=hrd;clear hno hrd hc hc2 hrf hrh hfx hhx pfL pfR pfV phL phR phV pfV' phV' htr fk hhk e2 e3 hb00 hPO hPG hap
   go_enter Tryz.func62,Tryz.ntmps62
   go_upto_region 1 with fail;rw[<-HW0.out]
   go_cut [46] (fun t wx=>t=.bool false/\Below D.heap.size D wx)
   case first=>
    refine zca (S:=fun w'=>w'.cell? ⟨w.heap.size,3,none⟩=some (.slice (some ⟨H,J,none⟩) x.2.2.1.length Y)/\w'.cell? ⟨w.heap.size+1,7,none⟩=some (.int .i64 (a:Int))/\w'.cell? ⟨w.heap.size+1,8,none⟩=some (.int .i64 (b:Int))/\w'.cell? ⟨H,J+a*4,none⟩=some (.int .i64 I)/\w'.cell? ⟨H,J+b*4,none⟩=some (.int .i64 I)) (by kernel_rfl) ⟨m,n,o,T,U⟩ (fun hHeld0=>?_);obtain⟨af,u⟩:∃x,Hid (x=World.drew D):=⟨_,rfl⟩;have h:Below D.heap.size D af:=by rw[u.out];exact(zac _ _).drew
    rw[<-u.out]at hHeld0⊢;have ywt1:=h.size;replace Tk:=q9 Tk h rfl;have z:=kk5 h m n o T U;clear m n o T U;obtain⟨m,n,o,T,U⟩:=z;refine tp 0 (.pointer (some ⟨w.heap.size+1,7,none⟩)) rfl ?_;refine tk 1 (.int .i64 (a:Int)) rfl (.inl ⟨by kernel_rfl,fun C d=>by(obtain⟨i,k,l,q,r⟩:=d);go_simp⟩) ?_;refine tp 2 (.pointer (some ⟨w.heap.size,3,none⟩)) rfl ?_;refine tk 3 (.slice (some ⟨H,J,none⟩) x.2.2.1.length Y) rfl (.inl ⟨by kernel_rfl,fun C d=>by(obtain⟨i,k,l,q,r⟩:=d);go_simp⟩) ?_;refine tp 4 (.int .i64 (x.2.2.1.length:Int)) rfl ?_;refine tp 5 (.bool false) rfl ?_;refine tp 6 (.bool false) rfl ?_;refine tp 7 (.pointer (some ⟨w.heap.size+1,8,none⟩)) rfl ?_;refine tk 8 (.int .i64 (b:Int)) rfl (.inl ⟨by kernel_rfl,fun C d=>by(obtain⟨i,k,l,q,r⟩:=d);go_simp⟩) ?_;refine tp 9 (.pointer (some ⟨w.heap.size,3,none⟩)) rfl ?_;refine tk 10 (.slice (some ⟨H,J,none⟩) x.2.2.1.length Y) rfl (.inl ⟨by kernel_rfl,fun C d=>by(obtain⟨i,k,l,q,r⟩:=d);go_simp⟩) ?_;refine tp 11 (.int .i64 (x.2.2.1.length:Int)) rfl ?_;refine tp 12 (.bool false) rfl ?_;refine tp 13 (.bool false) rfl ?_;refine tp 14 (.bool false) rfl ?_;refine tp 15 (.pointer (some ⟨w.heap.size+1,7,none⟩)) rfl ?_;refine tk 16 (.int .i64 (a:Int)) rfl (.inl ⟨by kernel_rfl,fun C d=>by(obtain⟨i,k,l,q,r⟩:=d);go_simp⟩) ?_;refine tp 17 (.pointer (some ⟨w.heap.size+1,8,none⟩)) rfl ?_;refine tk 18 (.int .i64 (b:Int)) rfl (.inl ⟨by kernel_rfl,fun C d=>by(obtain⟨i,k,l,q,r⟩:=d);go_simp⟩) ?_;refine tp 19 (.bool false) rfl ?_;refine tp 20 (.bool false) rfl ?_;refine tp 21 (.bool false) rfl ?_;refine tp 22 (.pointer (some ⟨w.heap.size,3,none⟩)) rfl ?_;refine tk 23 (.slice (some ⟨H,J,none⟩) x.2.2.1.length Y) rfl (.inl ⟨by kernel_rfl,fun C d=>by(obtain⟨i,k,l,q,r⟩:=d);go_simp⟩) ?_;refine tp 24 (.pointer (some ⟨w.heap.size+1,7,none⟩)) rfl ?_;refine tk 25 (.int .i64 (a:Int)) rfl (.inl ⟨by kernel_rfl,fun C d=>by(obtain⟨i,k,l,q,r⟩:=d);go_simp⟩) ?_;refine tp 26 (.pointer (some ⟨H,J+a*4,none⟩)) rfl ?_;refine tp 27 (.pointer (some ⟨H,J+a*4,none⟩)) rfl ?_;refine tk 28 (.int .i64 I) rfl (.inl ⟨by kernel_rfl,fun C d=>by(obtain⟨i,k,l,q,r⟩:=d);go_simp⟩) ?_;refine tp 29 (.pointer (some ⟨w.heap.size,3,none⟩)) rfl ?_;refine tk 30 (.slice (some ⟨H,J,none⟩) x.2.2.1.length Y) rfl (.inl ⟨by kernel_rfl,fun C d=>by(obtain⟨i,k,l,q,r⟩:=d);go_simp⟩) ?_;refine tp 31 (.pointer (some ⟨w.heap.size+1,8,none⟩)) rfl ?_;refine tk 32 (.int .i64 (b:Int)) rfl (.inl ⟨by kernel_rfl,fun C d=>by(obtain⟨i,k,l,q,r⟩:=d);go_simp⟩) ?_;refine tp 33 (.pointer (some ⟨H,J+b*4,none⟩)) rfl ?_;refine tp 34 (.pointer (some ⟨H,J+b*4,none⟩)) rfl ?_;refine tk 35 (.int .i64 I) rfl (.inl ⟨by kernel_rfl,fun C d=>by(obtain⟨i,k,l,q,r⟩:=d);go_simp⟩) ?_;refine tp 36 (.bool false) rfl ?_;refine tp 37 (.bool false) rfl ?_
    (try simp only[Act.put,zA,zB,zC,zD,zE,zF])
    refine zcf (by kernel_rfl) ?_ _;go_wp2_with fail;go_meet;exact⟨rfl,Tk⟩
   case rest=>
    obtain⟨rfl,F⟩:=hcut;obtain⟨w1,V⟩:∃wq:World,wq=wc:=⟨_,rfl⟩;subst V;have z:=kk10 F cP1 cP2 m cQ0 n o T ab U ac;clear cP1 cP2 m cQ0 n o T ab U ac;obtain⟨cP1,cP2,m,cQ0,n,o,T,ab,U,ac⟩:=z;replace Tk:Below w1.heap.size w1 w1:=zac _ _;go_upto_region 3 with fail
    go_cut [6,7] (fun u6 u7 wx=>u6=.slice fV nfV cfV/\u7=.slice hV W chV/\Below w1.heap.size w1 wx)
    case first=>
     refine zca (S:=fun w'=>w'.cell? ⟨w.heap.size,3,none⟩=some (.slice (some ⟨H,J,none⟩) x.2.2.1.length Y)/\w'.cell? ⟨w.heap.size+1,7,none⟩=some (.int .i64 (a:Int))/\w'.cell? ⟨w.heap.size+1,8,none⟩=some (.int .i64 (b:Int))/\w'.cell? ⟨H,J+a*4+3,none⟩=some (.slice fV nfV cfV)/\w'.cell? ⟨H,J+b*4+3,none⟩=some (.slice hV W chV)) (by kernel_rfl) ⟨m,n,o,ab,ac⟩ (fun hHeld0=>?_);obtain⟨af,u⟩:∃x,Hid (x=World.drew w1):=⟨_,rfl⟩;have h:Below w1.heap.size w1 af:=by rw[u.out];exact(zac _ _).drew
     rw[<-u.out]at hHeld0⊢;have ywt1:=h.size;replace Tk:=q9 Tk h rfl;have z:=kk5 h m n o ab ac;clear m n o ab ac;obtain⟨m,n,o,ab,ac⟩:=z;refine tp 0 (.pointer (some ⟨w.heap.size,3,none⟩)) rfl ?_;refine tk 1 (.slice (some ⟨H,J,none⟩) x.2.2.1.length Y) rfl (.inl ⟨by kernel_rfl,fun C d=>by(obtain⟨i,k,l,q,r⟩:=d);go_simp⟩) ?_;refine tp 2 (.pointer (some ⟨w.heap.size+1,7,none⟩)) rfl ?_;refine tk 3 (.int .i64 (a:Int)) rfl (.inl ⟨by kernel_rfl,fun C d=>by(obtain⟨i,k,l,q,r⟩:=d);go_simp⟩) ?_;refine tp 4 (.pointer (some ⟨H,J+a*4,none⟩)) rfl ?_;refine tp 5 (.pointer (some ⟨H,J+a*4+3,none⟩)) rfl ?_;refine tk 6 (.slice fV nfV cfV) rfl (.inl ⟨by kernel_rfl,fun C d=>by(obtain⟨i,k,l,q,r⟩:=d);go_simp⟩) ?_;refine tp 7 (.pointer (some ⟨w.heap.size,3,none⟩)) rfl ?_;refine tk 8 (.slice (some ⟨H,J,none⟩) x.2.2.1.length Y) rfl (.inl ⟨by kernel_rfl,fun C d=>by(obtain⟨i,k,l,q,r⟩:=d);go_simp⟩) ?_;refine tp 9 (.pointer (some ⟨w.heap.size+1,8,none⟩)) rfl ?_;refine tk 10 (.int .i64 (b:Int)) rfl (.inl ⟨by kernel_rfl,fun C d=>by(obtain⟨i,k,l,q,r⟩:=d);go_simp⟩) ?_;refine tp 11 (.pointer (some ⟨H,J+b*4,none⟩)) rfl ?_;refine tp 12 (.pointer (some ⟨H,J+b*4+3,none⟩)) rfl ?_;refine tk 13 (.slice hV W chV) rfl (.inl ⟨by kernel_rfl,fun C d=>by(obtain⟨i,k,l,q,r⟩:=d);go_simp⟩) ?_;refine tp 14 (.slice fV nfV cfV) rfl ?_;refine tp 15 (.slice hV W chV) rfl ?_
     (try simp only[Act.put,zA,zB,zC,zD,zE,zF])
     refine zcf (by kernel_rfl) ?_ _;go_wp2_with fail;go_meet;exact⟨rfl,rfl,Tk⟩
    case rest=>
     obtain⟨rfl,rfl,hb2⟩:=hcut;obtain⟨w2,V⟩:∃wq:World,wq=wc:=⟨_,rfl⟩;subst V;have z:=kk10 hb2 cP1 cP2 m cQ0 n o T ab U ac;clear cP1 cP2 m cQ0 n o T ab U ac;obtain⟨cP1,cP2,m,cQ0,n,o,T,ab,U,ac⟩:=z;have hb12:=q9 F hb2 rfl;obtain⟨w3,HW3⟩:∃wb,Hid (wb=w2.alloc (.cells #[.int .i64 I,.slice none 0 0,.slice none 0 0,.slice none 0 0] 57)):=⟨_,zaa rfl⟩;have hb3:Below w2.heap.size w2 w3:=by rw[HW3.out];exact qm _ _
     have BX3:Blk w3 w2.heap.size 57 #[.int .i64 I,.slice none 0 0,.slice none 0 0,.slice none 0 0]:=by rw[HW3.out];exact Blk.new _ _ _
     have G:=q9 hb12 hb3 rfl;have BZ3:=BZ.next G;have hz2:D.heap.size<=w2.heap.size:=hb12.size;have hz3:w2.heap.size<w3.heap.size:=BX3.lt;have cX3:=BX3.cell 3;have fX3:=BX3.frozen 3;have cX0:=BX3.cell 0;simp at cX0 cX3;have xP1:=qe hb3 cP1;have xP2:=qe hb3 cP2;have xQ0:=qe hb3 cQ0;have HZ3:=zaa BZ3;have HT3:=zaa (q9 HT0.out G rfl);clear M N O R fZ0 fZ1 fZ2 fZ3
     go_upto_block 0 with fail
     rw[<-HW3.out];clear cP1 cP2 m n o ab ac cQ0 T U Tk
     by_cases h34:I=3\/I=4
     rotate_left
     .have HM:Hid (twoF x kd (a:Int) (b:Int)=none):=by show _=_;rw[HTW.out,zaj fun hc=>h34 hc.2]
      have q3:(I==3)=false:=by simp;exact fun e=>h34 (.inl e)
      have q4:(I==4)=false:=by simp;exact fun e=>h34 (.inr e)
      have aa:=zaa (q6u BZ3 (.int .i64 0) (.slice none 0 0) (.slice none 0 0) (.slice none 0 0));have X:=zaa (q4c HT3.out (g:=w.heap.size+1+1) (by omega) (.int .i64 0) (.slice none 0 0) (.slice none 0 0) (.slice none 0 0));obtain⟨M,N,O,R,fZ0,fZ1,fZ2,fZ3⟩:=cf4 BZ3;clear h34 BX3 BZ3;go_wp2_with fail
      (try simp only[Exit.inBlock,Exit.then])
      refine zat (v:=.tuple #[.agg #[.int .i64 0,.slice none 0 0,.slice none 0 0,.slice none 0 0],.bool false]) ?hr rfl ?_
      case hr=>exact qn rfl _ _ (w.heap.size+1+1) 57 #[.int .i64 0,.slice none 0 0,.slice none 0 0,.slice none 0 0] (0,0) _ _ rfl aa.out zcp rfl (by kernel_rfl) rfl
      exact⟨X.out,.inl ⟨HM.out,rfl⟩⟩
     .obtain⟨L,HL⟩:∃L,Hid (twoL x.2.1 j (I,(Lf,Rf),Vf) (I,(Lh,Rh),Vh)=L):=⟨_,zaa rfl⟩
      have HLB:Hid (∀v∈L,InR v):=by show ∀v∈L,_;rw[<-HL.out];exact qpw HAX.out ag.out.1 ag.out.2 rfl h34
      have HM:Hid (twoF x kd (a:Int) (b:Int)=some (I,([], []),L)):=by show _=_;rw[HTW.out,zam ⟨rfl,h34⟩,HL.out]
      have HB13:=zaa G
      go_cut []from 71 to 122 (fun wx=>∃A c,Blk wx w2.heap.size 57 #[.int .i64 I,.slice none 0 0,.slice none 0 0,.slice A L.length c]/\wx.ownsRow D.heap.size 3 1 (.slice A L.length c) L.length (ints L)/\Below D.heap.size D wx)
      case first=>
       have hti:=q4p ag.out.1;have hti2:=q4p ag.out.2;have hx1:=HAX.out.1;have hx8:=HAX.out.2.1;have hnf:Vf.length=nfV:=HQF.out.len;have hnh:Vh.length=W:=HQH.out.len;have hlf:Vf.length<=1000:=q77 HAX.out ag.out.1;have hlh:Vh.length<=1000:=q77 HAX.out ag.out.2;have HAL:Hid (qf.rd w3 [.int .i64 x.2.1.1,.slice A1 x.2.1.2.length c1] x.2.1):=qf.ord ((HP0.out.next G).algO hin)
       rcases h34 with rfl|rfl
       .have sF:subB x.2.1.1.toNat x.2.1.2 Vf=true:=q9s ag.out.1 rfl
        have sH:subB x.2.1.1.toNat x.2.1.2 Vh=true:=q9s ag.out.2 rfl;have bF:∀v∈Vf,0<=v/\v<=x.2.1.1 - 1:=fun v hv=>by have:=hti.1 v hv;omega
        have bH:∀v∈Vh,0<=v/\v<=x.2.1.1 - 1:=fun v hv=>by have:=hti2.1 v hv;omega
        cases j with
        | true =>
          obtain rfl := hkd.1 rfl;have hLe : genL x.2.1.1.toNat x.2.1.2 (Vf ++ Vh) = L := HL.out;subst hLe;have HC := zaa (qe7 _ x.2.1 fV hV nfV cfV W chV Vf Vh w3 HAL.out HAX.out (HQF.out.next qd G) (HQH.out.next qd G) sF sH (by omega) (by omega) bF bH);clear hti hti2 sF sH bF bH hkd;go_wp2_with fail;refine HC.out.mono ?_;rintro e w7 ⟨A7, c7, rfl, ho7, ae⟩;have ad := q9 HB13.out ae rfl;have E := BX3.next ae;have r3 := E.cell 3;have s3 := E.frozen 3;simp at r3;go_wp2_with fail;go_meet;have Z := E.set_ 3 (.slice A7 (genL x.2.1.1.toNat x.2.1.2 (Vf ++ Vh)).length c7);simp at Z;exact ⟨A7, c7, Z, q23 (ql ho7 (by omega)) E (by decide) _ _, ad.setCell (p := ⟨w2.heap.size, 3, none⟩) (by exact hz2) _⟩
        | false =>
          obtain rfl := hkd.2 rfl;have hLe : q2d Vh Vf = L := HL.out;subst hLe;have HC := zaa (qem _ x.2.1 fV hV nfV cfV W chV Vf Vh w3 HAL.out HAX.out (HQF.out.next qd G) (HQH.out.next qd G) sF sH (by omega));clear hti hti2 sF sH bF bH hkd;go_wp2_with fail;refine HC.out.mono ?_;rintro e w7 ⟨A7, c7, rfl, ho7, ae⟩;have ad := q9 HB13.out ae rfl;have E := BX3.next ae;have r3 := E.cell 3;have s3 := E.frozen 3;simp at r3;go_wp2_with fail;go_meet;have Z := E.set_ 3 (.slice A7 (q2d Vh Vf).length c7);simp at Z;exact ⟨A7, c7, Z, q23 (ql ho7 (by omega)) E (by decide) _ _, ad.setCell (p := ⟨w2.heap.size, 3, none⟩) (by exact hz2) _⟩
       .have P:ParP x.2.1.1.toNat Vf:=q4x ag.out.1 rfl
        have Q:ParP x.2.1.1.toNat Vh:=q4x ag.out.2 rfl;have hf2:=P.1;have hh2:=Q.1;have hnn:W=nfV:=by omega
        subst hnn;have hnx:x.2.1.1.toNat=W:=by omega
        rw[hnx]at P Q;cases j with
        | true =>
          obtain rfl := hkd.1 rfl;have hLe : q69 Vf Vh = L := HL.out;subst hLe;have HC := zaa (qjg fV hV W cfV chV Vf Vh w3 (HQF.out.next qd G) (HQH.out.next qd G) P Q (by omega) (by omega));clear hti hti2 hkd;go_wp2_with fail;refine HC.out.mono ?_;rintro e w7 ⟨A7, c7, rfl, ho7, ae⟩;have ad := q9 HB13.out ae rfl;have E := BX3.next ae;have r3 := E.cell 3;have s3 := E.frozen 3;simp at r3;go_wp2_with fail;go_meet;have Z := E.set_ 3 (.slice A7 (q69 Vf Vh).length c7);simp at Z;exact ⟨A7, c7, Z, q23 (ql ho7 (by omega)) E (by decide) _ _, ad.setCell (p := ⟨w2.heap.size, 3, none⟩) (by exact hz2) _⟩
        | false =>
          obtain rfl := hkd.2 rfl;have hLe : q4k Vf Vh = L := HL.out;subst hLe;have HC := zaa (qjh fV hV W cfV chV Vf Vh w3 (HQF.out.next qd G) (HQH.out.next qd G) P Q (by omega) (by omega));clear hti hti2 hkd;go_wp2_with fail;refine HC.out.mono ?_;rintro e w7 ⟨A7, c7, rfl, ho7, ae⟩;have ad := q9 HB13.out ae rfl;have E := BX3.next ae;have r3 := E.cell 3;have s3 := E.frozen 3;simp at r3;go_wp2_with fail;go_meet;have Z := E.set_ 3 (.slice A7 (q4k Vf Vh).length c7);simp at Z;exact ⟨A7, c7, Z, q23 (ql ho7 (by omega)) E (by decide) _ _, ad.setCell (p := ⟨w2.heap.size, 3, none⟩) (by exact hz2) _⟩
      case rest=>
       obtain⟨A7,c7,BX4,ho4,hb4⟩:=hcut;obtain⟨w4,V⟩:∃wq:World,wq=wc:=⟨_,rfl⟩;subst V;have BZ4:=BZ.next hb4;obtain⟨cX0,cX1,cX2,cX3⟩:=cl4 BX4;obtain⟨M,N,O,R,fZ0,fZ1,fZ2,fZ3⟩:=cf4 BZ4;have ho5:=qoe (ql ho4 (by omega:w.heap.size<=D.heap.size)) BZ4 (by decide) (.int .i64 I) (.slice none 0 0) (.slice none 0 0) (.slice A7 L.length c7);have aa:=zaa (q6u BZ4 (.int .i64 I) (.slice none 0 0) (.slice none 0 0) (.slice A7 L.length c7));have X:=zaa (q4c (q9 HT0.out hb4 rfl) (g:=w.heap.size+1+1) (by omega) (.int .i64 I) (.slice none 0 0) (.slice none 0 0) (.slice A7 L.length c7));have HFO:=zaa (qkn (K:=I) X.out.size ho5 HFK.out.1 HLB.out);clear ho4 ho5 BX4 BZ4;go_wp2_with fail
       (try simp only[Exit.inBlock,Exit.then])
       refine zat (v:=.tuple #[.agg #[.int .i64 I,.slice none 0 0,.slice none 0 0,.slice A7 L.length c7],.bool true]) ?hr rfl ?_
       case hr=>exact qn rfl _ _ (w.heap.size+1+1) 57 #[.int .i64 I,.slice none 0 0,.slice none 0 0,.slice A7 L.length c7] (0,0) _ _ rfl aa.out zcp rfl (by kernel_rfl) rfl
       exact⟨X.out,.inr ⟨I,L,A7,c7,HM.out,rfl,HFO.out.1,HFO.out.2⟩⟩
theorem qef (B:Nat) (ds:List Value) (x:LabM) (s:qq) (w:World) (v u:Value) (hB:B<=w.heap.size) (hD:LabD B w x v u) (h':qh.rd w ds s) (c:x.1=true) (hx:AlgP x.2.1) (hln:x.2.2.1.length<=12) (hr:0<=x.2.2.2/\x.2.2.2<=9999) (an:∀f∈x.2.2.1,q1c x.2.1 f=true) (a b:Nat) (S:s.2.2.2.2.1=(a:Int)) (T:s.2.2.2.2.2=(b:Int)) (C:s.1=3\/s.1=4):
  Calls Tryz.prog 28 #[.agg #[.bool x.1,.int .i64 x.2.1.1,v,u,.int .i64 x.2.2.2],.agg ds.toArray] w (LmE B u w x s):=by
 obtain⟨j,kd,A,al⟩:∃(j:Bool) (kd:Int),s.1=kd/\((kd=3/\j=false)\/(kd=4/\j=true)):=C.elim (fun h=>⟨false,3,h,.inl ⟨rfl,rfl⟩⟩) fun h=>⟨true,4,h,.inr ⟨rfl,rfl⟩⟩
 have ae:=fun(F:World) (ds:List Value) (k q:Option Addr) (n y:Nat) (h1:LabD B F x (.slice k x.2.1.2.length n) (.slice q x.2.2.1.length y)) (h2:qh.rd F ds s)=>qjd B ds x s j kd (by rcases al with⟨rfl,rfl⟩|⟨rfl,rfl⟩<;>decide) a b F k q n y h1 h2 hx hln an A S T
 rcases al with⟨rfl,rfl⟩|⟨rfl,rfl⟩
 all_goals
  have D:=h';have ai:=hD;obtain⟨AL,nL,cL,AR,nR,cR,AV,nV,cV,AS,nS,cS,rfl,pK,pT,pF,pL,pR,pV,pS,pA,pB⟩:=q1a h';obtain⟨css,bls,dss,cls,aj,O,hap⟩:=hD;obtain⟨k,n,rfl⟩:=qu aj.2.1;obtain⟨q,y,rfl⟩:=qu O.2.1;have hin:InR x.2.1.1:=⟨by have:=hx.1;omega,by have:=hx.2.1;omega⟩;obtain⟨F,ao,T0,E,BP,BQ,BZ⟩:=q4z w #[.bool x.1,.int .i64 x.2.1.1,.slice k x.2.1.2.length n,.slice q x.2.2.1.length y,.int .i64 x.2.2.2] #[.int .i64 s.1,.string s.2.1,.int .i64 s.2.2.1.1,.slice AL nL cL,.slice AR nR cR,.slice AV nV cV,.slice AS nS cS,.int .i64 s.2.2.2.2.1,.int .i64 s.2.2.2.2.2] #[.bool false,.int .i64 0,.slice none 0 0,.slice none 0 0,.int .i64 0] 27 59 27;have HW0:=zaa ao;have HT0:=zaa T0;have hs0:F.heap.size=w.heap.size+3:=E;have HOP:=zaa c;have HAX:=zaa hx;have ac:Hid (LabD B F x (.slice k x.2.1.2.length n) (.slice q x.2.2.1.length y)):=ai.next T0;have HNG:Hid (w.heap.size+1+1∉obl (.slice q x.2.2.1.length y)):=fun h=>by have:=(O.2.2.2 _ (zbb _ h)).2;omega
  obtain⟨z,J,K,M,N⟩:=cl5 BP;obtain⟨ag,cQ1,cQ2,cQ3,cQ4,cQ5,cQ6,cQ7,cQ8⟩:=cl9 BQ;rw[c]at z;have H:Hid (makM x s=(twoF x s.1 (a:Int) (b:Int)).map (addF x)):=by
   show _=_
   unfold makM;rw[zaj (by rw[A];decide),zam (by rw[A];decide),S,T]
  have af:=zaa (ae F _ k q n y ac.out (qh.stab D T0.block));rw[A]at H;rw[c,A]at af;rw[A]at ag;have HK:=zaa A;clear A S T ae C;clear ao E h' D aj O hap T0 pK pT pF pL pR pV pS pA pB an ai c
  go_enter Tryz.func28,zgd
  go_upto_region 1 with fail;rw[<-HW0.out];go_wp2_with fail;refine af.out.mono ?_;rintro e V ⟨Q,R⟩;have T1:=q9 HT0.out Q rfl;have r:=BZ.next Q
  rcases R with⟨hn,rfl⟩|⟨kf,L,A7,c7,hs,rfl,am,ak⟩
  .have HM:Hid (makM x s=none):=H.out.trans (by rw[hn];rfl)
   obtain⟨Z,m⟩:∃wb,Hid (wb=V.alloc (.cells #[.int .i64 0,.slice none 0 0,.slice none 0 0,.slice none 0 0] 57)):=⟨_,zaa rfl⟩;have d:Below V.heap.size V Z:=by rw[m.out];exact qm _ _
   have T2:=q9 T1 d rfl;have l:=r.next d;clear hn r T1;go_upto_region 19 with fail;rw[<-m.out];have G:=zaa (q18 l (.bool false) (.int .i64 0) (.slice none 0 0) (.slice none 0 0) (.int .i64 0));have I:=zaa (BelO.of (u:=.slice q x.2.2.1.length y) (q10 (T2) (g:=w.heap.size+1+1) (by omega) (.bool false) (.int .i64 0) (.slice none 0 0) (.slice none 0 0) (.int .i64 0)) hB);obtain⟨cZ0,cZ1,cZ2,cZ3,cZ4,fZ0,fZ1,fZ2,fZ3,fZ4⟩:=cf5 l;go_wp2_with fail
   (try simp only[Exit.inBlock,Exit.then])
   refine zat (v:=.tuple #[.agg #[.bool false,.int .i64 0,.slice none 0 0,.slice none 0 0,.int .i64 0],.bool false]) ?hr rfl ?_
   case hr=>exact qn rfl _ _ (w.heap.size+1+1) 27 #[.bool false,.int .i64 0,.slice none 0 0,.slice none 0 0,.int .i64 0] (0,0) _ _ rfl G.out zbg rfl (by kernel_rfl) rfl
   exact⟨I.out,Or.inl ⟨HM.out,rfl⟩⟩
  .obtain⟨Z,m⟩:∃wb,Hid (wb=V.alloc (.cells #[.int .i64 kf,.slice none 0 0,.slice none 0 0,.slice A7 L.length c7] 57)):=⟨_,zaa rfl⟩
   have d:Below V.heap.size V Z:=by rw[m.out];exact qm _ _
   have aa:Blk Z V.heap.size 57 #[.int .i64 kf,.slice none 0 0,.slice none 0 0,.slice A7 L.length c7]:=by rw[m.out];exact Blk.new _ _ _
   have T2:=q9 T1 d rfl;have p:=q9 Q d rfl;have hz12:=p.size;have l:=r.next d;obtain⟨Y,HY⟩:∃Y,Hid (addF x (kf,([], []),L)=Y):=⟨_,zaa rfl⟩;have i:=qbq B F Z x (.slice k x.2.1.2.length n) (.slice q x.2.2.1.length y) (kf,([], []),L) none none A7 0 0 0 0 L.length c7 _ (by omega) ac.out p (Sh.onext am d) (ak.mono (zad _) d.size) (by omega);rw[HY.out,HOP.out]at i;have i:=zaa i;have HM2:Hid (makM x s=some Y):=H.out.trans (by rw[hs];show some (addF x _)=_;rw[HY.out]);have U:=(qk4 x (kf,([], []),L) (.bool true)).2.2;rw[HY.out]at U;have HOK:Hid ((decide ((Y.2.2.1.length:Int)<=12) &&decide (Y.2.2.2<=9999))=decide ((Y.2.2.1.length:Int)<=12)):=by show _=_;rw[U,zbh hr.2,Bool.and_true]
   obtain⟨cY0,cY1,cY2,cY3⟩:=cl4 aa;have zkk:=kk5 p z J K M N;clear z J K M N;obtain⟨z,J,K,M,N⟩:=zkk;have hzz:w.heap.size+1+1<Z.heap.size:=l.lt;have ab:=zaa l;have ad:=zaa T2;clear hs am ak r T1 U aa l T2 ag cQ1 cQ2 cQ3 cQ4 cQ5 cQ6 cQ7 cQ8;go_upto_region 19 with fail;rw[<-m.out];go_wp2_with fail;refine i.out.mono ?_;rintro e w7 ⟨u7,rfl,o,ah,P⟩;obtain⟨A9,c9,W,X,-,rfl,-⟩:=o.w.slices;have t:Blk w7 (w.heap.size+1+1) 27 #[.bool false,.int .i64 0,.slice none 0 0,.slice none 0 0,.int .i64 0]:=(P _ hzz HNG.out).trans ab.out;have HLX:=zaa (o.set5 t (.bool Y.1) (.int .i64 Y.2.1.1) (.slice k x.2.1.2.length n) (.slice W Y.2.2.1.length X) (.int .i64 Y.2.2.2));have G:=zaa (q18 t (.bool Y.1) (.int .i64 Y.2.1.1) (.slice k x.2.1.2.length n) (.slice W Y.2.2.1.length X) (.int .i64 Y.2.2.2));have I:=zaa (BelO.set5 (BelO.step (BelO.of ad.out hB) ah ad.out.size P) (g:=w.heap.size+1+1) (by omega) hB (.bool Y.1) (.int .i64 Y.2.1.1) (.slice k x.2.1.2.length n) (.slice W Y.2.2.1.length X) (.int .i64 Y.2.2.2));obtain⟨cZ0,cZ1,cZ2,cZ3,cZ4,fZ0,fZ1,fZ2,fZ3,fZ4⟩:=cf5 t;clear t o ah P;go_wp2_with fail
   (try simp only[Exit.inBlock,Exit.then])
   refine zat (v:=.tuple #[.agg #[.bool Y.1,.int .i64 Y.2.1.1,.slice k x.2.1.2.length n,.slice W Y.2.2.1.length X,.int .i64 Y.2.2.2],.bool (decide ((Y.2.2.1.length:Int)<=12))]) ?hr rfl ?_
   case hr=>exact qn rfl _ _ (w.heap.size+1+1) 27 #[.bool Y.1,.int .i64 Y.2.1.1,.slice k x.2.1.2.length n,.slice W Y.2.2.1.length X,.int .i64 Y.2.2.2] (0,0) _ _ rfl G.out zbg rfl (by kernel_rfl) rfl
   exact⟨I.out,zew ⟨Y,.slice k x.2.1.2.length n,.slice W Y.2.2.1.length X,HM2.out,by show _=Ending.returned (.tuple #[_,.bool (decide ((Y.2.2.1.length:Int)<=12) &&decide (Y.2.2.2<=9999))]);rw[HOK.out],HLX.out⟩⟩
theorem q25 {P:Program} (w:World) {ops:Array Oper} {o:Oper} {a:Act} {K:Act->World->Prop} {Q:Exit->Act->World->Prop} {E:Prop} (C:o.guard=none) (s x:Operand) (t e:TypeId)
  (J:o.op=.call { callee:=.builtin .append,args:= #[s,x],argTypes:= #[t,t] }) (z:Value) (size bytes:Nat)
  (M:P.underlying t=some (.slice e)) (hi:(P.info? e).map (fun i=>(i.zero,i.size,i.bytes))=some (some z,size,bytes)) (F:z.cells.size=size) (y:bytes<=128) (D:0<size)
  (base n c:Nat) (A:Option Addr) (xs:List Value) (L:a.eval s=.slice A n c) (p:w.ownsRow base e size (.slice A n c) n xs)
  (v:Addr) (m d:Nat) (b:List Value) (O:a.eval x=.slice (some v) m d) (I:b.length=m*size) (q:∀j u,b[j]?=some u->w.cell? (v.add j)=some u) (G:∀u∈b,u.oneCell'=true) (S:n+m<=1099511627) (f:base<=w.heap.size)
  (hK:∀A' c' w',w'.ownsRow base e size (.slice A' (n+m) c') (n+m) (xs++b)->w.grownBy w' (Value.slice A n c).ownBlock->Below base w w'->K (a.put o.dst (.slice A' (n+m) c')) w'):
  if Region.wanted o (yielded ops a.tmps)=true then Oper.wp P o a w K Q else E:=by
 have N:Region.wanted o (yielded ops a.tmps)=true:=by simp[Region.wanted,C]
 rw[zam N];obtain⟨i,hi,R,r,B⟩:=info_parts hi;have l:(n+m)*bytes<=140737488355328:=za7 (zem (n+m) y) (by omega);refine wp_append_own w s x t J base e i z size bytes M hi R r B F D (.slice A n c) n xs L p v m d b O I q G (by unfold maxLen;omega) l f ?_;intro T w' h g _;obtain⟨A',c',rfl⟩:=qu h;exact hK A' c' w' h g ((zac base w).grown g f (fun k H=>(p.lt k H).1))
theorem qjb (cs:List Value) (x:OpM) (w:World) (h:shOp.rd w cs x) (hn:x.2.length<=1048576):
  Calls Tryz.prog 123 #[.agg cs.toArray] w (ToE shOp w x):=by
 obtain⟨B,m,d,rfl,L,F⟩:=rdOp h;have Y:=F.len;obtain⟨q,k,t,j,H,I⟩:=q1q w #[.int .i64 x.1,.slice B m d] #[.int .i64 0,.slice none 0 0] 122 122;have s:=zaa k;have M:=zaa F.bounds;have n:=F.next qd t;have l:q.heap.size=w.heap.size+2:=j;have N:=zaa l;clear k j l;obtain⟨P,Q⟩:=cl2 H;obtain⟨R,S,T,U⟩:=cf2 I
 go_enter Tryz.func123,Tryz.ntmps123
 go_upto_region 1 with fail;rw[<-s.out]
 go_region_with (go_at_call 110;refine(q2s _ _ _ x.2 _ (by first|exact n|exact n.drew qd) (by omega)).mono ?_;rintro e G ⟨a,c,rfl,K,D⟩;have o:=q9 (zai (zac q.heap.size q)) D rfl;have f:=H.next o;have b:=I.next o;have u:=f.cell 0;have y:=f.cell 1;have z:=b.cell 0;have A:=b.cell 1;have V:=b.frozen 0;have W:=b.frozen 1;simp at u y z A)
 all_goals
  have O:=q9 t o rfl;have Z:=o.size;have i:=q1s K b (by decide);have J:=q5w (q5w K (p:=⟨w.heap.size+1,0,none⟩) i (.int .i64 x.1)) (p:=⟨w.heap.size+1,1,none⟩) i (.slice a m c);have r:Blk ((G.setCell ⟨w.heap.size+1,0,none⟩ (.int .i64 x.1)).setCell ⟨w.heap.size+1,1,none⟩ (.slice a m c)) (w.heap.size+1) 122 #[.int .i64 x.1,.slice a m c]:=by simpa using((b.set_ 0 (.int .i64 x.1)).set_ 1 (.slice a m c))
  have E:=q7g J;have C:((G.setCell ⟨w.heap.size+1,0,none⟩ (.int .i64 x.1)).setCell ⟨w.heap.size+1,1,none⟩ (.slice a m c)).ownsRow 0 3 1 (.slice a m c) x.2.length (ints x.2):=by rw[Y];exact ql J (zah _)
  have X:Below w.heap.size w ((G.setCell ⟨w.heap.size+1,0,none⟩ (.int .i64 x.1)).setCell ⟨w.heap.size+1,1,none⟩ (.slice a m c)):=(O.setCell (by show _<=_;simp) _).setCell (by show _<=_;simp) _;have g:w.heap.size<=q.drew.heap.size:=t.size
  go_wp2
  (try simp only[Exit.inBlock,Exit.then])
  refine zat (v:=.agg #[.int .i64 x.1,.slice a m c]) (zb0 rfl _ _ (w.heap.size+1) 122 #[.int .i64 x.1,.slice a m c] (0,0) _ (by simp) r Tryz.underlying122 rfl (by kernel_rfl)) rfl ?_;exact⟨[.int .i64 x.1,.slice a m c],obl (.slice a m c),rfl,⟨[.int .i64 x.1], [.slice a m c], [],obl (.slice a m c),rfl,rfl,⟨_,rfl,⟨rfl,L.1,L.2⟩,rfl⟩,⟨_,rfl,C,M.out,rfl⟩⟩,E.mono g (zad _),X⟩
theorem ql9 (cs:List Value) (x:qi) (w:World) (h:qf.rd w cs x) (hn:qf.cnt x<=1048576):
  Calls Tryz.prog 71 #[.agg cs.toArray] w (AlgE w x):=by
 obtain⟨B,m,d,rfl,qs,qo⟩:=qv h;have hm:=qo.len;have hcn:0+(x.2.length+cntS shOp.cnt x.2)<=1048576:=hn;have HCN:=zaa hcn;have hle:m<=1048576:=by omega
 obtain⟨u,N,T0,hs0,BP,D,O⟩:=q7t w #[.int .i64 x.1,.slice B m d] #[.int .i64 0,.slice none 0 0] #[.int .i64 x.1,.slice none 0 0] 24 24;have HW0:Hid (_=u):=N.symm;have l:=zaa hs0;have ab:=((Blk.new w 24 #[.int .i64 x.1,.slice B m d]).alloc (.cells #[.int .i64 0,.slice none 0 0] 24)).cell 0;have n:=BP.cell 1;simp at ab n;rw[N]at n;have hP0:PO u.heap.size u (.slice none 0 0) (x.2.take 0) [] []:=PO.nil _ _;clear N hs0 hcn
 go_enter Tryz.func71,Tryz.ntmps71
 go_wp2_with fail;clear ab n
 go_loopw [4] (fun i wr=>∃(k:Nat) (v:Value) (q:List (List Value)) (bls:List (List Nat)),k<=m/\i=.int .i64 k/\Blk wr w.heap.size 24 #[.int .i64 x.1,.slice B m d]/\Blk wr (w.heap.size+1+1) 24 #[.int .i64 x.1,v]/\Blk wr (w.heap.size+1) 24 #[.int .i64 0,.slice none 0 0]/\PO u.heap.size wr v (x.2.take k) q bls/\Below w.heap.size w wr) (fun i _=>m - (intOf i).toNat)
 case atStart=>
  rw[HW0.out];exact⟨0,_,_,_,zah _,rfl,BP,O,D,hP0,T0⟩
 case round=>
  clear hP0 O D BP;obtain⟨k,v,q,bls,hk,rfl,T,O,D,a,hT⟩:=hrel;have n:=T.cell 1;simp at n
  by_cases hlt:k<m
  .have hk0:(0:Int)<=(k:Int):=by omega
   have hk1:(k:Int)<(m:Int):=by omega
   obtain⟨b,o,vs,y,rfl,-,hc,hr,-,hx⟩:=(qo.next hT).at hlt;obtain⟨B',m',d',rfl,qa,qt⟩:=rdOp hr;have cc0:wr.cell? ⟨b,o+k*2,none⟩=some (.int .i64 y.1):=hc 0 _ rfl;have cc1:wr.cell? ⟨b,o+k*2+1,none⟩=some (.slice B' m' d'):=hc 1 _ rfl;have HTS:Hid (x.2.take (k+1)=x.2.take k++ [y]):=q3a hx;have hcy:y.2.length<=1048576:=by
    have h1:=q3w (f:=shOp.cnt) (zaf hx);have h2:=HCN.out;have h3:shOp.cnt y=0+y.2.length:=rfl;omega
   obtain⟨L,HL⟩:∃L,Hid (x.2.take k=L):=⟨_,rfl⟩;have HLK:Hid (L.length=k):=by show _=_;rw[<-HL.out,za9];omega
   rw[HL.out]at a;have X:Hid (x.2.take (k+1)=L++ [y]):=by show _=_;rw[HTS.out,HL.out]
   obtain⟨A,c,rfl⟩:=qu a.2.1;obtain⟨P,hw5⟩:∃P:World,P=wr:=⟨_,rfl⟩;subst hw5;have J:=a;have hr5:=hr;have z:=O;have BR5:=D;have hT5:=hT;have cO5:=z.cell 1;have fO5:=z.frozen 1;simp at cO5;have hwz0:u.heap.size<=P.heap.size:=by
    rcases J.2.1.2 with⟨h1,h2⟩|⟨g9,_,_,h1,h2,_⟩
    .have:=hT5.size
     have h9:=z.lt;have h8:=l.out;omega
    .injection h1 with h1
     have:=J.2.2.2 g9 (zbb _ (by rw[h1];simp[obl,Value.ownBlock]));omega
   clear hc hx hr a;go_upto_region 5 with fail
   go_region_law (first
    |(refine qfa w6 rfl (.tmp 16) (.tmp 23) 22 122 rfl (.agg #[.int .i64 0,.slice none 0 0]) 32 ze7 q70 rfl (by decide) u.heap.size L.length c A q.flatten (by rfl) t (.int .i64 y.1) (.slice B6 m6 d6) rfl rfl (by rfl) (by have:=HLK.out;omega) (by omega) ?_;intro F I w8 s r hb8;have C:=j.grown r (fun e=>q1s t j (by decide) e.symm);have U:=H.grown r (fun e=>q1s t H (by decide) e.symm);have R:=G.grown r (fun e=>q1s t G (by decide) e.symm);have aa:=C.cell 1;have fO8:=C.frozen 1;simp at aa)
    |(go_simp;go_at_call 123;refine(qjb [.int .i64 y.1,.slice B' m' d'] y _ (by first|exact hr5|exact shOp.stab hr5 (fun _ _=>rfl)) hcy).mono ?_;rintro e w6 ⟨ds,bk,rfl,M,hiv,hbn⟩;obtain⟨B6,m6,d6,rfl,-,-⟩:=rdOp (shOp.ord M);have K:=q9 (zai (zac P.heap.size P)) hbn rfl;have hiv6:Iv P.heap.size w6.heap.size bk:=hiv;obtain⟨t,W⟩:=J.push K hwz0 M hiv6;have hsz6:=K.size;have j:=z.next K;have H:=BR5.next K;have G:=T.next K;have Z:=j.cell 1;have fO6:=j.frozen 1;have E:=(j.alloc (.cells #[.int .i64 y.1,.slice B6 m6 d6] 122)).cell 1;simp at Z E))
   all_goals
    have Y:=(W s r).far (p:=⟨w.heap.size+1+1,1,none⟩) (by have:=l.out;show w.heap.size+1+1<u.heap.size;omega) (.slice F (L.length+1) I);have hT8:=((q9 hT5 K rfl).trans (hb8.mono (by have:=l.out;omega))).setCell (p:=⟨w.heap.size+1+1,1,none⟩) (by show _<=_;simp;try omega) (.slice F (L.length+1) I);have Q:Blk (w8.setCell ⟨w.heap.size+1+1,1,none⟩ (.slice F (L.length+1) I)) (w.heap.size+1+1) 24 #[.int .i64 x.1,.slice F (L.length+1) I]:=by simpa using C.set_ 1 (.slice F (L.length+1) I)
    have V:=U.far (p:=⟨w.heap.size+1+1,1,none⟩) (by simp) (.slice F (L.length+1) I);have S:=R.far (p:=⟨w.heap.size+1+1,1,none⟩) (by show w.heap.size≠w.heap.size+1+1;omega) (.slice F (L.length+1) I);have HFP:=zaa S;have g:=zaa (zao Q (zao V (zao Y hT8)));clear S R G Q V Y hT8 Z fO6 E aa fO8 s r hb8 C U j H t W M hbn K;go_wp2_with fail
    go_roundw
    case rel=>exact⟨k+1,_,_,_,by omega,by go_num,HFP.out,g.out.1,g.out.2.1,by rw[X.out];exact g.out.2.2.1,g.out.2.2.2⟩
    case measure=>simp[intOf];omega
  .obtain rfl:k=m:=by omega
   have hlt':¬(k:Int)<(k:Int):=by omega
   have hP:PO u.heap.size wr v x.2 q bls:=by rw[zar (by omega)]at a;exact a
   obtain⟨A,c,hv⟩:=qu hP.2.1;rw[hm]at hv;subst hv;have hlow:w.heap.size<=u.heap.size:=by have:=l.out;omega
   have hPF:=((hP.far (p:=⟨w.heap.size+1,0,none⟩) (by have:=l.out;show w.heap.size+1<u.heap.size;omega) (.int .i64 x.1)).far (p:=⟨w.heap.size+1,1,none⟩) (by have:=l.out;show w.heap.size+1<u.heap.size;omega) (.slice A k c)).mono hlow;have hTF:=(hT.setCell (p:=⟨w.heap.size+1,0,none⟩) (by show _<=_;simp) (.int .i64 x.1)).setCell (p:=⟨w.heap.size+1,1,none⟩) (by show _<=_;simp) (.slice A k c);have cO0:=O.cell 0;have cO1:=O.cell 1;have cR0:=D.cell 0;have cR1:=D.cell 1;have fR0:=D.frozen 0;have fR1:=D.frozen 1;have BRR:Blk ((wr.setCell ⟨w.heap.size+1,0,none⟩ (.int .i64 x.1)).setCell ⟨w.heap.size+1,1,none⟩ (.slice A k c)) (w.heap.size+1) 24 #[.int .i64 x.1,.slice A k c]:=by simpa using((D.set_ 0 (.int .i64 x.1)).set_ 1 (.slice A k c))
   have HPF:=zaa hPF;simp at cO0 cO1 cR0 cR1;clear hP hPF a;go_wp2_with fail
   (try simp only[Exit.inBlock,Exit.then])
   refine zat (v:=.agg #[.int .i64 x.1,.slice A k c]) (zb0 rfl _ _ (w.heap.size+1) 24 #[.int .i64 x.1,.slice A k c] (0,0) _ (by simp) BRR zb4 rfl (by kernel_rfl)) rfl ?_;exact⟨_,q,bls,rfl,HPF.out,hTF⟩
theorem q4a {w:World} {lo g m:Nat} {e:TypeId} (h:Blk w g e #[]) (a:lo<=g):w.ownsRow lo e m (.slice (some ⟨g,0,none⟩) 0 0) 0 []:=
 ⟨by simp,.inr ⟨g,0, #[],rfl,a,h,zad _,zah _,by simp,by simp⟩⟩
theorem qk1 {w:World} {lo:Nat} {v:Value} (h:w.ownsRow lo 57 4 v 0 []):PG qj 4 57 lo w v [] [] []:=by
 refine⟨⟨ql h (zah _),rfl,rfl,fun k c x a h=>by simp at h⟩,h,?_⟩;rw[List.flatten_nil,zc3];exact q7g h
theorem own5 {lo:Nat} {w:World} {v:Value} {xs:List OpM} {css:List (List Value)} {bls:List (List Nat)} (q:PO lo w v xs css bls) {f:Nat} (r:Blk w f 57 #[]) (t:lo<=f) {g:Nat} {x y z A B:Value} (l:Blk w g 27 #[x,y,z,A,B]) (a b c d e:Value):
  PO lo (((((w.setCell ⟨g,0,none⟩ a).setCell ⟨g,1,none⟩ b).setCell ⟨g,2,none⟩ c).setCell ⟨g,3,none⟩ d).setCell ⟨g,4,none⟩ e) v xs css bls/\PG qj 4 57 lo (((((w.setCell ⟨g,0,none⟩ a).setCell ⟨g,1,none⟩ b).setCell ⟨g,2,none⟩ c).setCell ⟨g,3,none⟩ d).setCell ⟨g,4,none⟩ e) (.slice (some ⟨f,0,none⟩) 0 0) [] [] []/\∀b∈obl v++bls.flatten,b∉obl (.slice (some ⟨f,0,none⟩) 0 0)++([]:List (List Nat)).flatten:=by
 have h:=l.set_ 0 a;have i:=h.set_ 1 b;have j:=i.set_ 2 c;have m:=j.set_ 3 d;have o:=PO.setB (k:=4) (PO.setB (k:=3) (PO.setB (k:=2) (PO.setB (k:=1) (PO.setB (k:=0) q l (by decide) (by decide) a) h (by decide) (by decide) b) i (by decide) (by decide) c) j (by decide) (by decide) d) m (by decide) (by decide) e;have p:PG qj 4 57 lo w (.slice (some ⟨f,0,none⟩) 0 0) [] [] []:=qk1 (q4a r t);have n:=PGf.setB (k:=4) (PGf.setB (k:=3) (PGf.setB (k:=2) (PGf.setB (k:=1) (PGf.setB (k:=0) p l (by decide) (by decide) a) h (by decide) (by decide) b) i (by decide) (by decide) c) j (by decide) (by decide) d) m (by decide) (by decide) e;exact⟨o,n,fun b s u=>q5x o n.2.1 b s (by simpa using u)⟩
def qpx (w:World) (x:LabM) (e:Ending) (w':World):Prop:=∃v u,e=.returned (.agg #[.bool x.1,.int .i64 x.2.1.1,v,u,.int .i64 x.2.2.2])/\LabD w.heap.size w' x v u/\Below w.heap.size w w'
theorem qbp (cs:List Value) (x:LabM) (w:World) (h:q19.rd w cs x) (hn:q19.cnt x<=1048576):Calls Tryz.prog 36 #[.agg cs.toArray] w (qpx w x):=by
 obtain⟨Bo,k,d,F,n,c,rfl,qZ,qO,qF,qR⟩:=q42 h;have hcn:0+(qf.cnt x.2.1+((x.2.2.1.length+cntS qj.cnt x.2.2.1)+0))<=1048576:=hn;obtain rfl:x.2.2.1.length=n:=qF.len;have hle:x.2.2.1.length<=1048576:=by omega
 obtain⟨m,hw0,T0,hsz0,BP,BQ⟩:=q1q w #[.bool x.1,.int .i64 x.2.1.1,.slice Bo k d,.slice F x.2.2.1.length c,.int .i64 x.2.2.2] #[.bool false,.int .i64 0,.slice none 0 0,.slice none 0 0,.int .i64 0] 27 27;have HW0:=zaa hw0;have HCL:Hid (∀Y,Below m.heap.size m Y->Calls Tryz.prog 71 #[.agg #[.int .i64 x.2.1.1,.slice Bo k d]] Y (AlgE Y x.2.1)):=fun Y hz=>ql9 [.int .i64 x.2.1.1,.slice Bo k d] x.2.1 Y (q30 qZ ((qO.next T0).next hz)) (by omega)
 obtain⟨r,s,t,cP3,z⟩:=cl5 BP;have Z:Below m.heap.size m m:=zac _ _;have HT0:=zaa T0;have HQF:=zaa (qF.next T0);have HCN:Hid (x.2.2.1.length+cntS qj.cnt x.2.2.1<=1048576):=by show _<=_;omega
 have hs1:w.heap.size+1<m.heap.size:=by omega
 clear hw0 hsz0 h qO qF hcn hn qR qZ T0
 go_enter Tryz.func36,Tryz.ntmps36
 go_upto_region 1 with fail;rw[<-HW0.out];have HD:=zaa (zao r (zao s (zao t z)))
 go_cut [3]from 5 to 13 (fun u3 wx=>∃g v u M bls H D,u3=.pointer (some ⟨g,0,none⟩)/\Blk wx g 27 #[.bool x.1,.int .i64 x.2.1.1,v,u,.int .i64 x.2.2.2]/\PO m.heap.size wx v x.2.1.2 M bls/\PG qj 4 57 m.heap.size wx u [] H D/\(∀b∈obl v++bls.flatten,b∉obl u++D.flatten)/\Below m.heap.size m wx/\m.heap.size<=g)
 case first=>
  refine zca (S:=fun w'=>w'.cell? ⟨w.heap.size,0,none⟩=some (.bool x.1)/\w'.cell? ⟨w.heap.size,1,none⟩=some (.int .i64 x.2.1.1)/\w'.cell? ⟨w.heap.size,2,none⟩=some (.slice Bo k d)/\w'.cell? ⟨w.heap.size,4,none⟩=some (.int .i64 x.2.2.2)) (by kernel_rfl) ⟨r,s,t,z⟩ (fun hHeld=>?_);obtain⟨wn,B,a⟩:=dr0 m;rw[<-B.out]at hHeld⊢
  try replace Z:=q9 Z a rfl
  have zkk:=kk4 a r s t z;clear r s t z;obtain⟨r,s,t,z⟩:=zkk;have zwn:=a.size;clear a B
  repeat' (first
   | ((first
       | (with_reducible refine Tg.mk (i := 4) (fun K hK => ?_)
          go_simp;refine (HCL.out _ Z).mono ?_;rintro e wm ⟨v4, css4, bls4, rfl, l, a⟩;obtain ⟨A4, c4, rfl⟩ := qu l.2.1;replace l := l.mono Z.size
          go_wp2_with fail)
       | (with_reducible refine Tg.mk (i := 5) (fun K hK => ?_)
          go_simp;obtain ⟨wm, g5, B, Hg5, a, B5, zg5, yg5⟩ := al2 wn #[] 57;rw [<- B.out, <- Hg5.out]
          replace zg5 := za7 zwn zg5)
       | (with_reducible refine Tg.mk (i := 9) (fun K hK => ?_)
          go_simp;obtain ⟨wm, g9, B, Hg9, a, B9, zg9, yg9⟩ := al2 wn #[.bool false, .int .i64 0, .slice none 0 0, .slice none 0 0, .int .i64 0] 27;rw [<- B.out, <- Hg9.out]
          replace zg9 := za7 zwn zg9))
      replace zwn := za7 zwn a.size
      try replace Z := q9 Z a rfl
      try replace l := l.next a
      try replace B5 := B5.next a
      try replace yg5 := zcu yg5 a.size
      try replace B9 := B9.next a
      try replace yg9 := zcu yg9 a.size
      have zkk := kk4 a r s t z;clear r s t z;obtain ⟨r, s, t, z⟩ := zkk;clear a;clear hHeld;refine hK.out _ _ ⟨r, s, t, z⟩ (fun hHeld => ?_);clear hK K
      (try simp only [Act.put, zA, zB, zC, zD, zE, zF])
      obtain ⟨wn, hwn⟩ : ∃ x : World, x = wm := ⟨_, rfl⟩
      subst hwn)
   | (with_reducible refine Tg.mk (i := 10) (fun K hK => ?_)
      obtain ⟨gC0, gC1, gC2, gC3, gC4, gF0, gF1, gF2, gF3, gF4⟩ := cf5 B9;go_simp;obtain ⟨wm, B⟩ : ∃ wq, Hid (wq = ((((wn.setCell ⟨g9, 0, none⟩ (.bool x.1)).setCell ⟨g9, 1, none⟩ (.int .i64 x.2.1.1)).setCell ⟨g9, 2, none⟩ (.slice A4 x.2.1.2.length c4)).setCell ⟨g9, 3, none⟩ (.slice (some ⟨g5, 0, none⟩) 0 0)).setCell ⟨g9, 4, none⟩ (.int .i64 x.2.2.2)) := ⟨_, zaa rfl⟩;rw [<- B.out];have BGf : Blk wm g9 27 #[.bool x.1, .int .i64 x.2.1.1, .slice A4 x.2.1.2.length c4, .slice (some ⟨g5, 0, none⟩) 0 0, .int .i64 x.2.2.2] := by rw [B.out]; exact q18 B9 _ _ _ _ _
      have hOf := own5 l B5 zg5 B9 (.bool x.1) (.int .i64 x.2.1.1) (.slice A4 x.2.1.2.length c4) (.slice (some ⟨g5, 0, none⟩) 0 0) (.int .i64 x.2.2.2);rw [<- B.out] at hOf;have Tf : Below m.heap.size m wm := by rw [B.out]; exact q10 Z zg9 _ _ _ _ _
      replace r := qe Tf HD.out.1;replace s := qe Tf HD.out.2.1;replace t := qe Tf HD.out.2.2.1;replace z := qe Tf HD.out.2.2.2;clear hHeld;refine hK.out _ _ ⟨r, s, t, z⟩ (fun hHeld => ?_);clear hK K
      (try simp only [Act.put, zA, zB, zC, zD, zE, zF])
      obtain ⟨wn, hwn⟩ : ∃ x : World, x = wm := ⟨_, rfl⟩
      subst hwn)
   | (refine pl 0 (by decide +kernel) (.pointer (some ⟨w.heap.size, 0, none⟩)) rfl ?_
      (try simp only [Act.put, zA, zB, zC, zD, zE, zF]))
   | (refine ul 1 (by decide +kernel) (.bool x.1) rfl (.inl ⟨by kernel_rfl, fun wv U => by (obtain ⟨hS0, hS1, hS2, hS3⟩ := U); go_simp⟩) ?_
      (try simp only [Act.put, zA, zB, zC, zD, zE, zF]))
   | (refine pl 2 (by decide +kernel) (.pointer (some ⟨w.heap.size, 1, none⟩)) rfl ?_
      (try simp only [Act.put, zA, zB, zC, zD, zE, zF]))
   | (refine ul 3 (by decide +kernel) (.agg #[.int .i64 x.2.1.1, .slice Bo k d]) rfl (.inl ⟨by kernel_rfl, fun wv U => by (obtain ⟨hS0, hS1, hS2, hS3⟩ := U); go_simp⟩) ?_
      (try simp only [Act.put, zA, zB, zC, zD, zE, zF]))
   | (refine pl 6 (by decide +kernel) (.pointer (some ⟨w.heap.size, 4, none⟩)) rfl ?_
      (try simp only [Act.put, zA, zB, zC, zD, zE, zF]))
   | (refine ul 7 (by decide +kernel) (.int .i64 x.2.2.2) rfl (.inl ⟨by kernel_rfl, fun wv U => by (obtain ⟨hS0, hS1, hS2, hS3⟩ := U); go_simp⟩) ?_
      (try simp only [Act.put, zA, zB, zC, zD, zE, zF]))
   | (refine pl 8 (by decide +kernel) (.agg #[.bool x.1, .int .i64 x.2.1.1, .slice A4 x.2.1.2.length c4, .slice (some ⟨g5, 0, none⟩) 0 0, .int .i64 x.2.2.2]) rfl ?_
      (try simp only [Act.put, zA, zB, zC, zD, zE, zF]))
   |(refine s3 4 5 9 (by decide+kernel) rfl ?_ rfl ?_ rfl ?_)
   |(refine s2 5 9 (by decide+kernel) rfl ?_ rfl ?_)
   |(refine s1 9 (by decide+kernel) rfl ?_)
   |(refine s1 10 (by decide+kernel) rfl ?_)
   |(refine s1 5 (by decide+kernel) rfl ?_)
   |(refine s2 4 9 (by decide+kernel) rfl ?_ rfl ?_)
   |(refine s1 4 (by decide+kernel) rfl ?_)
   |(refine s2 4 5 (by decide+kernel) rfl ?_ rfl ?_)
   | (refine zcf (by decide +kernel) ?_ _
      go_wp2_with fail;go_meet
      exact ⟨_, _, _, _, _, _, _, rfl, BGf, hOf.1, hOf.2.1, hOf.2.2, Tf, zg9⟩))
 case rest=>
  obtain⟨g,v,u0,M,bls,dss0,cls0,rfl,BG,l,hPG0,hAP0,T1,hg⟩:=hcut;obtain⟨w1,HWC⟩:∃wq:World,wq=wc:=⟨_,rfl⟩;subst HWC;have dP3:=qe T1 cP3;have HBQ:=zaa BQ;clear r s t z;go_wp2_with fail
  go_loopw [4] (fun i wr=>∃(j:Nat) (u:Value) (H:List (List Value)) (D:List (List Nat)),j<=x.2.2.1.length/\i=.int .i64 (j:Int)/\Blk wr g 27 #[.bool x.1,.int .i64 x.2.1.1,v,u,.int .i64 x.2.2.2]/\PO m.heap.size wr v x.2.1.2 M bls/\PG qj 4 57 m.heap.size wr u (x.2.2.1.take j) H D/\(∀b∈obl v++bls.flatten,b∉obl u++D.flatten)/\Below m.heap.size m wr) (fun i _=>x.2.2.1.length - (intOf i).toNat)
  case atStart=>exact⟨0,_,_,_,zah _,rfl,BG,l,by rw[zcw];exact hPG0,hAP0,T1⟩
  case round=>
   clear BG l T1 dP3 hPG0 hAP0;obtain⟨j,u,H,D,hj,rfl,BG,l,G,hAP,hT⟩:=hrel;have dP3:=qe hT cP3
   by_cases hlt:j<x.2.2.1.length
   .have hj0:(0:Int)<=(j:Int):=by omega
    have hj1:(j:Int)<(x.2.2.1.length:Int):=by omega
    obtain⟨b,o,vs,y,rfl,-,hc,hr,-,hx⟩:=HQF.out.at hlt;obtain⟨AL,nL,cL,AR,nR,cR,AV,nV,cV,rfl,qk,qL,qRr,qV⟩:=q21 hr;have cc0:wr.cell? ⟨b,o+j*4,none⟩=some (.int .i64 y.1):=qe hT (hc 0 _ rfl);have cc1:wr.cell? ⟨b,o+j*4+1,none⟩=some (.slice AL nL cL):=qe hT (hc 1 _ rfl);have cc2:wr.cell? ⟨b,o+j*4+2,none⟩=some (.slice AR nR cR):=qe hT (hc 2 _ rfl);have cc3:wr.cell? ⟨b,o+j*4+3,none⟩=some (.slice AV nV cV):=qe hT (hc 3 _ rfl);have HTS:Hid (x.2.2.1.take (j+1)=x.2.2.1.take j++ [y]):=q3a hx;have hcy:qj.cnt y<=1048576:=by
     have h1:=q3w (f:=qj.cnt) (zaf hx);have h2:=HCN.out;omega
    have hcy':0+((y.2.1.1.length+y.2.1.2.length)+y.2.2.length)<=1048576:=hcy;obtain⟨L,HL⟩:∃L,Hid (x.2.2.1.take j=L):=⟨_,rfl⟩;have HLK:Hid (L.length=j):=by show _=_;rw[<-HL.out,za9];omega
    rw[HL.out]at G;have HTS2:Hid (x.2.2.1.take (j+1)=L++ [y]):=by show _=_;rw[HTS.out,HL.out]
    obtain⟨A,cA,rfl⟩:=qu G.2.1;obtain⟨J,HW5⟩:∃J,J=wr:=⟨_,rfl⟩;subst HW5;have T5:Below J.heap.size J J:=zac _ _;have hT5:=hT;have HCF:Hid (∀Y,Below J.heap.size J Y->Calls Tryz.prog 61 #[.agg #[.int .i64 y.1,.slice AL nL cL,.slice AR nR cR,.slice AV nV cV]] Y (CfE Y y)):=fun Y hz=>
     qaf y.1 AL nL cL AR nR cR AV nV cV y.2.1.1 y.2.1.2 y.2.2 Y (qL.next qd (q9 hT5 hz rfl)) (qRr.next qd (q9 hT5 hz rfl)) (qV.next qd (q9 hT5 hz rfl)) (by rw[<-qL.len];omega) (by rw[<-qRr.len];omega) (by rw[<-qV.len];omega)
    have HBD:Hid ((∀v∈y.2.1.1,InR v)/\(∀v∈y.2.1.2,InR v)/\(∀v∈y.2.2,InR v)):=⟨qL.bounds,qRr.bounds,qV.bounds⟩;have HQK:=zaa qk;have BG5:=BG.next T5;have cO5:=BG5.cell 3;simp at cO5;have R:=l.next T5;have hP5:=G.next T5;have hm5:m.heap.size<=J.heap.size:=hT.size;have Z:Below J.heap.size J J:=zac _ _;clear hc hx hr G hcy hcy' qL qRr qV qk;go_upto_region 5 with fail
    go_region_law (first
     |(refine q8g w6 rfl (.tmp 22) (.tmp 29) 25 57 rfl (.agg #[.int .i64 0,.slice none 0 0,.slice none 0 0,.slice none 0 0]) 4 80 zbx q16 rfl (by decide) (by decide) m.heap.size L.length cA A H.flatten (by rfl) hvs [.int .i64 y.1,.slice A1 y.2.1.1.length c1,.slice A2 y.2.1.2.length c2,.slice A3 y.2.2.length c3] rfl (by intro q hq;simp at hq;rcases hq with rfl|rfl|rfl|rfl<;>rfl) (by rfl) (by have:=HLK.out;omega) (by omega) ?_;intro A8 c8 w8 I hg8 hb8;have P:=O.grown hg8 (fun e=>q1s hvs O (by decide) e.symm);have cO8:=P.cell 3;have fO8:=P.frozen 3;simp at cO8)
     |(go_simp;go_at_call 61;(with_reducible refine(HCF.out _ ?_).mono ?_);(first|exact Z|exact zai Z);rintro e w6 hcf;obtain⟨A1,c1,A2,c2,A3,c3,bk,rfl,hO6,hiv6,hbn⟩:=qbk hcf HQK.out HBD.out.1 HBD.out.2.1 HBD.out.2.2;have V:=q9 (zai (zac J.heap.size J)) hbn rfl;have W:Iv J.heap.size w6.heap.size bk:=hiv6;obtain⟨hvs,HPU⟩:=hP5.push q4v rfl V hm5 hO6 W;have hsz6:=V.size;have O:=BG5.next V;have cO6:=O.cell 3;have fO6:=O.frozen 3;have cO6a:=(O.alloc (.cells #[.int .i64 y.1,.slice A1 y.2.1.1.length c1,.slice A2 y.2.1.2.length c2,.slice A3 y.2.2.length c3] 57)).cell 3;simp at cO6 cO6a;have dc0:=qe V cc0;have dc1:=qe V cc1;have dc2:=qe V cc2;have dc3:=qe V cc3;have ddP:=qe V dP3))
    all_goals
     have PN:=PGf.setB (k:=3) (HPU I hg8) P (by decide) (by decide) (.slice A8 (L.length+1) c8);have hT8:Below m.heap.size m (w8.setCell ⟨g,3,none⟩ (.slice A8 (L.length+1) c8)):=((q9 hT5 V rfl).trans (hb8.mono (by omega))).setCell (p:=⟨g,3,none⟩) (by exact hg) _;have BG9:Blk (w8.setCell ⟨g,3,none⟩ (.slice A8 (L.length+1) c8)) g 27 #[.bool x.1,.int .i64 x.2.1.1,v,.slice A8 (L.length+1) c8,.int .i64 x.2.2.2]:=by simpa using P.set_ 3 (.slice A8 (L.length+1) c8)
     have T:PO m.heap.size w8 v x.2.1.2 M bls:=(R.next V).same hg8.size fun b N=>hg8.block b ((R.next V).2.2.2 b N).2 fun e=>hAP b N (zbb _ (q1e.2 e.symm))
     have hPO9:=PO.setB (k:=3) T P (by decide) (by decide) (.slice A8 (L.length+1) c8);have hAP9:∀b∈obl v++bls.flatten,b∉obl (.slice A8 (L.length+1) c8)++(D++ [bk]).flatten:=fun b N hm=>by
      rcases zau.1 hm with hm|hm
      .exact q5x T I b N hm
      .rw[zbu,zau]at hm
       rcases hm with hm|hm
       .exact hAP b N (zaz _ hm)
       .have h1:=(W.2 b (by simpa using hm)).1
        have h2:=(R.2.2.2 b N).2;omega
     have E:=zaa (zao BG9 (zao hPO9 (zao PN (zao hAP9 hT8))));clear BG9 hPO9 PN hT8 T I hb8 hvs HPU cO6 cO6a fO6 dc0 dc1 dc2 dc3 ddP hAP9;go_wp2_with fail
     go_roundw
     case rel=>exact⟨j+1,_,_,_,by omega,by go_num,E.out.1,E.out.2.1,by rw[HTS2.out];exact E.out.2.2.1,E.out.2.2.2.1,E.out.2.2.2.2⟩
     case measure=>simp[intOf];omega
   .obtain rfl:j=x.2.2.1.length:=by omega
    have hlt':¬(x.2.2.1.length:Int)<(x.2.2.1.length:Int):=by omega
    rw[zar (zad _)]at G;obtain⟨Av,cv,rfl⟩:=qu l.2.1;obtain⟨Au,cu,rfl⟩:=qu G.2.1;have BQr:=HBQ.out.next hT;obtain⟨cG0,cG1,cG2,cG3,cG4⟩:=cl5 BG;obtain⟨cQ0,cQ1,cQ2,cQ3,cQ4,fQ0,fQ1,fQ2,fQ3,fQ4⟩:=cf5 BQr;obtain⟨wf,Q⟩:∃wf,Hid (wf=((((wr.setCell ⟨w.heap.size+1,0,none⟩ (.bool x.1)).setCell ⟨w.heap.size+1,1,none⟩ (.int .i64 x.2.1.1)).setCell ⟨w.heap.size+1,2,none⟩ (.slice Av x.2.1.2.length cv)).setCell ⟨w.heap.size+1,3,none⟩ (.slice Au x.2.2.1.length cu)).setCell ⟨w.heap.size+1,4,none⟩ (.int .i64 x.2.2.2)):=⟨_,zaa rfl⟩;have C:w.heap.size+1<m.heap.size:=hs1;have BRR:Blk wf (w.heap.size+1) 27 #[.bool x.1,.int .i64 x.2.1.1,.slice Av x.2.1.2.length cv,.slice Au x.2.2.1.length cu,.int .i64 x.2.2.2]:=by rw[Q.out];simpa using((((BQr.set_ 0 (.bool x.1)).set_ 1 (.int .i64 x.2.1.1)).set_ 2 (.slice Av x.2.1.2.length cv)).set_ 3 (.slice Au x.2.2.1.length cu)).set_ 4 (.int .i64 x.2.2.2)
    have HPO:Hid (PO m.heap.size wf (.slice Av x.2.1.2.length cv) x.2.1.2 M bls):=by rw[Q.out];exact((((l.far (p:=⟨w.heap.size+1,0,none⟩) C _).far (p:=⟨w.heap.size+1,1,none⟩) C _).far (p:=⟨w.heap.size+1,2,none⟩) C _).far (p:=⟨w.heap.size+1,3,none⟩) C _).far (p:=⟨w.heap.size+1,4,none⟩) C _
    have HPG:Hid (PG qj 4 57 m.heap.size wf (.slice Au x.2.2.1.length cu) x.2.2.1 H D):=by rw[Q.out];exact((((G.far (p:=⟨w.heap.size+1,0,none⟩) C _).far (p:=⟨w.heap.size+1,1,none⟩) C _).far (p:=⟨w.heap.size+1,2,none⟩) C _).far (p:=⟨w.heap.size+1,3,none⟩) C _).far (p:=⟨w.heap.size+1,4,none⟩) C _
    have X:w.heap.size<=w.heap.size+1:=by omega
    have HTT:Hid (Below w.heap.size w wf):=by rw[Q.out];exact(((((q9 HT0.out hT rfl).setCell (p:=⟨w.heap.size+1,0,none⟩) X _).setCell (p:=⟨w.heap.size+1,1,none⟩) X _).setCell (p:=⟨w.heap.size+1,2,none⟩) X _).setCell (p:=⟨w.heap.size+1,3,none⟩) X _).setCell (p:=⟨w.heap.size+1,4,none⟩) X _
    clear l G BQr;go_wp2_with fail;rw[<-Q.out]
    (try simp only[Exit.inBlock,Exit.then])
    refine zat (v:=.agg #[.bool x.1,.int .i64 x.2.1.1,.slice Av x.2.1.2.length cv,.slice Au x.2.2.1.length cu,.int .i64 x.2.2.2]) (zb0 rfl _ _ (w.heap.size+1) 27 #[.bool x.1,.int .i64 x.2.1.1,.slice Av x.2.1.2.length cv,.slice Au x.2.2.1.length cu,.int .i64 x.2.2.2] (0,0) _ (by simp) BRR zbg rfl (by kernel_rfl)) rfl ?_;exact⟨_,_,rfl,⟨M,bls,H,D,HPO.out.mono (by omega),HPG.out.mono (by omega),hAP⟩,HTT.out⟩
theorem qnf {w:World} {c:List Value} {x:qy} {b:List Nat} (h:qj.own w c x b):∀u∈c,u.oneCell'=true:=fun u a=>by
 obtain⟨d,k,g,e,l,i,f,m,j,rfl,-,-,-,-⟩:=q21 (qj.ord h);simp at a
 rcases a with rfl|rfl|rfl|rfl<;>rfl
theorem PG.one {lo:Nat} {w:World} {v:Value} {xs:List qy} {css:List (List Value)} {bls:List (List Nat)} (h:PG qj 4 57 lo w v xs css bls):∀c∈css,∀u∈c,u.oneCell'=true:=fun c b=>by
 obtain⟨k,a⟩:=zbo b;have d:=(zag.1 a).1;have e:=h.1.l1;have f:=h.1.l2;exact qnf (h.1.el k _ _ _ a (zae (by omega)) (zae (by omega)))
theorem qo0 (B:Nat) (ds:List Value) (x:LabM) (s:qq) (w:World) (v u:Value) (hB:B<=w.heap.size) (hD:LabD B w x v u) (h':qh.rd w ds s) (ae:x.1=true) (hx:AlgP x.2.1) (hln:x.2.2.1.length<=12) (hr:0<=x.2.2.2/\x.2.2.2<=9999) (hk:s.1=5) (k:Nat) (hkA:s.2.2.2.2.1=(k:Int)):
  Calls Tryz.prog 28 #[.agg #[.bool x.1,.int .i64 x.2.1.1,v,u,.int .i64 x.2.2.2],.agg ds.toArray] w (LmE B u w x s):=by
 have hrd':=h';have hD0:=hD;obtain⟨AL,nL,cL,AR,nR,cR,AV,nV,cV,AS,nS,cS,rfl,pK,pT,pF,pL,pR,pV,pS,pA,pB⟩:=q1a h';obtain⟨css,bls,n,cls,hPO,hPG,hap⟩:=hD;obtain⟨A1,c1,rfl⟩:=qu hPO.2.1;obtain⟨A2,r,rfl⟩:=qu hPG.2.1;rw[hkA];obtain⟨w0,hw0,T0,hsz0,BP,BQ,BZ⟩:=q4z w #[.bool x.1,.int .i64 x.2.1.1,.slice A1 x.2.1.2.length c1,.slice A2 x.2.2.1.length r,.int .i64 x.2.2.2] #[.int .i64 s.1,.string s.2.1,.int .i64 s.2.2.1.1,.slice AL nL cL,.slice AR nR cR,.slice AV nV cV,.slice AS nS cS,.int .i64 (k:Int),.int .i64 s.2.2.2.2.2] #[.bool false,.int .i64 0,.slice none 0 0,.slice none 0 0,.int .i64 0] 27 59 27;have HW0:=zaa hw0;have HT0:=zaa T0;have hs0:w0.heap.size=w.heap.size+3:=hsz0;have HOP:=zaa ae;have HD0:Hid (LabD B w0 x (.slice A1 x.2.1.2.length c1) (.slice A2 x.2.2.1.length r)):=hD0.next T0;have HNG:Hid (w.heap.size+1+1∉obl (.slice A2 x.2.2.1.length r)):=fun h=>by have:=(hPG.2.2.2 _ (zbb _ h)).2;omega
 obtain⟨cP0,cP1,cP2,A,cP4⟩:=cl5 BP;obtain⟨cQ0,cQ1,cQ2,cQ3,cQ4,cQ5,cQ6,d,cQ8⟩:=cl9 BQ;rw[ae]at cP0;have HM0:Hid (makM x s=(if(k:Int)<(x.2.2.1.length:Int)then some (x.1,x.2.1,x.2.2.1.take k++x.2.2.1.drop (k+1),x.2.2.2)else none)):=by
  show _=_
  unfold makM;rw[zaj (by rw[hk];decide),zaj (by rw[hk];decide),zam hk,hkA,za5]
 have HPO0:=zaa (hPO.next T0);have P:=zaa (hPG.next T0);have HAP:=zaa hap;have hk0:(0:Int)<=(k:Int):=by omega
 have hkb:(k:Int)<=9223372036854775807:=by have:=pA.2;omega
 have hTB0:Below B w w0:=T0.mono hB;rw[hk]at cQ0;clear hk hkA ae hx;clear hw0 hsz0 h' hrd' hPO hPG hap T0 pK pT pF pL pR pV pS pA pB hD0
 go_enter Tryz.func28,zgd
 go_upto_region 1 with fail;rw[<-HW0.out];rw[HOP.out]at BP
 by_cases hlt:k<x.2.2.1.length
 rotate_left
 .have hge:x.2.2.1.length<=k:=by omega
  have HM:Hid (makM x s=none):=HM0.out.trans (by rw[zaj (by omega)]);have HBX:=zaa (q18 BZ (.bool false) (.int .i64 0) (.slice none 0 0) (.slice none 0 0) (.int .i64 0));have HTX:=zaa (BelO.of (u:=.slice A2 x.2.2.1.length r) (q10 (HT0.out) (g:=w.heap.size+1+1) (by omega) (.bool false) (.int .i64 0) (.slice none 0 0) (.slice none 0 0) (.int .i64 0)) hB);obtain⟨cZ0,cZ1,cZ2,cZ3,cZ4,fZ0,fZ1,fZ2,fZ3,fZ4⟩:=cf5 BZ;clear BZ BP BQ;go_wp2_with fail
  (try simp only[Exit.inBlock,Exit.then])
  refine zat (v:=.tuple #[.agg #[.bool false,.int .i64 0,.slice none 0 0,.slice none 0 0,.int .i64 0],.bool false]) ?hr rfl ?_
  case hr=>exact qn rfl _ _ (w.heap.size+1+1) 27 #[.bool false,.int .i64 0,.slice none 0 0,.slice none 0 0,.int .i64 0] (0,0) _ _ rfl HBX.out zbg rfl (by kernel_rfl) rfl
  exact⟨HTX.out,Or.inl ⟨HM.out,rfl⟩⟩
 .have hge:¬x.2.2.1.length<=k:=by omega
  have HM2:Hid (makM x s=some (true,x.2.1,(x.2.2.1.take k++x.2.2.1.drop (k+1)),x.2.2.2)):=HM0.out.trans (by rw[zam (by omega),HOP.out]);obtain⟨D,HWC⟩:∃wq:World,wq=w0:=⟨_,rfl⟩;subst HWC;obtain⟨t,rfl,hg2,hnc⟩:=q2o P.out.2.1 (by omega);obtain⟨ad,G,hadd⟩:∃ad:Addr,Hid ((if r=k+1 then some (⟨t,0,none⟩:Addr)else some ⟨t,(k+1)*4,none⟩)=some ad)/\(k+1<r->ad=⟨t,(k+1)*4,none⟩):=by
   by_cases hq:r=k+1
   .exact⟨_,zam hq,fun h=>absurd h (by omega)⟩
   .exact⟨_,zaj hq,fun _=>rfl⟩
  obtain⟨i0,hi0,-,hsz,-⟩:=info_parts q16;have hi1:(0:Int)<=(k:Int)+1:=by omega
  have hkc:k<=r:=by omega
  have hi2:(k:Int)+1<=(x.2.2.1.length:Int):=by omega
  have hw64:IntKind.i64.wrap ((k:Int)+1)=(k:Int)+1:=zck _ (by omega);have U:=P.out.1.all;have hl1:=P.out.1.l1;have HCE:=zaa (P.out.2.1.cells (g:=t) rfl);have hONE:=P.out.one
  have y:Hid ((∀u∈(n.take k).flatten,u.oneCell'=true)/\(∀u∈(n.drop (k+1)).flatten,u.oneCell'=true)):=⟨fun u hu=>by
   obtain⟨c,hc,hu⟩:=zbm.1 hu;exact hONE c (zbt hc) u hu,fun u hu=>by
   obtain⟨c,hc,hu⟩:=zbm.1 hu
   exact hONE c (zdt hc) u hu⟩
  have O:Hid (∀j v,(n.take k).flatten[j]?=some v->D.cell? ((⟨t,0,none⟩:Addr).add j)=some v):=fun j v z=>by
   refine HCE.out j v ?_;rw[<-qa6 (m:=4) U (by omega),zd3]at z
   split at z
   .exact z
   .cases z
  have T:Hid ((n.take k).flatten.length=k*4):=by
   show _=_
   rw[q3b (m:=4) fun c hc=>U c (zbt hc),za9,zef (by omega)]
  have Q:Hid ((n.drop (k+1)).flatten.length=(x.2.2.1.length - (k+1))*4):=by
   show _=_
   rw[q3b (m:=4) fun c hc=>U c (zdt hc),zct,hl1]
  have N:Hid (∀j v,(n.drop (k+1)).flatten[j]?=some v->D.cell? (ad.add j)=some v):=fun j v z=>by
   by_cases hlast:x.2.2.1.length=k+1
   .have hj:=(zag.1 z).1
    have:=Q.out;rw[this,hlast,zda,Nat.zero_mul]at hj;omega
   .rw[<-qe0 (m:=4) U (by omega),zds]at z
    have:=HCE.out _ v z;rw[hadd (by omega)];have e:(⟨t,(k+1)*4,none⟩:Addr).add j=(⟨t,0,none⟩:Addr).add ((k+1)*4+j):=by
     unfold Addr.add;rw[zaj (by omega:¬(k+1)*4+j=0)]
     split
     .simp;omega
     .simp
    rw[e];exact this
  have q:=zaa (zao A d);have M:=zaa BP;have HF:Hid (∀H E F,H.ownsRow D.heap.size 57 4 (.slice E (k+(x.2.2.1.length - (k+1))) F) (k+(x.2.2.1.length - (k+1))) ((n.take k).flatten++(n.drop (k+1)).flatten)->Below D.heap.size D H->∃A9' c9',Blk (H.setCell ⟨w.heap.size,3,none⟩ (.slice E (k+(x.2.2.1.length - (k+1))) F)) w.heap.size 27 #[.bool true,.int .i64 x.2.1.1,.slice A1 x.2.1.2.length c1,.slice A9' (k+(x.2.2.1.length - (k+1))) c9',.int .i64 x.2.2.2]/\LabD B (H.setCell ⟨w.heap.size,3,none⟩ (.slice E (k+(x.2.2.1.length - (k+1))) F)) (true,x.2.1,(x.2.2.1.take k++x.2.2.1.drop (k+1)),x.2.2.2) (.slice A1 x.2.1.2.length c1) (.slice A9' (k+(x.2.2.1.length - (k+1))) c9')/\BelO B (.slice (some ⟨t,0,none⟩) x.2.2.1.length r) w (H.setCell ⟨w.heap.size,3,none⟩ (.slice E (k+(x.2.2.1.length - (k+1))) F))/\Blk (H.setCell ⟨w.heap.size,3,none⟩ (.slice E (k+(x.2.2.1.length - (k+1))) F)) (w.heap.size+1+1) 27 #[.bool false,.int .i64 0,.slice none 0 0,.slice none 0 0,.int .i64 0]):=fun H E F hown hz=>by
   have PD:=P.out.del q4v rfl hlt hown hz (by omega);have BP9:=BP.next hz;refine⟨E,F,by simpa using BP9.set_ 3 (.slice E (k+(x.2.2.1.length - (k+1))) F),⟨css,bls,_,_,PO.setB (k:=3) (HPO0.out.next hz) BP9 (by decide) (by decide) _,PGf.setB (k:=3) PD BP9 (by decide) (by decide) _,fun b hb hm=>?_⟩,BelO.of ((q9 HT0.out hz rfl).setCell (p:=⟨w.heap.size,3,none⟩) (zad _) _) hB,(BZ.next hz).far (p:=⟨w.heap.size,3,none⟩) (by show _≠w.heap.size;omega) _⟩
   rcases zau.1 hm with hm|hm
   .exact q5x (HPO0.out.next hz) hown b hb hm
   .refine HAP.out b hb (zaz _ ?_)
    obtain⟨bk,h1,h2⟩:=zbm.1 hm;refine zbm.2 ⟨bk,?_,h2⟩
    rcases zau.1 h1 with h1|h1
    .exact zbt h1
    .exact zdt h1
  have f:Below D.heap.size D D:=zac _ _;have C:=BP;clear hONE U hl1 hadd;go_upto_region 25 with fail
  go_cut []from 93 to 107 (fun wx=>∃E F,Blk wx w.heap.size 27 #[.bool true,.int .i64 x.2.1.1,.slice A1 x.2.1.2.length c1,.slice E (k+(x.2.2.1.length - (k+1))) F,.int .i64 x.2.2.2]/\LabD B wx (true,x.2.1,(x.2.2.1.take k++x.2.2.1.drop (k+1)),x.2.2.2) (.slice A1 x.2.1.2.length c1) (.slice E (k+(x.2.2.1.length - (k+1))) F)/\BelO B (.slice (some ⟨t,0,none⟩) x.2.2.1.length r) w wx/\Blk wx (w.heap.size+1+1) 27 #[.bool false,.int .i64 0,.slice none 0 0,.slice none 0 0,.int .i64 0])
  case first=>
   refine zca (S:=fun w'=>w'.cell? ⟨w.heap.size+1,7,none⟩=some (.int .i64 (k:Int))) (by kernel_rfl) d (fun hHeld0=>?_);obtain⟨l,Hwt1⟩:∃x,Hid (x=World.drew D):=⟨_,rfl⟩;have R:Below D.heap.size D l:=by rw[Hwt1.out];exact(zac _ _).drew
   rw[<-Hwt1.out]at hHeld0⊢;have ywt1:=R.size;replace A:=qe R A;replace f:=q9 f R rfl;replace d:=qe R d;refine tp 1 (.pointer (some ⟨w.heap.size,3,none⟩)) rfl ?_;refine tp 3 (.pointer (some ⟨w.heap.size+1,7,none⟩)) rfl ?_;refine tk 4 (.int .i64 (k:Int)) rfl (.inl ⟨by kernel_rfl,fun wv hSw=>by(have hS0:=hSw);go_simp⟩) ?_;refine tp 7 (.pointer (some ⟨w.heap.size,3,none⟩)) rfl ?_;refine tp 9 (.pointer (some ⟨w.heap.size+1,7,none⟩)) rfl ?_;refine tk 10 (.int .i64 (k:Int)) rfl (.inl ⟨by kernel_rfl,fun wv hSw=>by(have hS0:=hSw);go_simp⟩) ?_;refine tp 11 (.int .i64 ((k:Int)+1)) rfl ?_
   (try simp only[Act.put,zA,zB,zC,zD,zE,zF])
   refine ze5 (rs:= [0,2,8]) (by kernel_rfl) (by simp) ?_;refine(zgc rfl (fun K hK=>?_) (zgc rfl (fun K hK=>?_) (zgc rfl (fun K hK=>?_) AllReadyH.nil)))
   .go_simp
    obtain⟨V,Hwt2⟩:∃x,Hid (x=l.alloc (.cells #[] 57)):=⟨_,zaa rfl⟩;rw[<-Hwt2.out];have Y:Below l.heap.size l V:=by rw[Hwt2.out];exact qm _ _
    have Bwt2:Blk V l.heap.size 57 #[]:=by rw[Hwt2.out];exact Blk.new _ _ _
    replace A:=qe Y A;replace f:=q9 f Y rfl;replace d:=qe Y d;refine hK.out _ _ d (fun hHeld1=>?_);clear hK K hHeld0
    (try simp only[Act.put,zA,zB,zC,zD,zE,zF])
    refine r2 2 8 rfl (fun K hK=>?_) rfl (fun K hK=>?_)
    .go_simp
     refine hK.out _ _ d (fun hHeld2=>?_);clear hK K hHeld1;refine tp 5 (.slice (some ⟨t,0,none⟩) k r) rfl ?_
     (try simp only[Act.put,zA,zB,zC,zD,zE,zF])
     refine r2 6 8 rfl (fun K hK=>?_) rfl (fun K hK=>?_)
     .have I:V.ownsRow D.heap.size 57 4 (.slice (some ⟨l.heap.size,0,none⟩) 0 0) 0 []:=q4a Bwt2 (by omega)
      refine q25 V rfl (.tmp 93) (.tmp 98) 25 57 rfl (.agg #[.int .i64 0,.slice none 0 0,.slice none 0 0,.slice none 0 0]) 4 80 zbx q16 rfl (by decide) (by decide) D.heap.size 0 0 (some ⟨l.heap.size,0,none⟩) [] (by rfl) I ⟨t,0,none⟩ k r (n.take k).flatten (by rfl) T.out (fun j v z=>qe f (O.out j v z)) (y.out.1) (by omega) (by exact f.size) ?_;intro W X w8 i ab J;simp only[zcn,zch]at i⊢;replace f:=f.trans J;replace A:=qe f q.out.1;replace d:=qe f q.out.2;refine hK.out _ _ d (fun hHeld3=>?_);clear hK K hHeld2
      (try simp only[Act.put,zA,zB,zC,zD,zE,zF])
      refine r1 8 rfl (fun K hK=>?_);go_simp;refine hK.out _ _ d (fun hHeld4=>?_);clear hK K hHeld3;refine tp 12 (.slice (if r=k+1 then some (⟨t,0,none⟩:Addr)else some ⟨t,(k+1)*4,none⟩) (x.2.2.1.length - (k+1)) (r - (k+1))) rfl ?_
      (try simp only[Act.put,zA,zB,zC,zD,zE,zF])
      refine r1 13 rfl (fun K hK=>?_);refine q25 w8 rfl (.tmp 99) (.tmp 105) 25 57 rfl (.agg #[.int .i64 0,.slice none 0 0,.slice none 0 0,.slice none 0 0]) 4 80 zbx q16 rfl (by decide) (by decide) D.heap.size k X W (n.take k).flatten (by rfl) i ad (x.2.2.1.length - (k+1)) (r - (k+1)) (n.drop (k+1)).flatten (by show Value.slice (if r=k+1 then some (⟨t,0,none⟩:Addr)else some ⟨t,(k+1)*4,none⟩) _ _=_;rw[G.out]) Q.out (fun j v z=>qe f (N.out j v z)) (y.out.2) (by omega) (by exact f.size) ?_;intro E F H o ac L;replace f:=f.trans L;replace A:=qe f q.out.1;replace d:=qe f q.out.2;replace C:=M.out.next f;refine hK.out _ _ d (fun hHeld5=>?_);clear hK K hHeld4;refine tp 14 (.pointer (some ⟨w.heap.size,3,none⟩)) rfl ?_
      (try simp only[Act.put,zA,zB,zC,zD,zE,zF])
      refine r1 15 rfl (fun K hK=>?_);have fO:=C.frozen 3;go_simp;replace d:=(zb6 (w:=H) (w':=H.setCell ⟨w.heap.size,3,none⟩ (.slice E (k+(x.2.2.1.length - (k+1))) F)) (a:=⟨w.heap.size+1,7,none⟩) (za8 _ ⟨w.heap.size,3,none⟩ _ _ (by show w.heap.size+1≠w.heap.size;omega))).trans d;refine hK.out _ _ d (fun hHeld6=>?_);clear hK K hHeld5
      (try simp only[Act.put,zA,zB,zC,zD,zE,zF])
      refine zcf (by kernel_rfl) ?_ _;rw[G.out];go_wp2_with fail;go_meet;exact HF.out _ _ _ o f
     .go_simp
      refine hK.out _ _ d (fun hHeld3=>?_);clear hK K hHeld2;refine tp 12 (.slice (if r=k+1 then some (⟨t,0,none⟩:Addr)else some ⟨t,(k+1)*4,none⟩) (x.2.2.1.length - (k+1)) (r - (k+1))) rfl ?_
      (try simp only[Act.put,zA,zB,zC,zD,zE,zF])
      refine r1 6 rfl (fun K hK=>?_);have I:V.ownsRow D.heap.size 57 4 (.slice (some ⟨l.heap.size,0,none⟩) 0 0) 0 []:=q4a Bwt2 (by omega);refine q25 V rfl (.tmp 93) (.tmp 98) 25 57 rfl (.agg #[.int .i64 0,.slice none 0 0,.slice none 0 0,.slice none 0 0]) 4 80 zbx q16 rfl (by decide) (by decide) D.heap.size 0 0 (some ⟨l.heap.size,0,none⟩) [] (by rfl) I ⟨t,0,none⟩ k r (n.take k).flatten (by rfl) T.out (fun j v z=>qe f (O.out j v z)) (y.out.1) (by omega) (by exact f.size) ?_;intro W X w8 i ab J;simp only[zcn,zch]at i⊢;replace f:=f.trans J;replace d:=qe f q.out.2;refine hK.out _ _ d (fun hHeld4=>?_);clear hK K hHeld3
      (try simp only[Act.put,zA,zB,zC,zD,zE,zF])
      refine r1 13 rfl (fun K hK=>?_);refine q25 w8 rfl (.tmp 99) (.tmp 105) 25 57 rfl (.agg #[.int .i64 0,.slice none 0 0,.slice none 0 0,.slice none 0 0]) 4 80 zbx q16 rfl (by decide) (by decide) D.heap.size k X W (n.take k).flatten (by rfl) i ad (x.2.2.1.length - (k+1)) (r - (k+1)) (n.drop (k+1)).flatten (by show Value.slice (if r=k+1 then some (⟨t,0,none⟩:Addr)else some ⟨t,(k+1)*4,none⟩) _ _=_;rw[G.out]) Q.out (fun j v z=>qe f (N.out j v z)) (y.out.2) (by omega) (by exact f.size) ?_;intro E F H o ac L;replace f:=f.trans L;replace A:=qe f q.out.1;replace d:=qe f q.out.2;replace C:=M.out.next f;refine hK.out _ _ d (fun hHeld5=>?_);clear hK K hHeld4;refine tp 14 (.pointer (some ⟨w.heap.size,3,none⟩)) rfl ?_
      (try simp only[Act.put,zA,zB,zC,zD,zE,zF])
      refine r1 15 rfl (fun K hK=>?_);have fO:=C.frozen 3;go_simp;replace d:=(zb6 (w:=H) (w':=H.setCell ⟨w.heap.size,3,none⟩ (.slice E (k+(x.2.2.1.length - (k+1))) F)) (a:=⟨w.heap.size+1,7,none⟩) (za8 _ ⟨w.heap.size,3,none⟩ _ _ (by show w.heap.size+1≠w.heap.size;omega))).trans d;refine hK.out _ _ d (fun hHeld6=>?_);clear hK K hHeld5
      (try simp only[Act.put,zA,zB,zC,zD,zE,zF])
      refine zcf (by kernel_rfl) ?_ _;rw[G.out];go_wp2_with fail;go_meet;exact HF.out _ _ _ o f
    .go_simp
     refine hK.out _ _ d (fun hHeld2=>?_);clear hK K hHeld1;refine tp 12 (.slice (if r=k+1 then some (⟨t,0,none⟩:Addr)else some ⟨t,(k+1)*4,none⟩) (x.2.2.1.length - (k+1)) (r - (k+1))) rfl ?_
     (try simp only[Act.put,zA,zB,zC,zD,zE,zF])
     refine r1 2 rfl (fun K hK=>?_);go_simp;refine hK.out _ _ d (fun hHeld3=>?_);clear hK K hHeld2;refine tp 5 (.slice (some ⟨t,0,none⟩) k r) rfl ?_
     (try simp only[Act.put,zA,zB,zC,zD,zE,zF])
     refine r1 6 rfl (fun K hK=>?_);have I:V.ownsRow D.heap.size 57 4 (.slice (some ⟨l.heap.size,0,none⟩) 0 0) 0 []:=q4a Bwt2 (by omega);refine q25 V rfl (.tmp 93) (.tmp 98) 25 57 rfl (.agg #[.int .i64 0,.slice none 0 0,.slice none 0 0,.slice none 0 0]) 4 80 zbx q16 rfl (by decide) (by decide) D.heap.size 0 0 (some ⟨l.heap.size,0,none⟩) [] (by rfl) I ⟨t,0,none⟩ k r (n.take k).flatten (by rfl) T.out (fun j v z=>qe f (O.out j v z)) (y.out.1) (by omega) (by exact f.size) ?_;intro W X w8 i ab J;simp only[zcn,zch]at i⊢;replace f:=f.trans J;replace d:=qe f q.out.2;refine hK.out _ _ d (fun hHeld4=>?_);clear hK K hHeld3
     (try simp only[Act.put,zA,zB,zC,zD,zE,zF])
     refine r1 13 rfl (fun K hK=>?_);refine q25 w8 rfl (.tmp 99) (.tmp 105) 25 57 rfl (.agg #[.int .i64 0,.slice none 0 0,.slice none 0 0,.slice none 0 0]) 4 80 zbx q16 rfl (by decide) (by decide) D.heap.size k X W (n.take k).flatten (by rfl) i ad (x.2.2.1.length - (k+1)) (r - (k+1)) (n.drop (k+1)).flatten (by show Value.slice (if r=k+1 then some (⟨t,0,none⟩:Addr)else some ⟨t,(k+1)*4,none⟩) _ _=_;rw[G.out]) Q.out (fun j v z=>qe f (N.out j v z)) (y.out.2) (by omega) (by exact f.size) ?_;intro E F H o ac L;replace f:=f.trans L;replace A:=qe f q.out.1;replace d:=qe f q.out.2;replace C:=M.out.next f;refine hK.out _ _ d (fun hHeld5=>?_);clear hK K hHeld4;refine tp 14 (.pointer (some ⟨w.heap.size,3,none⟩)) rfl ?_
     (try simp only[Act.put,zA,zB,zC,zD,zE,zF])
     refine r1 15 rfl (fun K hK=>?_);have fO:=C.frozen 3;go_simp;replace d:=(zb6 (w:=H) (w':=H.setCell ⟨w.heap.size,3,none⟩ (.slice E (k+(x.2.2.1.length - (k+1))) F)) (a:=⟨w.heap.size+1,7,none⟩) (za8 _ ⟨w.heap.size,3,none⟩ _ _ (by show w.heap.size+1≠w.heap.size;omega))).trans d;refine hK.out _ _ d (fun hHeld6=>?_);clear hK K hHeld5
     (try simp only[Act.put,zA,zB,zC,zD,zE,zF])
     refine zcf (by kernel_rfl) ?_ _;rw[G.out];go_wp2_with fail;go_meet;exact HF.out _ _ _ o f
   .go_simp
    refine hK.out _ _ d (fun hHeld1=>?_);clear hK K hHeld0;refine tp 5 (.slice (some ⟨t,0,none⟩) k r) rfl ?_
    (try simp only[Act.put,zA,zB,zC,zD,zE,zF])
    refine r2 0 8 rfl (fun K hK=>?_) rfl (fun K hK=>?_)
    .go_simp
     obtain⟨wt3,Hwt3⟩:∃x,Hid (x=l.alloc (.cells #[] 57)):=⟨_,zaa rfl⟩;rw[<-Hwt3.out];have Z:Below l.heap.size l wt3:=by rw[Hwt3.out];exact qm _ _
     have Bwt3:Blk wt3 l.heap.size 57 #[]:=by rw[Hwt3.out];exact Blk.new _ _ _
     replace A:=qe Z A;replace f:=q9 f Z rfl;replace d:=qe Z d;refine hK.out _ _ d (fun hHeld2=>?_);clear hK K hHeld1
     (try simp only[Act.put,zA,zB,zC,zD,zE,zF])
     refine r2 6 8 rfl (fun K hK=>?_) rfl (fun K hK=>?_)
     .have I:wt3.ownsRow D.heap.size 57 4 (.slice (some ⟨l.heap.size,0,none⟩) 0 0) 0 []:=q4a Bwt3 (by omega)
      refine q25 wt3 rfl (.tmp 93) (.tmp 98) 25 57 rfl (.agg #[.int .i64 0,.slice none 0 0,.slice none 0 0,.slice none 0 0]) 4 80 zbx q16 rfl (by decide) (by decide) D.heap.size 0 0 (some ⟨l.heap.size,0,none⟩) [] (by rfl) I ⟨t,0,none⟩ k r (n.take k).flatten (by rfl) T.out (fun j v z=>qe f (O.out j v z)) (y.out.1) (by omega) (by exact f.size) ?_;intro W X w8 i ab J;simp only[zcn,zch]at i⊢;replace f:=f.trans J;replace A:=qe f q.out.1;replace d:=qe f q.out.2;refine hK.out _ _ d (fun hHeld3=>?_);clear hK K hHeld2
      (try simp only[Act.put,zA,zB,zC,zD,zE,zF])
      refine r1 8 rfl (fun K hK=>?_);go_simp;refine hK.out _ _ d (fun hHeld4=>?_);clear hK K hHeld3;refine tp 12 (.slice (if r=k+1 then some (⟨t,0,none⟩:Addr)else some ⟨t,(k+1)*4,none⟩) (x.2.2.1.length - (k+1)) (r - (k+1))) rfl ?_
      (try simp only[Act.put,zA,zB,zC,zD,zE,zF])
      refine r1 13 rfl (fun K hK=>?_);refine q25 w8 rfl (.tmp 99) (.tmp 105) 25 57 rfl (.agg #[.int .i64 0,.slice none 0 0,.slice none 0 0,.slice none 0 0]) 4 80 zbx q16 rfl (by decide) (by decide) D.heap.size k X W (n.take k).flatten (by rfl) i ad (x.2.2.1.length - (k+1)) (r - (k+1)) (n.drop (k+1)).flatten (by show Value.slice (if r=k+1 then some (⟨t,0,none⟩:Addr)else some ⟨t,(k+1)*4,none⟩) _ _=_;rw[G.out]) Q.out (fun j v z=>qe f (N.out j v z)) (y.out.2) (by omega) (by exact f.size) ?_;intro E F H o ac L;replace f:=f.trans L;replace A:=qe f q.out.1;replace d:=qe f q.out.2;replace C:=M.out.next f;refine hK.out _ _ d (fun hHeld5=>?_);clear hK K hHeld4;refine tp 14 (.pointer (some ⟨w.heap.size,3,none⟩)) rfl ?_
      (try simp only[Act.put,zA,zB,zC,zD,zE,zF])
      refine r1 15 rfl (fun K hK=>?_);have fO:=C.frozen 3;go_simp;replace d:=(zb6 (w:=H) (w':=H.setCell ⟨w.heap.size,3,none⟩ (.slice E (k+(x.2.2.1.length - (k+1))) F)) (a:=⟨w.heap.size+1,7,none⟩) (za8 _ ⟨w.heap.size,3,none⟩ _ _ (by show w.heap.size+1≠w.heap.size;omega))).trans d;refine hK.out _ _ d (fun hHeld6=>?_);clear hK K hHeld5
      (try simp only[Act.put,zA,zB,zC,zD,zE,zF])
      refine zcf (by kernel_rfl) ?_ _;rw[G.out];go_wp2_with fail;go_meet;exact HF.out _ _ _ o f
     .go_simp
      refine hK.out _ _ d (fun hHeld3=>?_);clear hK K hHeld2;refine tp 12 (.slice (if r=k+1 then some (⟨t,0,none⟩:Addr)else some ⟨t,(k+1)*4,none⟩) (x.2.2.1.length - (k+1)) (r - (k+1))) rfl ?_
      (try simp only[Act.put,zA,zB,zC,zD,zE,zF])
      refine r1 6 rfl (fun K hK=>?_);have I:wt3.ownsRow D.heap.size 57 4 (.slice (some ⟨l.heap.size,0,none⟩) 0 0) 0 []:=q4a Bwt3 (by omega);refine q25 wt3 rfl (.tmp 93) (.tmp 98) 25 57 rfl (.agg #[.int .i64 0,.slice none 0 0,.slice none 0 0,.slice none 0 0]) 4 80 zbx q16 rfl (by decide) (by decide) D.heap.size 0 0 (some ⟨l.heap.size,0,none⟩) [] (by rfl) I ⟨t,0,none⟩ k r (n.take k).flatten (by rfl) T.out (fun j v z=>qe f (O.out j v z)) (y.out.1) (by omega) (by exact f.size) ?_;intro W X w8 i ab J;simp only[zcn,zch]at i⊢;replace f:=f.trans J;replace d:=qe f q.out.2;refine hK.out _ _ d (fun hHeld4=>?_);clear hK K hHeld3
      (try simp only[Act.put,zA,zB,zC,zD,zE,zF])
      refine r1 13 rfl (fun K hK=>?_);refine q25 w8 rfl (.tmp 99) (.tmp 105) 25 57 rfl (.agg #[.int .i64 0,.slice none 0 0,.slice none 0 0,.slice none 0 0]) 4 80 zbx q16 rfl (by decide) (by decide) D.heap.size k X W (n.take k).flatten (by rfl) i ad (x.2.2.1.length - (k+1)) (r - (k+1)) (n.drop (k+1)).flatten (by show Value.slice (if r=k+1 then some (⟨t,0,none⟩:Addr)else some ⟨t,(k+1)*4,none⟩) _ _=_;rw[G.out]) Q.out (fun j v z=>qe f (N.out j v z)) (y.out.2) (by omega) (by exact f.size) ?_;intro E F H o ac L;replace f:=f.trans L;replace A:=qe f q.out.1;replace d:=qe f q.out.2;replace C:=M.out.next f;refine hK.out _ _ d (fun hHeld5=>?_);clear hK K hHeld4;refine tp 14 (.pointer (some ⟨w.heap.size,3,none⟩)) rfl ?_
      (try simp only[Act.put,zA,zB,zC,zD,zE,zF])
      refine r1 15 rfl (fun K hK=>?_);have fO:=C.frozen 3;go_simp;replace d:=(zb6 (w:=H) (w':=H.setCell ⟨w.heap.size,3,none⟩ (.slice E (k+(x.2.2.1.length - (k+1))) F)) (a:=⟨w.heap.size+1,7,none⟩) (za8 _ ⟨w.heap.size,3,none⟩ _ _ (by show w.heap.size+1≠w.heap.size;omega))).trans d;refine hK.out _ _ d (fun hHeld6=>?_);clear hK K hHeld5
      (try simp only[Act.put,zA,zB,zC,zD,zE,zF])
      refine zcf (by kernel_rfl) ?_ _;rw[G.out];go_wp2_with fail;go_meet;exact HF.out _ _ _ o f
    .go_simp
     refine hK.out _ _ d (fun hHeld2=>?_);clear hK K hHeld1;refine tp 12 (.slice (if r=k+1 then some (⟨t,0,none⟩:Addr)else some ⟨t,(k+1)*4,none⟩) (x.2.2.1.length - (k+1)) (r - (k+1))) rfl ?_
     (try simp only[Act.put,zA,zB,zC,zD,zE,zF])
     refine r1 0 rfl (fun K hK=>?_);go_simp;obtain⟨wt4,Hwt4⟩:∃x,Hid (x=l.alloc (.cells #[] 57)):=⟨_,zaa rfl⟩;rw[<-Hwt4.out];have hbwt4:Below l.heap.size l wt4:=by rw[Hwt4.out];exact qm _ _
     have Bwt4:Blk wt4 l.heap.size 57 #[]:=by rw[Hwt4.out];exact Blk.new _ _ _
     replace f:=q9 f hbwt4 rfl;replace d:=qe hbwt4 d;refine hK.out _ _ d (fun hHeld3=>?_);clear hK K hHeld2
     (try simp only[Act.put,zA,zB,zC,zD,zE,zF])
     refine r1 6 rfl (fun K hK=>?_);have I:wt4.ownsRow D.heap.size 57 4 (.slice (some ⟨l.heap.size,0,none⟩) 0 0) 0 []:=q4a Bwt4 (by omega);refine q25 wt4 rfl (.tmp 93) (.tmp 98) 25 57 rfl (.agg #[.int .i64 0,.slice none 0 0,.slice none 0 0,.slice none 0 0]) 4 80 zbx q16 rfl (by decide) (by decide) D.heap.size 0 0 (some ⟨l.heap.size,0,none⟩) [] (by rfl) I ⟨t,0,none⟩ k r (n.take k).flatten (by rfl) T.out (fun j v z=>qe f (O.out j v z)) (y.out.1) (by omega) (by exact f.size) ?_;intro W X w8 i ab J;simp only[zcn,zch]at i⊢;replace f:=f.trans J;replace d:=qe f q.out.2;refine hK.out _ _ d (fun hHeld4=>?_);clear hK K hHeld3
     (try simp only[Act.put,zA,zB,zC,zD,zE,zF])
     refine r1 13 rfl (fun K hK=>?_);refine q25 w8 rfl (.tmp 99) (.tmp 105) 25 57 rfl (.agg #[.int .i64 0,.slice none 0 0,.slice none 0 0,.slice none 0 0]) 4 80 zbx q16 rfl (by decide) (by decide) D.heap.size k X W (n.take k).flatten (by rfl) i ad (x.2.2.1.length - (k+1)) (r - (k+1)) (n.drop (k+1)).flatten (by show Value.slice (if r=k+1 then some (⟨t,0,none⟩:Addr)else some ⟨t,(k+1)*4,none⟩) _ _=_;rw[G.out]) Q.out (fun j v z=>qe f (N.out j v z)) (y.out.2) (by omega) (by exact f.size) ?_;intro E F H o ac L;replace f:=f.trans L;replace A:=qe f q.out.1;replace d:=qe f q.out.2;replace C:=M.out.next f;refine hK.out _ _ d (fun hHeld5=>?_);clear hK K hHeld4;refine tp 14 (.pointer (some ⟨w.heap.size,3,none⟩)) rfl ?_
     (try simp only[Act.put,zA,zB,zC,zD,zE,zF])
     refine r1 15 rfl (fun K hK=>?_);have fO:=C.frozen 3;go_simp;replace d:=(zb6 (w:=H) (w':=H.setCell ⟨w.heap.size,3,none⟩ (.slice E (k+(x.2.2.1.length - (k+1))) F)) (a:=⟨w.heap.size+1,7,none⟩) (za8 _ ⟨w.heap.size,3,none⟩ _ _ (by show w.heap.size+1≠w.heap.size;omega))).trans d;refine hK.out _ _ d (fun hHeld6=>?_);clear hK K hHeld5
     (try simp only[Act.put,zA,zB,zC,zD,zE,zF])
     refine zcf (by kernel_rfl) ?_ _;rw[G.out];go_wp2_with fail;go_meet;exact HF.out _ _ _ o f
   .go_simp
    refine hK.out _ _ d (fun hHeld1=>?_);clear hK K hHeld0;refine tp 12 (.slice (if r=k+1 then some (⟨t,0,none⟩:Addr)else some ⟨t,(k+1)*4,none⟩) (x.2.2.1.length - (k+1)) (r - (k+1))) rfl ?_
    (try simp only[Act.put,zA,zB,zC,zD,zE,zF])
    refine r2 0 2 rfl (fun K hK=>?_) rfl (fun K hK=>?_)
    .go_simp
     obtain⟨wt5,Hwt5⟩:∃x,Hid (x=l.alloc (.cells #[] 57)):=⟨_,zaa rfl⟩;rw[<-Hwt5.out];have aa:Below l.heap.size l wt5:=by rw[Hwt5.out];exact qm _ _
     have Bwt5:Blk wt5 l.heap.size 57 #[]:=by rw[Hwt5.out];exact Blk.new _ _ _
     replace A:=qe aa A;replace f:=q9 f aa rfl;replace d:=qe aa d;refine hK.out _ _ d (fun hHeld2=>?_);clear hK K hHeld1
     (try simp only[Act.put,zA,zB,zC,zD,zE,zF])
     refine r1 2 rfl (fun K hK=>?_);go_simp;refine hK.out _ _ d (fun hHeld3=>?_);clear hK K hHeld2;refine tp 5 (.slice (some ⟨t,0,none⟩) k r) rfl ?_
     (try simp only[Act.put,zA,zB,zC,zD,zE,zF])
     refine r1 6 rfl (fun K hK=>?_);have I:wt5.ownsRow D.heap.size 57 4 (.slice (some ⟨l.heap.size,0,none⟩) 0 0) 0 []:=q4a Bwt5 (by omega);refine q25 wt5 rfl (.tmp 93) (.tmp 98) 25 57 rfl (.agg #[.int .i64 0,.slice none 0 0,.slice none 0 0,.slice none 0 0]) 4 80 zbx q16 rfl (by decide) (by decide) D.heap.size 0 0 (some ⟨l.heap.size,0,none⟩) [] (by rfl) I ⟨t,0,none⟩ k r (n.take k).flatten (by rfl) T.out (fun j v z=>qe f (O.out j v z)) (y.out.1) (by omega) (by exact f.size) ?_;intro W X w8 i ab J;simp only[zcn,zch]at i⊢;replace f:=f.trans J;replace d:=qe f q.out.2;refine hK.out _ _ d (fun hHeld4=>?_);clear hK K hHeld3
     (try simp only[Act.put,zA,zB,zC,zD,zE,zF])
     refine r1 13 rfl (fun K hK=>?_);refine q25 w8 rfl (.tmp 99) (.tmp 105) 25 57 rfl (.agg #[.int .i64 0,.slice none 0 0,.slice none 0 0,.slice none 0 0]) 4 80 zbx q16 rfl (by decide) (by decide) D.heap.size k X W (n.take k).flatten (by rfl) i ad (x.2.2.1.length - (k+1)) (r - (k+1)) (n.drop (k+1)).flatten (by show Value.slice (if r=k+1 then some (⟨t,0,none⟩:Addr)else some ⟨t,(k+1)*4,none⟩) _ _=_;rw[G.out]) Q.out (fun j v z=>qe f (N.out j v z)) (y.out.2) (by omega) (by exact f.size) ?_;intro E F H o ac L;replace f:=f.trans L;replace A:=qe f q.out.1;replace d:=qe f q.out.2;replace C:=M.out.next f;refine hK.out _ _ d (fun hHeld5=>?_);clear hK K hHeld4;refine tp 14 (.pointer (some ⟨w.heap.size,3,none⟩)) rfl ?_
     (try simp only[Act.put,zA,zB,zC,zD,zE,zF])
     refine r1 15 rfl (fun K hK=>?_);have fO:=C.frozen 3;go_simp;replace d:=(zb6 (w:=H) (w':=H.setCell ⟨w.heap.size,3,none⟩ (.slice E (k+(x.2.2.1.length - (k+1))) F)) (a:=⟨w.heap.size+1,7,none⟩) (za8 _ ⟨w.heap.size,3,none⟩ _ _ (by show w.heap.size+1≠w.heap.size;omega))).trans d;refine hK.out _ _ d (fun hHeld6=>?_);clear hK K hHeld5
     (try simp only[Act.put,zA,zB,zC,zD,zE,zF])
     refine zcf (by kernel_rfl) ?_ _;rw[G.out];go_wp2_with fail;go_meet;exact HF.out _ _ _ o f
    .go_simp
     refine hK.out _ _ d (fun hHeld2=>?_);clear hK K hHeld1;refine tp 5 (.slice (some ⟨t,0,none⟩) k r) rfl ?_
     (try simp only[Act.put,zA,zB,zC,zD,zE,zF])
     refine r1 0 rfl (fun K hK=>?_);go_simp;obtain⟨wt6,Hwt6⟩:∃x,Hid (x=l.alloc (.cells #[] 57)):=⟨_,zaa rfl⟩;rw[<-Hwt6.out];have hbwt6:Below l.heap.size l wt6:=by rw[Hwt6.out];exact qm _ _
     have Bwt6:Blk wt6 l.heap.size 57 #[]:=by rw[Hwt6.out];exact Blk.new _ _ _
     replace f:=q9 f hbwt6 rfl;replace d:=qe hbwt6 d;refine hK.out _ _ d (fun hHeld3=>?_);clear hK K hHeld2
     (try simp only[Act.put,zA,zB,zC,zD,zE,zF])
     refine r1 6 rfl (fun K hK=>?_);have I:wt6.ownsRow D.heap.size 57 4 (.slice (some ⟨l.heap.size,0,none⟩) 0 0) 0 []:=q4a Bwt6 (by omega);refine q25 wt6 rfl (.tmp 93) (.tmp 98) 25 57 rfl (.agg #[.int .i64 0,.slice none 0 0,.slice none 0 0,.slice none 0 0]) 4 80 zbx q16 rfl (by decide) (by decide) D.heap.size 0 0 (some ⟨l.heap.size,0,none⟩) [] (by rfl) I ⟨t,0,none⟩ k r (n.take k).flatten (by rfl) T.out (fun j v z=>qe f (O.out j v z)) (y.out.1) (by omega) (by exact f.size) ?_;intro W X w8 i ab J;simp only[zcn,zch]at i⊢;replace f:=f.trans J;replace d:=qe f q.out.2;refine hK.out _ _ d (fun hHeld4=>?_);clear hK K hHeld3
     (try simp only[Act.put,zA,zB,zC,zD,zE,zF])
     refine r1 13 rfl (fun K hK=>?_);refine q25 w8 rfl (.tmp 99) (.tmp 105) 25 57 rfl (.agg #[.int .i64 0,.slice none 0 0,.slice none 0 0,.slice none 0 0]) 4 80 zbx q16 rfl (by decide) (by decide) D.heap.size k X W (n.take k).flatten (by rfl) i ad (x.2.2.1.length - (k+1)) (r - (k+1)) (n.drop (k+1)).flatten (by show Value.slice (if r=k+1 then some (⟨t,0,none⟩:Addr)else some ⟨t,(k+1)*4,none⟩) _ _=_;rw[G.out]) Q.out (fun j v z=>qe f (N.out j v z)) (y.out.2) (by omega) (by exact f.size) ?_;intro E F H o ac L;replace f:=f.trans L;replace A:=qe f q.out.1;replace d:=qe f q.out.2;replace C:=M.out.next f;refine hK.out _ _ d (fun hHeld5=>?_);clear hK K hHeld4;refine tp 14 (.pointer (some ⟨w.heap.size,3,none⟩)) rfl ?_
     (try simp only[Act.put,zA,zB,zC,zD,zE,zF])
     refine r1 15 rfl (fun K hK=>?_);have fO:=C.frozen 3;go_simp;replace d:=(zb6 (w:=H) (w':=H.setCell ⟨w.heap.size,3,none⟩ (.slice E (k+(x.2.2.1.length - (k+1))) F)) (a:=⟨w.heap.size+1,7,none⟩) (za8 _ ⟨w.heap.size,3,none⟩ _ _ (by show w.heap.size+1≠w.heap.size;omega))).trans d;refine hK.out _ _ d (fun hHeld6=>?_);clear hK K hHeld5
     (try simp only[Act.put,zA,zB,zC,zD,zE,zF])
     refine zcf (by kernel_rfl) ?_ _;rw[G.out];go_wp2_with fail;go_meet;exact HF.out _ _ _ o f
  case rest=>
   obtain⟨E,F,BP9,hD9,T9,BZ9⟩:=hcut;obtain⟨H,HWC⟩:∃wq:World,wq=wc:=⟨_,rfl⟩;subst HWC;have HOK:Hid ((decide (((x.2.2.1.take k++x.2.2.1.drop (k+1)).length:Int)<=12) &&decide (x.2.2.2<=9999))=true):=by show _=_;rw[zbh hr.2,zbh (by rw[zbs,za9,zct];omega)];rfl
   have HLX:=zaa (hD9.set5 BZ9 (.bool true) (.int .i64 x.2.1.1) (.slice A1 x.2.1.2.length c1) (.slice E (k+(x.2.2.1.length - (k+1))) F) (.int .i64 x.2.2.2));have HBX:=zaa (q18 BZ9 (.bool true) (.int .i64 x.2.1.1) (.slice A1 x.2.1.2.length c1) (.slice E (k+(x.2.2.1.length - (k+1))) F) (.int .i64 x.2.2.2));have HTX:=zaa (BelO.set5 T9 (g:=w.heap.size+1+1) (by omega) hB (.bool true) (.int .i64 x.2.1.1) (.slice A1 x.2.1.2.length c1) (.slice E (k+(x.2.2.1.length - (k+1))) F) (.int .i64 x.2.2.2));obtain⟨cA0,cA1,cA2,cA3,cA4⟩:=cl5 BP9;obtain⟨cZ0,cZ1,cZ2,cZ3,cZ4,fZ0,fZ1,fZ2,fZ3,fZ4⟩:=cf5 BZ9;clear hD9 T9 BP9 BZ9 C f;go_wp2_with fail
   (try simp only[Exit.inBlock,Exit.then])
   refine zat (v:=.tuple #[.agg #[.bool true,.int .i64 x.2.1.1,.slice A1 x.2.1.2.length c1,.slice E (k+(x.2.2.1.length - (k+1))) F,.int .i64 x.2.2.2],.bool true]) ?hr rfl ?_
   case hr=>exact qn rfl _ _ (w.heap.size+1+1) 27 #[.bool true,.int .i64 x.2.1.1,.slice A1 x.2.1.2.length c1,.slice E (k+(x.2.2.1.length - (k+1))) F,.int .i64 x.2.2.2] (0,0) _ _ rfl HBX.out zbg rfl (by kernel_rfl) rfl
   refine⟨HTX.out,zew ⟨(true,x.2.1,(x.2.2.1.take k++x.2.2.1.drop (k+1)),x.2.2.2),.slice A1 x.2.1.2.length c1,.slice E (k+(x.2.2.1.length - (k+1))) F,HM2.out,?_,HLX.out⟩⟩;show _=Ending.returned (.tuple #[_,.bool (decide (((x.2.2.1.take k++x.2.2.1.drop (k+1)).length:Int)<=12) &&decide (x.2.2.2<=9999))])
   rw[HOK.out]
theorem qo1 (B:Nat) (ds:List Value) (x:LabM) (s:qq) (w:World) (v u:Value) (hB:B<=w.heap.size) (X:LabD B w x v u) (M:World) (hwa:Below M.heap.size M w) (haB:M.heap.size<=B) (h':qh.rd M ds s) (t:x.1=true) (hx:AlgP x.2.1) (hln:x.2.2.1.length<=12) (hr:0<=x.2.2.2/\x.2.2.2<=9999) (htr:∀f∈x.2.2.1,q1c x.2.1 f=true) (hcf:∀f∈x.2.2.1,qj.cnt f<=1048576) (Y:s.1=6):
  Calls Tryz.prog 28 #[.agg #[.bool x.1,.int .i64 x.2.1.1,v,u,.int .i64 x.2.2.2],.agg ds.toArray] w (LmE B u w x s):=by
 have hrd':=h';have hD0:=X;obtain⟨AL,nL,cL,AR,nR,cR,AV,nV,cV,O,U,V,rfl,pK,pT,pF,pL,pR,pV,pS,pA,pB⟩:=q1a h';obtain⟨css,bls,dss,cls,hPO,hPG,hap⟩:=X;obtain⟨A1,c1,rfl⟩:=qu hPO.2.1;obtain⟨d,m,rfl⟩:=qu hPG.2.1;have hin:InR x.2.1.1:=⟨by have:=hx.1;omega,by have:=hx.2.1;omega⟩;obtain⟨w0,hw0,T0,Z,BP,BQ,BZ⟩:=q4z w #[.bool x.1,.int .i64 x.2.1.1,.slice A1 x.2.1.2.length c1,.slice d x.2.2.1.length m,.int .i64 x.2.2.2] #[.int .i64 s.1,.string s.2.1,.int .i64 s.2.2.1.1,.slice AL nL cL,.slice AR nR cR,.slice AV nV cV,.slice O U V,.int .i64 s.2.2.2.2.1,.int .i64 s.2.2.2.2.2] #[.bool false,.int .i64 0,.slice none 0 0,.slice none 0 0,.int .i64 0] 27 59 27;have HW0:=zaa hw0;have HT0:=zaa T0;have hs0:w0.heap.size=w.heap.size+3:=Z;have HOP:=zaa t;have HAX:=zaa hx;have HD0:Hid (LabD B w0 x (.slice A1 x.2.1.2.length c1) (.slice d x.2.2.1.length m)):=hD0.next T0;have HNG:Hid (w.heap.size+1+1∉obl (.slice d x.2.2.1.length m)):=fun h=>by have:=(hPG.2.2.2 _ (zbb _ h)).2;omega
 have G:=BP.cell 0;have q:=BP.cell 1;have r:=BP.cell 2;have T:=BP.cell 4;have cQ0:=BQ.cell 0;have H:=BQ.cell 6;simp at G q r T cQ0 H;rw[t]at G;have HTA:Hid (∀c,Below B w c->Below M.heap.size M c):=fun c L=>hwa.trans (L.mono haB)
 have HNM:Hid (∀c,Below M.heap.size M c->RdL RI c O U s.2.2.2.1):=fun c L=>pS.next qd L
 obtain⟨N,HN⟩:∃N:Nat,Hid (x.2.1.1.toNat=N):=⟨_,zaa rfl⟩;have hx1:=hx.1;have hx2:=hx.2.1;have HXN:Hid (x.2.1.1=(N:Int)):=by show x.2.1.1=_;rw[<-HN.out];omega
 obtain⟨pb,HPB⟩:∃b,Hid (q7p N s.2.2.2.1=b):=⟨_,zaa rfl⟩;have HIO:Hid (∀c,Below M.heap.size M c->Calls Tryz.prog 63 #[.slice O U V,.int .i64 x.2.1.1] c (Bl c (.bool pb))):=fun c L=>by
  have:=qg6 O U V N s.2.2.2.1 c (HNM.out c L) (by have:=HN.out;omega);rw[<-HXN.out,HPB.out]at this;exact this
 have HM0:Hid (makM x s=if pb=true then some (x.1,ren x.2.1 s.2.2.2.1,x.2.2.1.map fun f=>(f.1,f.2.1,rfL f.1 f.2.2 s.2.2.2.1),x.2.2.2)else none):=by
  show _=_
  unfold makM;rw[zaj (by rw[Y];decide),zaj (by rw[Y];decide),zaj (by rw[Y];decide),zam Y,HN.out,HPB.out]
 have HTR:=zaa htr;have HCF:=zaa hcf;have HPO0:=zaa (hPO.next T0);have hT0:Below B w w0:=T0.mono hB;rw[Y]at cQ0;clear Y htr hcf hx1 hx2 hx t;clear hw0 Z h' hrd' hPO hPG hap T0 pK pT pF pL pR pV pS pA pB hwa hD0
 go_enter Tryz.func28,zgd
 go_upto_region 1 with fail;rw[<-HW0.out];rw[HOP.out]at BP;go_wp2_with fail;refine(HIO.out w0 (HTA.out w0 hT0)).mono ?_;rintro e w1 ⟨rfl,n⟩;have T1:=q9 HT0.out n rfl;have F:=BZ.next n;have E:=BP.next n;have Q:=BQ.next n;clear G q r T cQ0 H
 rcases pb with _|_
 .have HM:Hid (makM x s=none):=HM0.out.trans (zaj (by decide))
  have HBX:=zaa (q18 F (.bool false) (.int .i64 0) (.slice none 0 0) (.slice none 0 0) (.int .i64 0));have HTX:=zaa (BelO.of (u:=.slice d x.2.2.1.length m) (q10 (T1) (g:=w.heap.size+1+1) (by omega) (.bool false) (.int .i64 0) (.slice none 0 0) (.slice none 0 0) (.int .i64 0)) hB);obtain⟨cZ0,cZ1,cZ2,cZ3,cZ4,fZ0,fZ1,fZ2,fZ3,fZ4⟩:=cf5 F;clear F T1 E Q;go_wp2_with fail
  (try simp only[Exit.inBlock,Exit.then])
  refine zat (v:=.tuple #[.agg #[.bool false,.int .i64 0,.slice none 0 0,.slice none 0 0,.int .i64 0],.bool false]) ?hr rfl ?_
  case hr=>exact qn rfl _ _ (w.heap.size+1+1) 27 #[.bool false,.int .i64 0,.slice none 0 0,.slice none 0 0,.int .i64 0] (0,0) _ _ rfl HBX.out zbg rfl (by kernel_rfl) rfl
  exact⟨HTX.out,Or.inl ⟨HM.out,rfl⟩⟩
 .have hpm:PermL N s.2.2.2.1:=q2h.1 HPB.out
  have HPM:Hid (PermL x.2.1.1.toNat s.2.2.2.1):=by show PermL _ _;rw[HN.out];exact hpm
  have HM2:Hid (makM x s=some (true,ren x.2.1 s.2.2.2.1,x.2.2.1.map fun f=>(f.1,f.2.1,rfL f.1 f.2.2 s.2.2.2.1),x.2.2.2)):=HM0.out.trans (by rw[zam rfl,HOP.out]);have HRN:=zaa (qct [.int .i64 x.2.1.1,.slice A1 x.2.1.2.length c1] x.2.1 O U V s.2.2.2.1 w1 (qf.ord ((HPO0.out.next n).algO hin)) (HNM.out w1 (HTA.out w1 (T1.mono hB))) HAX.out HPM.out);have HD1:=zaa (HD0.out.next n);have q:=E.cell 1;have r:=E.cell 2;have H:=Q.cell 6;simp at q r H;have hz1:=n.size;clear hpm;go_wp2_with fail;refine HRN.out.mono ?_;rintro e w2 ⟨v4,css4,bls4,rfl,J,A⟩;obtain⟨C,D,rfl⟩:=qu J.2.1;have T2:=q9 T1 A rfl;have j:=E.next A;have cO1:=j.cell 1;have fO1:=j.frozen 1;have cO2:=j.cell 2;have fO2:=j.frozen 2;simp at cO1 cO2;have hB1:B<=w1.heap.size:=by omega
  have hD2:=HD1.out.base A J hB1;obtain⟨w3,z⟩:∃wb,Hid (wb=(w2.setCell ⟨w.heap.size,1,none⟩ (.int .i64 (ren x.2.1 s.2.2.2.1).1)).setCell ⟨w.heap.size,2,none⟩ (.slice C (ren x.2.1 s.2.2.2.1).2.length D)):=⟨_,zaa rfl⟩;have BP3:Blk w3 w.heap.size 27 #[.bool true,.int .i64 x.2.1.1,.slice C (ren x.2.1 s.2.2.2.1).2.length D,.slice d x.2.2.1.length m,.int .i64 x.2.2.2]:=by
   rw[z.out];have h:=(j.set_ 1 (.int .i64 (ren x.2.1 s.2.2.2.1).1)).set_ 2 (.slice C (ren x.2.1 s.2.2.2.1).2.length D);simp at h;exact h
  have hD3:LabD B w3 (x.1,ren x.2.1 s.2.2.2.1,x.2.2.1,x.2.2.2) (.slice C (ren x.2.1 s.2.2.2.1).2.length D) (.slice d x.2.2.1.length m):=by rw[z.out];exact(hD2.setB j _).setB (j.set_ 1 _) _
  have T3:BelO B (.slice d x.2.2.1.length m) w w3:=by rw[z.out];exact BelO.of ((T2.setCell (p:=⟨w.heap.size,1,none⟩) (zad _) _).setCell (p:=⟨w.heap.size,2,none⟩) (zad _) _) hB
  have BQ3:Blk w3 (w.heap.size+1) 59 #[.int .i64 s.1,.string s.2.1,.int .i64 s.2.2.1.1,.slice AL nL cL,.slice AR nR cR,.slice AV nV cV,.slice O U V,.int .i64 s.2.2.2.2.1,.int .i64 s.2.2.2.2.2]:=by rw[z.out];exact((Q.next A).far (p:=⟨w.heap.size,1,none⟩) (by show _≠w.heap.size;omega) _).far (p:=⟨w.heap.size,2,none⟩) (by show _≠w.heap.size;omega) _
  have BZ3:Blk w3 (w.heap.size+1+1) 27 #[.bool false,.int .i64 0,.slice none 0 0,.slice none 0 0,.int .i64 0]:=by rw[z.out];exact((F.next A).far (p:=⟨w.heap.size,1,none⟩) (by show _≠w.heap.size;omega) _).far (p:=⟨w.heap.size,2,none⟩) (by show _≠w.heap.size;omega) _
  clear E Q F T1 T2 j q r H hD2 J A HRN n BP BQ BZ hT0;go_upto_region 31 with fail
  first|rw[hw3']|rw[<-z.out]
  clear cO1 cO2 fO1 fO2;go_wp2_with fail
  go_loopw [10] (fun i wr=>∃k:Nat,k<=x.2.2.1.length/\i=.int .i64 (k:Int)/\Blk wr w.heap.size 27 #[.bool true,.int .i64 x.2.1.1,.slice C (ren x.2.1 s.2.2.2.1).2.length D,.slice d x.2.2.1.length m,.int .i64 x.2.2.2]/\LabD B wr (x.1,ren x.2.1 s.2.2.2.1,rnTo x.2.2.1 s.2.2.2.1 k,x.2.2.2) (.slice C (ren x.2.1 s.2.2.2.1).2.length D) (.slice d x.2.2.1.length m)/\BelO B (.slice d x.2.2.1.length m) w wr/\Blk wr (w.heap.size+1) 59 #[.int .i64 s.1,.string s.2.1,.int .i64 s.2.2.1.1,.slice AL nL cL,.slice AR nR cR,.slice AV nV cV,.slice O U V,.int .i64 s.2.2.2.2.1,.int .i64 s.2.2.2.2.2]/\Blk wr (w.heap.size+1+1) 27 #[.bool false,.int .i64 0,.slice none 0 0,.slice none 0 0,.int .i64 0]) (fun i _=>x.2.2.1.length - (intOf i).toNat)
  case atStart=>exact⟨0,zah _,rfl,BP3,by rw[qf3];exact hD3,T3,BQ3,BZ3⟩
  case round=>
   clear BP3 hD3 T3 BQ3 BZ3;obtain⟨k,Y,rfl,P,X,hT,R,y⟩:=hrel;have cO:=P.cell 3;simp at cO
   by_cases hlt:k<x.2.2.1.length
   .have hk0:(0:Int)<=(k:Int):=by omega
    have hk1:(k:Int)<(x.2.2.1.length:Int):=by omega
    have hD':=X;obtain⟨css2,bls2,dss2,cls2,hPO2,I,hap2⟩:=hD';have hrl:(rnTo x.2.2.1 s.2.2.2.1 k).length=x.2.2.1.length:=qib _ _ Y;have hOW:wr.ownsRow B 57 4 (.slice d x.2.2.1.length m) x.2.2.1.length dss2.flatten:=by
     have h:=I.2.1;rw[show((x.1,ren x.2.1 s.2.2.2.1,rnTo x.2.2.1 s.2.2.2.1 k,x.2.2.2):LabM).2.2.1.length=x.2.2.1.length from hrl]at h;exact h
    obtain⟨W,rfl,hg2,hnc⟩:=q2o hOW (by omega);obtain⟨A',c',e',hrd⟩:=I.rd;injection e' with e1 e2 e3
    subst e1;obtain⟨b,o,vs,f,hA,-,hc,hrf,-,hfx⟩:=hrd.at (k:=k) (by show k<(rnTo x.2.2.1 s.2.2.2.1 k).length;omega);injection hA with hA
    injection hA with q1 q2
    subst q1;subst q2;obtain⟨fL,nfL,cfL,fR,nfR,cfR,fV,nfV,cfV,rfl,fk,pfL,pfR,pfV⟩:=q21 hrf;have cc0:wr.cell? ⟨W,k*4,none⟩=some (.int .i64 f.1):=by have e:wr.cell? ⟨W,0+k*4+0,none⟩=some _:=hc 0 _ rfl;simpa using e
    have cc1:wr.cell? ⟨W,k*4+1,none⟩=some (.slice fL nfL cfL):=by have e:wr.cell? ⟨W,0+k*4+1,none⟩=some _:=hc 1 _ rfl;simpa using e
    have cc2:wr.cell? ⟨W,k*4+2,none⟩=some (.slice fR nfR cfR):=by have e:wr.cell? ⟨W,0+k*4+2,none⟩=some _:=hc 2 _ rfl;simpa using e
    have cc3:wr.cell? ⟨W,k*4+3,none⟩=some (.slice fV nfV cfV):=by have e:wr.cell? ⟨W,0+k*4+3,none⟩=some _:=hc 3 _ rfl;simpa using e
    have K:x.2.2.1[k]?=some f:=(qia hlt).symm.trans hfx;have hfm:=zaf K;have HST:=zaa (qic (s:=s.2.2.2.1) K);have hBr:B<=wr.heap.size:=by have:=P.lt;omega
    have HRF:Hid (∀c,Below wr.heap.size wr c->Calls Tryz.prog 65 #[.agg #[.int .i64 f.1,.slice fL nfL cfL,.slice fR nfR cfR,.slice fV nfV cfV],.slice O U V] c (FoE c (rnF s.2.2.2.1 f))):=fun c L=>
     qjw x.2.1 f s.2.2.2.1 HAX.out (HTR.out f hfm) HPM.out (HCF.out f hfm) fL nfL cfL fR nfR cfR fV nfV cfV O U V c fk (pfL.next qd L) (pfR.next qd L) (pfV.next qd L) (HNM.out c (HTA.out c (hT.1.trans (L.mono hBr))))
    have cN:=R.cell 6;simp at cN;have S:=zaa hOW;have HD5:=zaa X;have HT5:=zaa hT;have HKL:Hid (k<(rnTo x.2.2.1 s.2.2.2.1 k).length):=by show _<_;omega
    have HBB:=zaa (zao P (zao R y));have Tk:Below wr.heap.size wr wr:=zac _ _;clear hOW hc hrf hfx K hfm hrd e2 e3 X hPO2 I hap2 hT pfL pfR pfV fk P R y;go_upto_region 34 with fail
    first|(go_region_law (first
     |(go_simp;go_at_call 65;(with_reducible refine(HRF.out _ ?_).mono ?_);(first|exact Tk|exact zai Tk);rintro e1 w6 ⟨B1,d1,B2,d2,B3,d3,bk,rfl,hO6,hiv6,hbn⟩;have a:=q9 (zai (zac wr.heap.size wr)) hbn rfl;have hiv6':Iv wr.heap.size w6.heap.size bk:=hiv6;have yc0:=qe a cc0;have yc1:=qe a cc1;have yc2:=qe a cc2;have yc3:=qe a cc3;have yf0:=(qp S.out a).frozenAt (k*4);have yf1:=(qp S.out a).frozenAt (k*4+1);have yf2:=(qp S.out a).frozenAt (k*4+2);have yf3:=(qp S.out a).frozenAt (k*4+3);have zO:=qe a cO;have zN:=qe a cN)))|fail
    all_goals
     have PF:=HD5.out.putF a (k:=k) rfl HKL.out hO6 hiv6' hBr;have PK:=HD5.out.putF_keep a (k:=k) rfl [.int .i64 (rnF s.2.2.2.1 f).1,.slice B1 (rnF s.2.2.2.1 f).2.1.1.length d1,.slice B2 (rnF s.2.2.2.1 f).2.1.2.length d2,.slice B3 (rnF s.2.2.2.1 f).2.2.length d3];have l:=zaa (zao (PF.2.2 (by decide) (HBB.out.1.next a)) (zao PF.1 (zao (HT5.out.step PF.2.1 HT5.out.1.size PK) (zao (PF.2.2 (by decide) (HBB.out.2.1.next a)) (PF.2.2 (by decide) (HBB.out.2.2.next a))))));clear PF PK;go_wp2_with fail
     go_roundw
     case rel=>exact⟨k+1,by omega,by go_num,l.out.1,by rw[<-HST.out];exact l.out.2.1,l.out.2.2.1,l.out.2.2.2.1,l.out.2.2.2.2⟩
     case measure=>simp[intOf];omega
   .obtain rfl:k=x.2.2.1.length:=by omega
    have hk1:¬(x.2.2.1.length:Int)<(x.2.2.1.length:Int):=by omega
    have HOK:Hid ((decide (((x.2.2.1.map fun f=>((f.1,f.2.1,rfL f.1 f.2.2 s.2.2.2.1):qy)).length:Int)<=12) &&decide (x.2.2.2<=9999))=true):=by show _=_;rw[zbz,zbh hr.2,zbh (by omega:(x.2.2.1.length:Int)<=12)];rfl
    have HLX:=zaa (X.set5 y (.bool true) (.int .i64 x.2.1.1) (.slice C (ren x.2.1 s.2.2.2.1).2.length D) (.slice d x.2.2.1.length m) (.int .i64 x.2.2.2));have HBX:=zaa (q18 y (.bool true) (.int .i64 x.2.1.1) (.slice C (ren x.2.1 s.2.2.2.1).2.length D) (.slice d x.2.2.1.length m) (.int .i64 x.2.2.2));have HTX:=zaa (BelO.set5 hT (g:=w.heap.size+1+1) (by omega) hB (.bool true) (.int .i64 x.2.1.1) (.slice C (ren x.2.1 s.2.2.2.1).2.length D) (.slice d x.2.2.1.length m) (.int .i64 x.2.2.2));have G:=P.cell 0;have q:=P.cell 1;have r:=P.cell 2;have T:=P.cell 4;simp at G q r T;obtain⟨cZ0,cZ1,cZ2,cZ3,cZ4,fZ0,fZ1,fZ2,fZ3,fZ4⟩:=cf5 y;clear X hT P R y;go_wp2_with fail
    (try simp only[Exit.inBlock,Exit.then])
    refine zat (v:=.tuple #[.agg #[.bool true,.int .i64 x.2.1.1,.slice C (ren x.2.1 s.2.2.2.1).2.length D,.slice d x.2.2.1.length m,.int .i64 x.2.2.2],.bool true]) ?hr rfl ?_
    case hr=>exact qn rfl _ _ (w.heap.size+1+1) 27 #[.bool true,.int .i64 x.2.1.1,.slice C (ren x.2.1 s.2.2.2.1).2.length D,.slice d x.2.2.1.length m,.int .i64 x.2.2.2] (0,0) _ _ rfl HBX.out zbg rfl (by kernel_rfl) rfl
    refine⟨HTX.out,zew ⟨(true,ren x.2.1 s.2.2.2.1,x.2.2.1.map fun f=>(f.1,f.2.1,rfL f.1 f.2.2 s.2.2.2.1),x.2.2.2),.slice C (ren x.2.1 s.2.2.2.1).2.length D,.slice d x.2.2.1.length m,HM2.out,?_,?_⟩⟩
    rotate_left
    .rw[<-qi9];exact HLX.out
    .show _=Ending.returned (.tuple #[_,.bool (decide (((x.2.2.1.map fun f=>((f.1,f.2.1,rfL f.1 f.2.2 s.2.2.2.1):qy)).length:Int)<=12) &&decide (x.2.2.2<=9999))])
     rw[HOK.out];rfl
end Go.Proofs.YtfnmkbpogbekpaaGreatDoor
