import Derived.Test.YtfnmkbpogbekpaaGreatDoorQ7
set_option linter.unusedVariables false
set_option linter.unusedSimpArgs false
set_option maxRecDepth 100000
set_option maxHeartbeats 32000000
namespace Go.Proofs.YtfnmkbpogbekpaaGreatDoor
open Go.RowKit
theorem q93 (cs ds:List Value) (x:qi) (f:qy) (w:World) (h:qf.rd w cs x) (h':qj.rd w ds f) (N:AlgP x):
  Calls Tryz.prog 75 #[.agg cs.toArray,.agg ds.toArray] w (Bl w (.bool (q1c x f))):=by
 have hrd:=h;obtain⟨B,k,d,rfl,-,qo⟩:=qv h;obtain⟨AL,nL,cL,AR,nR,cR,z,r,D,rfl,-,rL,rR,rV⟩:=q21 h';obtain⟨c,⟨L,R⟩,V⟩:=f;simp only at rL rR rV;obtain⟨n,hN⟩:∃n:Nat,x.1=(n:Int):=⟨x.1.toNat,by have:=N.1;omega⟩;have J:Hid (x.1.toNat=n):=by show _=_;omega
 have hn8:n<=8:=by have:=N.2.1;omega
 obtain⟨m,hw0,g,hsz0,BP,BQ⟩:=q1q w #[.int .i64 x.1,.slice B k d] #[.int .i64 c,.slice AL nL cL,.slice AR nR cR,.slice z r D] 24 57;have ai:=zaa hw0;have P:=qf.stab hrd g.block;have aa:=rL.next qd g;have ab:=rR.next qd g;have q:=rV.next qd g;have H2:qw.rd m [.slice AL nL cL,.slice AR nR cR] ((L,R):q1g):=q2a aa ab;have hle:=aa.le;have hle2:=ab.le;have hle3:=q.le;have HLL:=zaa rL.len;have HLR:=zaa rR.len;have HLV:=zaa rV.len;have s:=zaa (q90 _ _ x (L,R) m P H2 N);have t:=zaa (qcq _ _ x (L,R) z r D V m P H2 q N);have E:=zaa (ql2 _ x z r D V m P N q);have F:=zaa (q9e _ x z r D V m P N q);have G:=zaa (ql0 _ x z r D V m P N q);have HX:=zaa N;have ag:=zaa P;have Y:=zaa q;rw[J.out]at s t E F G;rw[hN]at s t E F G BP ai ag;obtain⟨cP0,cP1⟩:=cl2 BP;obtain⟨cQ0,cQ1,cQ2,ak⟩:=cl4 BQ;obtain⟨Z,W⟩:∃b,Hid ((decide (nL=0) &&decide (nR=0))=b):=⟨_,rfl⟩;have af:Hid (noEq (L,R)=Z):=by
  show _=_
  rw[<-W.out];unfold noEq;simp only;rw[HLL.out,HLR.out]
  congr 1<;>exact decide_eq_decide.2 (by omega)
 have K:Hid (q1c x (c,(L,R),V)=if c=1 then q5r n x.2 L R &&decide (r=0)else if c=2 then askB n x.2 L R &&q3f n x.2 L R V else Z &&(if c=3 then subB n x.2 V else if c=4 then q2k n x.2 V else if c=5 then genB n x.2 V else if c=6 then homB n x.2 V else false)):=by
  show _=_
  unfold q1c;simp only;rw[J.out,af.out,HLV.out]
 rw[hN];clear hw0 hsz0 hrd qo h h' N hN P H2 rL rR rV aa ab q
 go_enter Tryz.func75,Tryz.ntmps75
 go_upto_region 1 with fail;rw[<-ai.out]
 go_cut [5]from 8 to 19 (fun u5 wx=>u5=.bool Z/\wx=m)
 case first=>
  rcases o:decide (nL=0)with _|_
  .have hd:=q51 o
   have I:Hid (Z=false):=by show _=_;rw[<-W.out,o];rfl
   clear o;go_wp2_with fail;go_meet;exact⟨by rw[I.out],rfl⟩
  .have hd:=q51 o
   have I:Hid (Z=decide (nR=0)):=by show _=_;rw[<-W.out,o];rfl
   clear o
   rcases y:decide (nR=0)with _|_
   all_goals
    have hd2:=q51 y;rw[y]at I;clear y;go_wp2_with fail;go_meet;exact⟨by rw[I.out],rfl⟩
 case rest=>
  obtain⟨rfl,hwc⟩:=hcut;subst hwc;obtain⟨m,HWC⟩:∃wq:World,wq=wc:=⟨_,rfl⟩;subst HWC
  by_cases h1:c=1
  .subst h1
   obtain⟨hb,U⟩:∃b,Hid (q5r n x.2 L R=b):=⟨_,rfl⟩;obtain⟨aj,ac⟩:∃b,Hid (askB n x.2 L R=b):=⟨_,rfl⟩;have HHA:Hid (aj=false->hb=false):=fun h=>by
    rw[<-U.out];unfold q5r;rw[ac.out,h];rfl
   have a:Hid (q1c x (1,(L,R),V)=(hb &&decide (r=0))):=by show _=_;rw[K.out,zam rfl,U.out]
   simp only at s;rw[U.out,ac.out]at s;go_wp2_with fail;refine s.out.mono ?_;rintro e w1 ⟨rfl,i⟩;replace ak:=qe i ak
   rcases aj with _|_
   .have:=HHA.out rfl
    subst this;go_wp2_with fail;go_ret;exact⟨qg (by rw[a.out];rfl),q9 g i rfl⟩
   .rcases hb with _|_
    .go_wp2_with fail
     go_ret;exact⟨qg (by rw[a.out];rfl),q9 g i rfl⟩
    .rcases M:decide (r=0)with _|_
     all_goals
      have hd3:=q51 M;rw[M]at a;clear M;go_wp2_with fail;go_ret;exact⟨qg (by rw[a.out];rfl),q9 g i rfl⟩
  by_cases h2:c=2
  .subst h2
   have a:Hid (q1c x (2,(L,R),V)=(askB n x.2 L R &&q3f n x.2 L R V)):=by show _=_;rw[K.out,zaj (by decide),zam rfl]
   obtain⟨b,Q⟩:∃b,Hid ((askB n x.2 L R &&q3f n x.2 L R V)=b):=⟨_,rfl⟩;simp only at t;rw[Q.out]at t a;clear h1;go_wp2_with fail;refine t.out.mono ?_;rintro e w1 ⟨rfl,i⟩;go_wp2_with fail;go_ret;exact⟨qg a.out.symm,q9 g i rfl⟩
  have o:(c==1)=false:=zbj.2 h1;have y:(c==2)=false:=zbj.2 h2;have ah:Hid (q1c x (c,(L,R),V)=(Z &&(if c=3 then subB n x.2 V else if c=4 then q2k n x.2 V else if c=5 then genB n x.2 V else if c=6 then homB n x.2 V else false))):=by show _=_;rw[K.out,zaj h1,zaj h2]
  clear K h1 h2 s t
  rcases Z with _|_
  .have a:Hid (q1c x (c,(L,R),V)=false):=by show _=_;rw[ah.out];rfl
   by_cases p:c=3
   .subst p
    clear o y;go_wp2_with fail;go_ret;exact⟨qg a.out.symm,g⟩
   by_cases h4:c=4
   .subst h4
    clear o y p;go_wp2_with fail;go_ret;exact⟨qg a.out.symm,g⟩
   have M:(c==3)=false:=zbj.2 p;have e4:(c==4)=false:=zbj.2 h4
   by_cases h5:c=5
   .subst h5
    clear o y M e4 p h4;go_wp2_with fail
    go_quiet (fail)
    go_wp2_with fail;go_ret;exact⟨qg a.out.symm,(by first|exact g|exact qc (g) _|exact qc (qc (g) _) _|exact qc (qc (qc (g) _) _) _)⟩
   have e5:(c==5)=false:=zbj.2 h5
   by_cases h6:c=6
   .subst h6
    clear o y M e4 e5 p h4 h5;go_wp2_with fail;go_ret;exact⟨qg a.out.symm,g⟩
   have e6:(c==6)=false:=zbj.2 h6;clear p h4 h5 h6;go_wp2_with fail;go_ret;exact⟨qg a.out.symm,g⟩
  .have C:Hid (q1c x (c,(L,R),V)=(if c=3 then subB n x.2 V else if c=4 then q2k n x.2 V else if c=5 then genB n x.2 V else if c=6 then homB n x.2 V else false)):=by show _=_;rw[ah.out];rfl
   by_cases p:c=3
   .subst p
    have a:Hid (q1c x (3,(L,R),V)=subB n x.2 V):=by show _=_;rw[C.out,zam rfl]
    obtain⟨b,Q⟩:∃b,Hid (subB n x.2 V=b):=⟨_,rfl⟩;rw[Q.out]at E a;clear o y;go_wp2_with fail;refine E.out.mono ?_;rintro e w1 ⟨rfl,i⟩;go_wp2_with fail;go_ret;exact⟨qg a.out.symm,q9 g i rfl⟩
   by_cases h4:c=4
   .subst h4
    have a:Hid (q1c x (4,(L,R),V)=q2k n x.2 V):=by show _=_;rw[C.out,zaj (by decide),zam rfl]
    obtain⟨b,Q⟩:∃b,Hid (q2k n x.2 V=b):=⟨_,rfl⟩;rw[Q.out]at F a;clear o y p;go_wp2_with fail;refine F.out.mono ?_;rintro e w1 ⟨rfl,i⟩;go_wp2_with fail;go_ret;exact⟨qg a.out.symm,q9 g i rfl⟩
   have M:(c==3)=false:=zbj.2 p;have e4:(c==4)=false:=zbj.2 h4
   by_cases h5:c=5
   .subst h5
    have a:Hid (q1c x (5,(L,R),V)=genB n x.2 V):=by show _=_;rw[C.out,zaj (by decide),zaj (by decide),zam rfl]
    clear o y M e4 p h4;obtain⟨b1,S⟩:∃b,Hid (q1z 0 ((n:Int) - 1) V=b):=⟨_,rfl⟩;obtain⟨b2,ad⟩:∃b,Hid (q24 V=b):=⟨_,rfl⟩;have H:Hid (genB n x.2 V=((b1 &&b2) &&decide ((genL n x.2 V).length=n))):=by show _=_;unfold genB;rw[S.out,ad.out]
    have A:Hid (∀j,Below m.heap.size m j->Calls Tryz.prog 130 #[.slice z r D,.int .i64 (n:Int)] j (Qt j (.bool b1))):=fun j O=>by
     have:=q2b (q4e z r D V (n:Int) j (Y.out.next qd O))
     rwa [S.out]at this
    have X:Hid (∀j,Below m.heap.size m j->Calls Tryz.prog 131 #[.slice z r D] j (Qt j (.bool b2))):=fun j O=>by
     have:=qf2 z r D V j (Y.out.next qd O)
     rwa [ad.out]at this
    obtain⟨gl,T⟩:∃l,Hid (genL n x.2 V=l):=⟨_,rfl⟩;have hgl:gl.length<=8:=by rw[<-T.out];exact za7 (q4u _ _) hn8
    have ae:Hid (b1=true->∀j,Below m.heap.size m j->Calls Tryz.prog 132 #[.agg #[.int .i64 (n:Int),.slice B k d],.slice z r D] j (OwI j gl)):=fun i j O=>by
     subst i;have:=q68 _ x z r D V j (qf.stab ag.out O.block) HX.out (Y.out.next qd O) (fun v hv=>by have:=q3e.1 S.out v hv;have h2:=J.out;have p:=HX.out.1;omega);rw[J.out,T.out]at this;exact this
    have u:Below m.heap.size m m:=zac _ _;rw[T.out]at H
    rcases b1 with _|_
    .go_wp2_with fail
     go_quiet ((go_at_call 130;first|exact q1o (A.out _ (by first|exact zac _ _|exact qc (zac _ _) _))|exact q1f (A.out _ (by first|exact zac _ _|exact qc (zac _ _) _))))
     go_wp2_with fail;go_ret;exact⟨qg (by rw[a.out,H.out];rfl),(by first|exact g|exact qc (g) _|exact qc (qc (g) _) _|exact qc (qc (qc (g) _) _) _)⟩
    have HGT:=zaa (ae.out rfl);clear ae
    rcases b2 with _|_
    .go_wp2_with fail
     go_quiet ((first
      |(go_at_call 130;first|exact q1o (A.out _ (by first|exact zac _ _|exact qc (zac _ _) _))|exact q1f (A.out _ (by first|exact zac _ _|exact qc (zac _ _) _)))
      |(go_at_call 131;first|exact q1o (X.out _ (by first|exact zac _ _|exact qc (zac _ _) _))|exact q1f (X.out _ (by first|exact zac _ _|exact qc (zac _ _) _)))))
     go_wp2_with fail;go_ret;exact⟨qg (by rw[a.out,H.out];rfl),(by first|exact g|exact qc (g) _|exact qc (qc (g) _) _|exact qc (qc (qc (g) _) _) _)⟩
    .have KP0:Hid (∀j,Below m.heap.size m j->j.cell? ⟨w.heap.size,0,none⟩=some (.int .i64 (n:Int))):=fun j O=>qe O cP0
     go_wp2_with fail
     go_region_law (first
      |(go_simp;go_at_call 130;(with_reducible refine(A.out _ ?_).mono ?_);(first|exact u|exact qc u _);rintro e wa ⟨rfl,za,rfl⟩)
      |(go_simp;go_at_call 131;(with_reducible refine(X.out _ ?_).mono ?_);(first|exact u|exact qc u _);rintro e wb ⟨rfl,zb,rfl⟩)
      |(go_simp;go_at_call 132;(with_reducible refine(HGT.out _ ?_).mono ?_);(first|exact u|exact qc u _);rintro e wc ⟨A5,c5,rfl,-,hb5⟩;replace u:=q9 (by first|exact u|exact qc u _) hb5 rfl;have cR0:=KP0.out _ u))
     all_goals
      go_wp2_with fail;go_ret;exact⟨qg (by rw[a.out,H.out,zdo,zdo,zcc];simp;try omega),q9 g (by first|exact u|exact qc u _) rfl⟩
   have e5:(c==5)=false:=zbj.2 h5
   by_cases h6:c=6
   .subst h6
    have a:Hid (q1c x (6,(L,R),V)=homB n x.2 V):=by show _=_;rw[C.out,zaj (by decide),zaj (by decide),zaj (by decide),zam rfl]
    obtain⟨b,Q⟩:∃b,Hid (homB n x.2 V=b):=⟨_,rfl⟩;rw[Q.out]at G a;clear o y M e4 e5 p h4 h5;go_wp2_with fail;refine G.out.mono ?_;rintro e w1 ⟨rfl,i⟩;go_wp2_with fail;go_ret;exact⟨qg a.out.symm,q9 g i rfl⟩
   have e6:(c==6)=false:=zbj.2 h6;have a:Hid (q1c x (c,(L,R),V)=false):=by show _=_;rw[C.out,zaj p,zaj h4,zaj h5,zaj h6]
   clear p h4 h5 h6;go_wp2_with fail;go_ret;exact⟨qg a.out.symm,g⟩
theorem qga (cs ds:List Value) (x:qi) (e:q1g) (w:World) (h:qf.rd w cs x) (h':qw.rd w ds e) (G:AlgP x):
  Calls Tryz.prog 98 #[.agg cs.toArray,.agg ds.toArray] w (Bl w (.bool (askB x.1.toNat x.2 e.1 e.2))):=by
 have hrd:=h;have hrd':=h';obtain⟨B,m,d,rfl,-,qo⟩:=qv h;obtain⟨O,o,cL,Q,z,cR,rfl,rL,rR⟩:=q1k h';obtain⟨F,hw0,S,hsz0,BP,BQ⟩:=q1q w #[.int .i64 x.1,.slice B m d] #[.slice O o cL,.slice Q z cR] 24 55;have ab:=zaa hw0;have H1:Hid (∀a,Below F.heap.size F a->qf.rd a [.int .i64 x.1,.slice B m d] x):=fun a n=>qf.stab (qf.stab hrd S.block) n.block
 have X:Hid (∀a,Below F.heap.size F a->RdL RI a O o e.1):=fun a n=>(rL.next qd S).next qd n
 have HR:Hid (∀a,Below F.heap.size F a->RdL RI a Q z e.2):=fun a n=>(rR.next qd S).next qd n
 have HLB:=zaa rL.bounds;have HRB:=zaa rR.bounds;have HNL:=zaa rL.len;have HNR:=zaa rR.len;obtain⟨j,J⟩:=cl2 BP;obtain⟨r,s⟩:=cl2 BQ;obtain⟨N,T⟩:∃N:Nat,x.1=(N:Int):=⟨x.1.toNat,by have:=G.1;omega⟩;have hN8:N<=8:=by have:=G.2.1;omega
 have hN1:1<=N:=by have:=G.1;omega
 have HNT:Hid (x.1.toNat=N):=by show _=_;omega
 rw[T]at j;rw[HNT.out];rw[T]at ab;obtain⟨f,D⟩:∃l,Hid (q35 e.1 e.2=l):=⟨_,rfl⟩;have aa:Hid (f.length<=6):=by show _<=6;rw[<-D.out];exact qaz _ _
 have V:=zaa (qbr _ x O o cL e.1 F (H1.out _ (zac _ _)) (X.out _ (zac _ _)) _ G.ops G.2.2.1);have W:=zaa fun(a:World) (n:Below F.heap.size F a)=>qbr _ x Q z cR e.2 a (H1.out _ n) (HR.out _ n) _ G.ops G.2.2.1
 obtain⟨b1,H⟩:∃b,Hid (q2e x.2 e.1=b):=⟨_,rfl⟩;obtain⟨b2,I⟩:∃b,Hid (q2e x.2 e.2=b):=⟨_,rfl⟩;rw[H.out,T]at V;rw[I.out,T]at W;rw[T];have t:Hid (askB N x.2 e.1 e.2=((b1 &&b2) &&decide (N ^ f.length<=5000))):=by show _=_;unfold askB;rw[H.out,I.out,D.out]
 clear hw0 hsz0 hrd hrd' rL rR qo G h h' T
 go_enter Tryz.func98,Tryz.ntmps98
 go_upto_region 1 with fail;rw[<-ab.out];go_wp2_with fail;refine V.out.mono ?_;rintro e1 w1 ⟨rfl,E⟩;have M:=kk4 E j J r s;clear j J r s;obtain⟨j,J,r,s⟩:=M
 rcases b1 with _|_
 .go_wp2_with fail
  go_ret;exact⟨qg (by rw[t.out];rfl),q9 S E rfl⟩
 go_wp2_with fail;refine(W.out _ E).mono ?_;rintro e2 g ⟨rfl,hb2⟩;have M:=kk3 hb2 j r s;clear j r s;obtain⟨j,r,s⟩:=M;have TV:=q9 E hb2 rfl
 rcases b2 with _|_
 .go_wp2_with fail
  go_ret;exact⟨qg (by rw[t.out];rfl),q9 S TV rfl⟩
 have Y:=H;have Z:=I;have hnL:o<=60:=by have:=(q28 Y.out).1;have:=HNL.out;omega
 have hnR:z<=60:=by have:=(q28 Z.out).1;have:=HNR.out;omega
 have HO1:Hid (∀a,Below g.heap.size g a->Calls Tryz.prog 110 #[.slice O o cL] a fun e1 w'=>∃A' c',e1=.returned (.slice A' o c')/\w'.ownsRow a.heap.size 3 1 (.slice A' o c') o (ints e.1)/\Below a.heap.size a w'):=fun a n=>q2s O o cL e.1 a ((X.out g TV).next qd n) (by omega)
 have HRR:Hid (∀a,Below g.heap.size g a->RdL RI a Q z e.2):=fun a n=>(HR.out g TV).next qd n
 have KQ0:Hid (∀a,Below g.heap.size g a->a.cell? ⟨w.heap.size+1,0,none⟩=some (.slice O o cL)):=fun a n=>qe n r
 have KQ1:Hid (∀a,Below g.heap.size g a->a.cell? ⟨w.heap.size+1,1,none⟩=some (.slice Q z cR)):=fun a n=>qe n s
 have HVV:Hid (∀(A:Option Addr) (c:Nat) (a:World),Below g.heap.size g a->a.ownsRow g.heap.size 3 1 (.slice A (o+z) c) (o+z) (ints (e.1++e.2))->Calls Tryz.prog 158 #[.slice A (o+z) c] a (OwI a f)):=fun A c a n ho=>by
  have:=q8r A (o+z) c (e.1++e.2) a (q12 (R:=RI) ho (q1r fun v u=>by
   rcases zau.1 u with u|u
   .exact HLB.out v u
   .exact HRB.out v u)) (fun v u=>by
   rcases zau.1 u with u|u
   .exact(q1v (q2y Y.out v u)).1
   .exact(q1v (q2y Z.out v u)).1)
  rwa [show q1m 6 (varM (e.1++e.2))=f from(q22 fun y _=>qdo e.1 e.2 y).trans D.out]at this
 have HVB:Hid (∀v∈f, -9223372036854775808<=v/\v<=9223372036854775807):=by rw[<-D.out];exact fun v u=>by have:=q55 e.1 e.2 v u;omega
 obtain⟨q,HQ⟩:∃q,Hid (f.length=q):=⟨_,rfl⟩;go_upto_region 3 with fail
 go_cut [5,6]from 20 to 26 (fun u5 u6 wx=>∃U c7,u5=.slice U f.length c7/\u6=.int .i64 1/\RdL RI wx U f.length f/\Below g.heap.size g wx)
 case first=>
  have C:Below g.heap.size g g:=zac _ _
  go_region_law (first
   |(go_simp;go_at_call 110;(with_reducible refine(HO1.out _ ?_).mono ?_);(first|exact C|exact qc C _);rintro e1 w5 ⟨A5,c5,rfl,ho5,hb5⟩;replace C:=q9 (by first|exact C|exact qc C _) hb5 rfl;have cE0:=KQ0.out _ C;have cE1:=KQ1.out _ C)
   |(refine q1b (R:=RI) _ rfl (.tmp 22) (.tmp 24) 43 3 rfl (.int .i64 0) 8 za1 q14 rfl (by decide) g.heap.size o c5 A5 (ints e.1) (by rfl) (by exact ho5) Q z cR e.2 (fun y=>.int .i64 y) (fun _=>rfl) (by rfl) (HRR.out _ (by first|exact C|exact qc C _)) (fun _ _ _ hr=>hr.1) (by omega) (by exact C.size) ?_;intro A6 c6 w6 K hg6 hb6;have T6:Below g.heap.size g w6:=(by first|exact C.trans hb6|exact(qc C _).trans hb6);have L:w6.ownsRow g.heap.size 3 1 (.slice A6 (o+z) c6) (o+z) (ints (e.1++e.2)):=(by simpa[ints]using K))
   |(go_simp;go_at_call 158;refine(HVV.out A6 c6 _ ?_ ?_).mono ?_;(first|exact T6|exact qc T6 _);(exact L);rintro e2 w7 ⟨U,c7,rfl,ho7,hb7⟩;have T7:=q9 (by first|exact T6|exact qc T6 _) hb7 rfl;have r7:=q12 (R:=RI) ho7 (q1r HVB.out)))
  all_goals
   go_wp2_with fail;go_meet;exact⟨U,c7,rfl,rfl,r7,T7⟩
 case rest=>
  obtain⟨U,c7,rfl,rfl,r7,T7⟩:=hcut;obtain⟨w8,HWC⟩:∃wq:World,wq=wc:=⟨_,rfl⟩;subst HWC;rw[HQ.out]at r7 t aa⊢;have hq6:=aa.out;replace j:=qe T7 j;have T8:=q9 S (q9 TV T7 rfl) rfl;go_wp2_with fail
  go_loop [6,7] (fun p i=>∃(k P:Nat),k<=q/\i=.int .i64 k/\p=.int .i64 P/\Hid (P=N ^ k)) (fun _ i=>q - (intOf i).toNat)
  case atStart=>exact⟨0,1,zah _,rfl,rfl,(by show _=_;rw[zfw])⟩
  case round=>
   obtain⟨k,P,hk,rfl,rfl,HP⟩:=hrel
   by_cases hlt:k<q
   .have hk1:(k:Int)<(q:Int):=by omega
    have hP:P<=262144:=by rw[HP.out];exact qgr hN8 (by omega)
    have hM:P*N<=262144*8:=zci hP hN8;have hm0:(0:Int)<=(P:Int)*(N:Int):=by rw[<-zbw];omega
    have hm1:(P:Int)*(N:Int)<=2097152:=by rw[<-zbw];omega
    have HE:Hid ((P:Int)*(N:Int)=((P*N:Nat):Int)):=(zbw _ _).symm;have HF:Hid (P*N=N ^ (k+1)):=by show _=_;rw[HP.out,zfi]
    clear hM;go_wp2_with fail
    go_round
    case rel=>exact⟨k+1,P*N,by omega,by go_num,by rw[HE.out],HF⟩
    case measure=>simp[intOf];try omega
   .obtain rfl:k=q:=by omega
    have hk1:¬(k:Int)<(k:Int):=by omega
    go_wp2_with fail;go_ret;exact⟨qg (by rw[t.out,<-HP.out,zdo,zdo];exact decide_eq_decide.2 (by omega)),T8⟩
def lenV:Value->Nat| .slice _ n _=>n|_=>0
def CsE (w:World) (hold:Prop) (e:Ending) (w':World):Prop:=∃v,e=.returned (.tuple #[v,.bool (!(tt hold))])/\Below w.heap.size w w'
theorem qcw (cs ds:List Value) (x:qi) (e:q1g) (w:World) (h:qf.rd w cs x) (h':qw.rd w ds e) (hx:AlgP x) (hA:askB x.1.toNat x.2 e.1 e.2=true):
  Calls Tryz.prog 159 #[.agg cs.toArray,.agg ds.toArray] w (CsE w (q5h x.1.toNat x.2 e.1 e.2)):=by
 have hrd:=h;have hrd':=h';obtain⟨B,m,d,rfl,-,qo⟩:=qv h;obtain⟨AL,I,cL,AR,M,cR,rfl,rL,rR⟩:=q1k h';obtain⟨w0,hw0,T0,hsz0,BP,BQ⟩:=q1q w #[.int .i64 x.1,.slice B m d] #[.slice AL I cL,.slice AR M cR] 24 55;have HW0:=zaa hw0;have H1:Hid (∀f,Below w0.heap.size w0 f->qf.rd f [.int .i64 x.1,.slice B m d] x):=fun f D=>qf.stab (qf.stab hrd T0.block) D.block
 have HLL:Hid (∀f,Below w0.heap.size w0 f->RdL RI f AL I e.1):=fun f D=>(rL.next qd T0).next qd D
 have HR:Hid (∀f,Below w0.heap.size w0 f->RdL RI f AR M e.2):=fun f D=>(rR.next qd T0).next qd D
 have HLB:=zaa rL.bounds;have HRB:=zaa rR.bounds;have HNL:=zaa rL.len;have HNR:=zaa rR.len;have HX:=zaa hx;obtain⟨K,aa⟩:=cl2 BP;obtain⟨P,Q⟩:=cl2 BQ;obtain⟨N,hN⟩:∃N:Nat,x.1=(N:Int):=⟨x.1.toNat,by have:=hx.1;omega⟩;have HNN:=zaa hN;have hN8:N<=8:=by have:=hx.2.1;omega
 have hN1:1<=N:=by have:=hx.1;omega
 have hN0:0<N:=hN1;have HNT:Hid (x.1.toNat=N):=by show _=_;omega
 rw[hN]at K;rw[HNT.out];rw[hN]at HW0;obtain⟨a,E⟩:∃l,Hid (q35 e.1 e.2=l):=⟨_,rfl⟩;have HV6:Hid (a.length<=6):=by show _<=6;rw[<-E.out];exact qaz _ _
 have HVI:Hid (∀v∈a,0<=v/\v<=5):=by rw[<-E.out];exact q55 _ _
 have V:=zaa (q57 hA).1;have W:=zaa (q57 hA).2;have hnL:I<=60:=by have:=(q28 V.out).1;have:=HNL.out;omega
 have hnR:M<=60:=by have:=(q28 W.out).1;have:=HNR.out;omega
 obtain⟨r,U⟩:∃r,Hid (N ^ a.length=r):=⟨_,rfl⟩;have HR5:Hid (r<=5000):=by
  show r<=5000
  unfold askB at hA;rw[zal,zax,HNT.out,E.out,U.out]at hA;exact hA.2
 have HVM:Hid (∀v∈a,v<(mxV a:Int)):=by rw[<-E.out];exact fun v t=>qmz t
 have HM6:Hid (mxV a<=6):=by show _<=6;rw[<-E.out];exact qoa _ _
 have HVLL:Hid (∀v∈e.1,v<(mxV a:Int)):=by rw[<-E.out];exact fun v t=>q6q V.out W.out (.inl t)
 have HVRR:Hid (∀v∈e.2,v<(mxV a:Int)):=by rw[<-E.out];exact fun v t=>q6q V.out W.out (.inr t)
 have S:Hid (q5h N x.2 e.1 e.2↔∀i,i<r->evT N x.2 (Wb N a (i+1)) e.1=evT N x.2 (Wb N a (i+1)) e.2):=by
  show _↔_
  unfold q5h TryP;rw[E.out,U.out]
 rw[hN];clear hw0 hsz0 hrd hrd' rL rR qo hx h h' hN hA;obtain⟨C,Z⟩:∃C:World,C=w0:=⟨_,rfl⟩;rw[<-Z]at K aa P Q;have TV:Below w0.heap.size w0 C:=by rw[Z];exact zac _ _
 rw[<-Z]at HW0;have TV0:Below w.heap.size w C:=by rw[Z];exact T0
 clear Z
 go_enter Tryz.func159,Tryz.ntmps159
 go_upto_region 1 with fail;rw[<-HW0.out];have HO1:Hid (∀f,Below C.heap.size C f->Calls Tryz.prog 110 #[.slice AL I cL] f fun e1 w'=>∃A' c',e1=.returned (.slice A' I c')/\w'.ownsRow f.heap.size 3 1 (.slice A' I c') I (ints e.1)/\Below f.heap.size f w'):=fun f D=>q2s AL I cL e.1 f ((HLL.out C TV).next qd D) (by omega)
 have HRR:Hid (∀f,Below C.heap.size C f->RdL RI f AR M e.2):=fun f D=>(HR.out C TV).next qd D
 have KQ0:Hid (∀f,Below C.heap.size C f->f.cell? ⟨w.heap.size+1,0,none⟩=some (.slice AL I cL)):=fun f D=>qe D P
 have KQ1:Hid (∀f,Below C.heap.size C f->f.cell? ⟨w.heap.size+1,1,none⟩=some (.slice AR M cR)):=fun f D=>qe D Q
 have HVV:Hid (∀(A:Option Addr) (c:Nat) (f:World),Below C.heap.size C f->f.ownsRow C.heap.size 3 1 (.slice A (I+M) c) (I+M) (ints (e.1++e.2))->Calls Tryz.prog 158 #[.slice A (I+M) c] f (OwI f a)):=fun A c f D ho=>by
  have:=q8r A (I+M) c (e.1++e.2) f (q12 (R:=RI) ho (q1r fun v t=>by
   rcases zau.1 t with t|t
   .exact HLB.out v t
   .exact HRB.out v t)) (fun v t=>by
   rcases zau.1 t with t|t
   .exact(q1v (q2y V.out v t)).1
   .exact(q1v (q2y W.out v t)).1)
  rwa [show q1m 6 (varM (e.1++e.2))=a from(q22 fun y _=>qdo e.1 e.2 y).trans E.out]at this
 have HVB:Hid (∀v∈a, -9223372036854775808<=v/\v<=9223372036854775807):=by rw[<-E.out];exact fun v t=>by have:=q55 e.1 e.2 v t;omega
 go_upto_region 1 with fail
 go_cut [6]from 11 to 17 (fun u6 wx=>∃A7 c7,u6=.slice A7 a.length c7/\RdL RI wx A7 a.length a/\Below C.heap.size C wx)
 case first=>
  have n:Below C.heap.size C C:=zac _ _
  go_region_law (first
   |(go_simp;go_at_call 110;(with_reducible refine(HO1.out _ ?_).mono ?_);(first|exact n|exact qc n _);rintro e1 w5 ⟨A5,c5,rfl,ho5,hb5⟩;replace n:=q9 (by first|exact n|exact qc n _) hb5 rfl;have cE0:=KQ0.out _ n;have cE1:=KQ1.out _ n)
   |(refine q1b (R:=RI) _ rfl (.tmp 13) (.tmp 15) 43 3 rfl (.int .i64 0) 8 za1 q14 rfl (by decide) C.heap.size I c5 A5 (ints e.1) (by rfl) (by exact ho5) AR M cR e.2 (fun y=>.int .i64 y) (fun _=>rfl) (by rfl) (HRR.out _ (by first|exact n|exact qc n _)) (fun _ _ _ hr=>hr.1) (by omega) (by exact n.size) ?_;intro A6 c6 w6 hown6 hg6 hb6;have T6:Below C.heap.size C w6:=(by first|exact n.trans hb6|exact(qc n _).trans hb6);have hown7:w6.ownsRow C.heap.size 3 1 (.slice A6 (I+M) c6) (I+M) (ints (e.1++e.2)):=(by simpa[ints]using hown6))
   |(go_simp;go_at_call 158;refine(HVV.out A6 c6 _ ?_ ?_).mono ?_;(first|exact T6|exact qc T6 _);(exact hown7);rintro e2 w7 ⟨A7,c7,rfl,ho7,hb7⟩;have T7:=q9 (by first|exact T6|exact qc T6 _) hb7 rfl;have r7:=q12 (R:=RI) ho7 (q1r HVB.out)))
  all_goals
   go_wp2_with fail;go_meet;exact⟨A7,c7,rfl,r7,T7⟩
 case rest=>
  obtain⟨A7,c7,rfl,r7,T7⟩:=hcut;obtain⟨O,HWC⟩:∃wq:World,wq=wc:=⟨_,rfl⟩;subst HWC;obtain⟨q,HQ⟩:∃q,Hid (a.length=q):=⟨_,rfl⟩;rw[HQ.out]at r7 HV6 U⊢;have hq6:=HV6.out;have zkk:=kk4 T7 K aa P Q;clear K aa P Q;obtain⟨K,aa,P,Q⟩:=zkk;have T2:=q9 TV T7 rfl;have T02:=q9 TV0 T7 rfl;have hr5:=HR5.out;obtain⟨mx,T⟩:∃mx,Hid (mxV a=mx):=⟨_,rfl⟩;rw[T.out]at HM6 HVM HVLL HVRR;have hm6:=HM6.out;have HWL:Hid (∀i,(Wb N a i).length=mx):=fun i=>by rw[qdr,T.out]
  have HMQ:Hid (q=0->mx=0):=fun h0=>by rw[<-T.out,zdi (HQ.out.trans h0)];rfl
  have HML:Hid (∀v,a[q - 1]?=some v->(mx:Int)=v+1/\0<=v):=fun v t=>by
   have hvi:=HVI.out v (zaf t);exact⟨by rw[<-T.out];exact qd0 (by rw[List.getLast?_eq_getElem?,HQ.out];exact t) hvi.1,hvi.1⟩
  have T3:=qm O (.cells #[] 3);have hO:=zb7 (base:=O.heap.size) (e:=3) (size:=1) O #[] 0 (zad _) (zah _) rfl;clear KQ0 KQ1 HO1 HRR HVV;go_wp2_with fail
  go_loopw [7] (fun s wr=>∃(k b c:Nat),k<=mx/\s=.slice (some ⟨b,0,none⟩) k c/\wr.ownsRow O.heap.size 3 1 (.slice (some ⟨b,0,none⟩) k c) k (ints (List.replicate k 0))/\Below O.heap.size O wr) (fun s _=>mx - lenV s)
  case atStart=>exact⟨0,_,_,zah _,rfl,hO,T3⟩
  case round=>
   clear hO T3;obtain⟨k,b,c,hk,rfl,L,o⟩:=hrel;have ab:=qe o K
   by_cases hlt:k<mx
   .have hq0:0<q:=by
     rcases zdb q with h|h
     .have:=HMQ.out h;omega
     .exact h
    obtain⟨b2,o2,vv,v,rfl,hc,⟨rfl,hv0,hv1⟩,-,G⟩:=r7.at (k:=q - 1) (by omega);have hmv:=HML.out v G;obtain⟨p,hp⟩:∃p,p=q - 1:=⟨_,rfl⟩;rw[<-hp]at hc;replace hc:=qe o hc;have ep:(q:Int) - 1=(p:Int):=by omega
    have hp0:(0:Int)<=(p:Int):=by omega
    have hp1:(p:Int)<(q:Int):=by omega
    have hq1:(0:Int)<(q:Int):=by omega
    have hkv:(k:Int)<=v:=by omega
    have D:=o.size;clear G hp hmv ab
    go_wp2_with (at_builtin;refine app1 wr rfl _ _ 43 3 rfl (.int .i64 0) 8 za1 q14 rfl (by decide) O.heap.size k c _ _ rfl L (.int .i64 0) rfl rfl (by omega) D ?_;intro A3 c3 w3 hown3 hg3 hb3)
    obtain⟨b3,rfl,-,-⟩:=q2o hown3 (by omega)
    go_roundw
    case rel=>exact⟨k+1,b3,c3,by omega,rfl,by rw[List.replicate_succ',q3c];exact hown3,o.trans hb3⟩
    case measure=>simp[lenV];try omega
   .obtain rfl:k=mx:=by omega
    have hW0:(ints (List.replicate k 0))=ints (Wb N a 0):=by rw[qk3,T.out,q7z]
    rw[hW0]at L;clear hlt hW0
    rcases zdb q with hq0|hq0
    case' inl=>
     have hq1:¬(0:Int)<(q:Int):=by omega
     clear hq0 ab;go_wp2_with fail
    case' inr=>
     have hq1:(0:Int)<(q:Int):=by omega
     obtain⟨b2,o2,vv,v,e7,hc,⟨rfl,hv0,hv1⟩,-,G⟩:=r7.at (k:=q - 1) (by omega);have hmv:=HML.out v G;subst e7;obtain⟨p,hp⟩:∃p,p=q - 1:=⟨_,rfl⟩;rw[<-hp]at hc;replace hc:=qe o hc;have ep:(q:Int) - 1=(p:Int):=by omega
     have hp0:(0:Int)<=(p:Int):=by omega
     have hp1:(p:Int)<(q:Int):=by omega
     have hkv:¬(k:Int)<=v:=by omega
     clear G hp hmv ab;go_wp2_with fail;clear ep hp0 hp1 hkv hc hv0 hv1 hq0
    all_goals
     clear hq1
     go_loopw [8] (fun i wr=>∃j:Nat,j<=r/\i=.int .i64 j/\Hid (∀i,i<j->evT N x.2 (Wb N a (i+1)) e.1=evT N x.2 (Wb N a (i+1)) e.2)/\wr.ownsRow O.heap.size 3 1 (.slice (some ⟨b,0,none⟩) k c) k (ints (Wb N a j))/\Below O.heap.size O wr) (fun i _=>r - (intOf i).toNat)
     case atStart=>exact⟨0,zah _,rfl,(fun i hi=>absurd hi (by omega)),L,o⟩
     case round=>
      clear L o;obtain⟨j,hj,rfl,HALL,L,o⟩:=hrel;have kP0:=qe o K
      by_cases hlt:j<r
      .have hj0:(0:Int)<=(j:Int):=by omega
       have hj1:(j:Int)<(r:Int):=by omega
       have HA:=zaa (q59 j q N wr hN0 (by omega) (by omega) (by omega));have hgV:=(L.lt b rfl);go_wp2_with fail;refine(qbo N q r _ U.out hN8 HV6.out).mono ?_;rintro e1 w' ⟨rfl,rfl⟩;go_wp2_with fail;refine HA.out.mono ?_;rintro e1 w4 ⟨g,rfl,H,hb4⟩;have hgA:=H.lt g rfl;have hV4:=qp L hb4;have hT4:Below O.heap.size O w4:=o.trans (hb4.mono o.size);obtain⟨ds,HDS⟩:∃ds,Hid (digs N q j=ds):=⟨_,rfl⟩;have HDL:Hid (ds.length=q):=by show _=_;rw[<-HDS.out,q1t]
       rw[HDS.out]at H;have hgg:g≠b:=by omega
       clear L kP0 HA;go_wp2_with fail
       go_loopw [10] (fun i wi=>∃p:Nat,p<=q/\i=.int .i64 p/\wi.ownsRow wr.heap.size 3 1 (.slice (some ⟨g,0,none⟩) q q) q (ints (nats ds))/\wi.ownsRow O.heap.size 3 1 (.slice (some ⟨b,0,none⟩) k c) k (ints (setV a ds p (Wb N a j)))/\Below O.heap.size O wi) (fun i _=>q - (intOf i).toNat)
       case atStart=>exact⟨0,zah _,rfl,H,hV4,hT4⟩
       case round=>
        clear H hV4 hT4 o hb4;obtain⟨p,hp,rfl,H,L,F⟩:=hrel
        by_cases hlp:p<q
        .have hp0:(0:Int)<=(p:Int):=by omega
         have hp1:(p:Int)<(q:Int):=by omega
         obtain⟨b9,o9,vv,v,e8,hc,⟨rfl,hv0,hv1⟩,-,G⟩:=r7.at hlp
         first|subst e8|(injection e8 with e8;injection e8 with e81 e82;subst e81;subst e82)
         have hvi:=HVI.out v (zaf G);have hvm:=HVM.out v (zaf G);obtain⟨y,rfl⟩:=zan hvi.1;have hpl:p<ds.length:=by rw[HDL.out];exact hlp
         have hdp:ds[p]?=some ds[p]:=zae hpl
         generalize ds[p]=dd at hdp
         have hcd:wr.cell? ⟨g,p,none⟩=some (.int .i64 (dd:Int)):=by
          rw[H.cellAt p (by omega)];unfold ints nats;rw[za2,za2,hdp];rfl
         have hSL:(setV a ds p (Wb N a j)).length=k:=by rw[q8d,HWL.out]
         obtain⟨u,hcell⟩:∃u,wr.cell? ⟨b,y,none⟩=some u:=⟨_,(L.cellAt y (by omega)).trans (zae (by rw[q4t];omega))⟩;have hfz:=L.frozenAt y;have hst:=(L.stored y (.int .i64 (dd:Int))).1;rw[q2n]at hst;have HST:=zaa hst;have HSET:Hid (setV a ds (p+1) (Wb N a j)=(setV a ds p (Wb N a j)).set y (dd:Int)):=by
          show _=_
          rw[setV,zak,G,zak,hdp];simp
         replace hc:=qe F hc;have HOA2:=zaa (q5w H (p:=⟨b,y,none⟩) (by simp[Value.ownBlock];exact hgg) (.int .i64 (dd:Int)));have hy1:(y:Int)<(k:Int):=by omega
         clear G hdp H L hvm hst;go_upto_region 12 with fail
         go_region
         all_goals
          go_wp2_with fail
          go_roundw
          case rel=>exact⟨p+1,by omega,by go_num,HOA2.out,by rw[HSET.out];exact HST.out,by first|exact F.setCell hgV.1 _|exact(F.drew).setCell hgV.1 _|exact(qc F _).setCell hgV.1 _⟩
          case measure=>simp[intOf];try omega
        .obtain rfl:p=q:=by omega
         have hp1:¬(p:Int)<(p:Int):=by omega
         have HW1:Hid (setV a ds p (Wb N a j)=Wb N a (j+1)):=by show _=_;rw[Wb,HQ.out,HDS.out]
         rw[HW1.out]at L;obtain⟨VL,J⟩:∃l,Hid (Wb N a (j+1)=l):=⟨_,rfl⟩;obtain⟨eL,HEL⟩:∃z,Hid (evT N x.2 VL e.1=z):=⟨_,rfl⟩;obtain⟨eR,HER⟩:∃z,Hid (evT N x.2 VL e.2=z):=⟨_,rfl⟩;have X:Hid (∀y∈VL,0<=y/\y<=x.1 - 1):=fun y hy=>by rw[<-J.out]at hy;have:=qiu hN0 a (j+1) y hy;rw[HNN.out];exact this
         have Y:Hid (VL.length=k):=by show _=_;rw[<-J.out,HWL.out]
         have HVL1:Hid (∀v∈e.1,v<(VL.length:Int)):=fun v t=>by rw[Y.out];exact HVLL.out v t
         have HVR1:Hid (∀v∈e.2,v<(VL.length:Int)):=fun v t=>by rw[Y.out];exact HVRR.out v t
         have rV:RdL RI wr (some ⟨b,0,none⟩) k VL:=by
          rw[J.out]at L;exact q12 (R:=RI) L (q1r fun v t=>by have:=X.out v t;rw[HNN.out]at this;omega)
         have TT:=q9 T2 F rfl;have HC1:Hid (∀f,Below wr.heap.size wr f->Calls Tryz.prog 160 #[.agg #[.int .i64 (N:Int),.slice B m d],.slice AL I cL,.slice (some ⟨b,0,none⟩) k c] f (Bl f (.int .i64 (eL:Int)))):=fun f D=>by
          have:=q5v _ x AL (some ⟨b,0,none⟩) I cL k c e.1 VL f (H1.out f (q9 TT D rfl)) HX.out (HLL.out f (q9 TT D rfl)) (rV.next qd D) V.out HVL1.out X.out;rw[HNT.out,HEL.out,HNN.out]at this;exact this
         have HC2:Hid (∀f,Below wr.heap.size wr f->Calls Tryz.prog 160 #[.agg #[.int .i64 (N:Int),.slice B m d],.slice AR M cR,.slice (some ⟨b,0,none⟩) k c] f (Bl f (.int .i64 (eR:Int)))):=fun f D=>by
          have:=q5v _ x AR (some ⟨b,0,none⟩) M cR k c e.2 VL f (H1.out f (q9 TT D rfl)) HX.out (HR.out f (q9 TT D rfl)) (rV.next qd D) W.out HVR1.out X.out;rw[HNT.out,HER.out,HNN.out]at this;exact this
         have ab:=qe F K;have dP1:=qe F aa;have dQ0:=qe F P;have dQ1:=qe F Q;obtain⟨bb,HBB⟩:∃b,Hid (((eL:Int) !=(eR:Int))=b):=⟨_,rfl⟩;have n:Below wr.heap.size wr wr:=zac _ _;clear rV H;go_upto_region 13 with fail
         go_cut [77]from 67 to 78 (fun u77 wx=>u77=.bool bb/\Below wr.heap.size wr wx)
         case first=>
          go_region_held3 (fun w'=>w'.cell? ⟨w.heap.size,0,none⟩=some (.int .i64 (N:Int))/\w'.cell? ⟨w.heap.size,1,none⟩=some (.slice B m d)/\w'.cell? ⟨w.heap.size+1,0,none⟩=some (.slice AL I cL)/\w'.cell? ⟨w.heap.size+1,1,none⟩=some (.slice AR M cR)) (first|go_keep|exact⟨qe n ab,qe n dP1,qe n dQ0,qe n dQ1⟩) (first
           |(go_at_call 160;(with_reducible refine(HC1.out _ ?_).mono ?_);(first|exact n|exact zai n|exact qc (zac _ _) _|exact qc n _);rintro e1 wn ⟨rfl,hbn⟩;replace n:=q9 (by first|exact n|exact zai n|exact qc (zac _ _) _|exact qc n _) hbn rfl)
           |(go_at_call 160;(with_reducible refine(HC2.out _ ?_).mono ?_);(first|exact n|exact zai n|exact qc (zac _ _) _|exact qc n _);rintro e1 wn ⟨rfl,hbn⟩;replace n:=q9 (by first|exact n|exact zai n|exact qc (zac _ _) _|exact qc n _) hbn rfl))
          all_goals
           go_wp2_with fail;go_meet;exact⟨by rw[<-HBB.out],by first|exact n|exact zai n⟩
         case rest=>
          obtain⟨rfl,hTc⟩:=hcut;have hTn:=q9 F hTc rfl;have hVc:=qp L hTc;obtain⟨w9,HWC⟩:∃wq:World,wq=wc:=⟨_,rfl⟩;subst HWC
          rcases bb with _|_
          .have HEQ:Hid (evT N x.2 (Wb N a (j+1)) e.1=evT N x.2 (Wb N a (j+1)) e.2):=by
            show _=_
            have:=HBB.out;rw[J.out,HEL.out,HER.out];have h2:(eL:Int)=(eR:Int):=by simpa using this
            omega
           have HALL2:Hid (∀i,i<j+1->evT N x.2 (Wb N a (i+1)) e.1=evT N x.2 (Wb N a (i+1)) e.2):=fun i hi=>by
            by_cases e:i=j
            .subst e;exact HEQ.out
            .exact HALL.out i (by omega)
           go_wp2_with fail
           go_roundw
           case rel=>exact⟨j+1,by omega,by go_num,HALL2,hVc,hTn⟩
           case measure=>simp[intOf];try omega
          .have HNE:Hid (tt (q5h N x.2 e.1 e.2)=false):=by
            refine(q2r fun hh=>?_).symm;have h1:=S.out.1 hh j hlt;have:=HBB.out;rw[J.out,HEL.out,HER.out]at h1;rw[h1]at this;simp at this
           go_wp2_with fail
           go_ret2
           exact⟨_,by rw[HNE.out];rfl,q9 T02 hTn rfl⟩
      .have hj1:¬(j:Int)<(r:Int):=by omega
       have HYES:Hid (tt (q5h N x.2 e.1 e.2)=true):=(q6o (S.out.2 fun i hi=>HALL.out i (by omega))).symm;go_wp2_with fail;refine(qbo N q r _ U.out hN8 HV6.out).mono ?_;rintro e1 w' ⟨rfl,rfl⟩;go_wp2_with fail
       go_ret2
       exact⟨_,by rw[HYES.out];rfl,(q9 T02 o rfl).alloc (za7 T02.size o.size) _⟩
theorem qgb (cs ds:List Value) (x:qi) (e:q1g) (w:World) (h:qf.rd w cs x) (k:qw.rd w ds e) (p:AlgP x) (o:askB x.1.toNat x.2 e.1 e.2=true):
  Calls Tryz.prog 99 #[.agg cs.toArray,.agg ds.toArray] w (Bl w (.bool (tt (q5h x.1.toNat x.2 e.1 e.2)))):=by
 have c:=h;have a:=k;obtain⟨B,m,d,rfl,-,H⟩:=qv h;obtain⟨q,F,y,r,G,E,rfl,I,J⟩:=q1k k;obtain⟨K,g,j,f,s,t⟩:=q1q w #[.int .i64 x.1,.slice B m d] #[.slice q F y,.slice r G E] 24 55;have i:=zaa g;have u:=zaa (qcw _ _ x e K (qf.stab c j.block) (qw.stab a j.block) p o);obtain⟨z,A⟩:=cl2 s;obtain⟨C,D⟩:=cl2 t;obtain⟨b,n⟩:∃b,Hid (tt (q5h x.1.toNat x.2 e.1 e.2)=b):=⟨_,rfl⟩;clear g f c a H I J h k p o
 go_enter Tryz.func99,Tryz.ntmps99
 go_upto_region 1 with fail;rw[<-i.out];go_wp2_with fail;refine u.out.mono ?_;rintro L M ⟨v,rfl,l⟩;rw[n.out]
 rcases b with _|_
 all_goals
  go_wp2_with fail;go_ret;exact⟨qg (by rw[n.out]),q9 j l rfl⟩
theorem qea (cs ds:List Value) (x:qi) (e:q1g) (J:Option Addr) (E X:Nat) (V:List Int) (w:World) (h:qf.rd w cs x) (h':qw.rd w ds e) (i:RdL RI w J E V) (hx:AlgP x) (hA:askB x.1.toNat x.2 e.1 e.2=true):
  Calls Tryz.prog 100 #[.agg cs.toArray,.agg ds.toArray,.slice J E X] w (Bl w (.bool (q3f x.1.toNat x.2 e.1 e.2 V))):=by
 have hrd:=h;have hrd':=h';obtain⟨B,m,d,rfl,-,qo⟩:=qv h;obtain⟨S,t,cL,T,D,cR,rfl,rL,rR⟩:=q1k h';obtain⟨I,hw0,T0,hsz0,BP,BQ⟩:=q1q w #[.int .i64 x.1,.slice B m d] #[.slice S t cL,.slice T D cR] 24 55;have ab:=zaa hw0;have H1:Hid (∀a,Below I.heap.size I a->qf.rd a [.int .i64 x.1,.slice B m d] x):=fun a j=>qf.stab (qf.stab hrd T0.block) j.block
 have HLL:Hid (∀a,Below I.heap.size I a->RdL RI a S t e.1):=fun a j=>(rL.next qd T0).next qd j
 have HR:Hid (∀a,Below I.heap.size I a->RdL RI a T D e.2):=fun a j=>(rR.next qd T0).next qd j
 have HLB:=zaa rL.bounds;have HRB:=zaa rR.bounds;have HNL:=zaa rL.len;have HNR:=zaa rR.len;have HX:=zaa hx;obtain⟨M,cP1⟩:=cl2 BP;obtain⟨O,P⟩:=cl2 BQ;obtain⟨N,hN⟩:∃N:Nat,x.1=(N:Int):=⟨x.1.toNat,by have:=hx.1;omega⟩;have Z:=zaa hN;have hN8:N<=8:=by have:=hx.2.1;omega
 have hN1:1<=N:=by have:=hx.1;omega
 have hN0:0<N:=hN1;have aa:Hid (x.1.toNat=N):=by show _=_;omega
 rw[hN]at M;rw[aa.out];rw[hN]at ab;obtain⟨f,r⟩:∃l,Hid (q35 e.1 e.2=l):=⟨_,rfl⟩;have HV6:Hid (f.length<=6):=by show _<=6;rw[<-r.out];exact qaz _ _
 have HVI:Hid (∀v∈f,0<=v/\v<=5):=by rw[<-r.out];exact q55 _ _
 have F:=zaa (q57 hA).1;have G:=zaa (q57 hA).2;have hnL:t<=60:=by have:=(q28 F.out).1;have:=HNL.out;omega
 have hnR:D<=60:=by have:=(q28 G.out).1;have:=HNR.out;omega
 have HV:Hid (∀a,Below I.heap.size I a->RdL RI a J E V):=fun a j=>(i.next qd T0).next qd j
 have L:=zaa i.len;have hnle:=i.le;have HVL0:Hid (∀v∈e.1,v<(mxV f:Int)):=by rw[<-r.out];exact fun v i=>q6q F.out G.out (.inl i)
 have HVR0:Hid (∀v∈e.2,v<(mxV f:Int)):=by rw[<-r.out];exact fun v i=>q6q F.out G.out (.inr i)
 rw[hN];clear hw0 hsz0 hrd hrd' rL rR qo hx h h' hN hA i;obtain⟨n,H⟩:∃n:World,n=I:=⟨_,rfl⟩;rw[<-H]at M cP1 O P;have TV:Below I.heap.size I n:=by rw[H];exact zac _ _
 rw[<-H]at ab;have TV0:Below w.heap.size w n:=by rw[H];exact T0
 clear H
 go_enter Tryz.func100,Tryz.ntmps100
 go_upto_region 1 with fail;rw[<-ab.out];have HO1:Hid (∀a,Below n.heap.size n a->Calls Tryz.prog 110 #[.slice S t cL] a fun e1 w'=>∃A' c',e1=.returned (.slice A' t c')/\w'.ownsRow a.heap.size 3 1 (.slice A' t c') t (ints e.1)/\Below a.heap.size a w'):=fun a j=>q2s S t cL e.1 a ((HLL.out n TV).next qd j) (by omega)
 have HRR:Hid (∀a,Below n.heap.size n a->RdL RI a T D e.2):=fun a j=>(HR.out n TV).next qd j
 have KQ0:Hid (∀a,Below n.heap.size n a->a.cell? ⟨w.heap.size+1,0,none⟩=some (.slice S t cL)):=fun a j=>qe j O
 have KQ1:Hid (∀a,Below n.heap.size n a->a.cell? ⟨w.heap.size+1,1,none⟩=some (.slice T D cR)):=fun a j=>qe j P
 have HVV:Hid (∀(A:Option Addr) (c:Nat) (a:World),Below n.heap.size n a->a.ownsRow n.heap.size 3 1 (.slice A (t+D) c) (t+D) (ints (e.1++e.2))->Calls Tryz.prog 158 #[.slice A (t+D) c] a (OwI a f)):=fun A c a j ho=>by
  have:=q8r A (t+D) c (e.1++e.2) a (q12 (R:=RI) ho (q1r fun v i=>by
   rcases zau.1 i with i|i
   .exact HLB.out v i
   .exact HRB.out v i)) (fun v i=>by
   rcases zau.1 i with i|i
   .exact(q1v (q2y F.out v i)).1
   .exact(q1v (q2y G.out v i)).1)
  rwa [show q1m 6 (varM (e.1++e.2))=f from(q22 fun y _=>qdo e.1 e.2 y).trans r.out]at this
 have HVB:Hid (∀v∈f, -9223372036854775808<=v/\v<=9223372036854775807):=by rw[<-r.out];exact fun v i=>by have:=q55 e.1 e.2 v i;omega
 go_upto_region 1 with fail
 go_cut [7]from 9 to 15 (fun u7 wx=>∃A7 c7,u7=.slice A7 f.length c7/\RdL RI wx A7 f.length f/\Below n.heap.size n wx)
 case first=>
  have g:Below n.heap.size n n:=zac _ _
  go_region_law (first
   |(go_simp;go_at_call 110;(with_reducible refine(HO1.out _ ?_).mono ?_);(first|exact g|exact qc g _);rintro e1 w5 ⟨A5,c5,rfl,ho5,hb5⟩;replace g:=q9 (by first|exact g|exact qc g _) hb5 rfl;have cE0:=KQ0.out _ g;have cE1:=KQ1.out _ g)
   |(refine q1b (R:=RI) _ rfl (.tmp 11) (.tmp 13) 43 3 rfl (.int .i64 0) 8 za1 q14 rfl (by decide) n.heap.size t c5 A5 (ints e.1) (by rfl) (by exact ho5) T D cR e.2 (fun y=>.int .i64 y) (fun _=>rfl) (by rfl) (HRR.out _ (by first|exact g|exact qc g _)) (fun _ _ _ hr=>hr.1) (by omega) (by exact g.size) ?_;intro A6 c6 w6 hown6 hg6 hb6;have T6:Below n.heap.size n w6:=(by first|exact g.trans hb6|exact(qc g _).trans hb6);have hown7:w6.ownsRow n.heap.size 3 1 (.slice A6 (t+D) c6) (t+D) (ints (e.1++e.2)):=(by simpa[ints]using hown6))
   |(go_simp;go_at_call 158;refine(HVV.out A6 c6 _ ?_ ?_).mono ?_;(first|exact T6|exact qc T6 _);(exact hown7);rintro e2 w7 ⟨A7,c7,rfl,ho7,hb7⟩;have W:=q9 (by first|exact T6|exact qc T6 _) hb7 rfl;have r7:=q12 (R:=RI) ho7 (q1r HVB.out)))
  all_goals
   go_wp2_with fail;go_meet;exact⟨A7,c7,rfl,r7,W⟩
 case rest=>
  obtain⟨A7,c7,rfl,r7,W⟩:=hcut;obtain⟨wr,ac⟩:∃wq:World,wq=wc:=⟨_,rfl⟩;subst ac;obtain⟨q,HQ⟩:∃q,Hid (f.length=q):=⟨_,rfl⟩;rw[HQ.out]at r7 HV6⊢;have hq6:=HV6.out;have dP0:=qe W M;have dP1:=qe W cP1;have dQ0:=qe W O;have dQ1:=qe W P;have TT:=q9 TV W rfl;have s:=q9 TV0 W rfl;obtain⟨Q,C⟩:∃Q,Hid (mxV f=Q):=⟨_,rfl⟩;have hm6:Q<=6:=by rw[<-C.out,<-r.out];exact qoa _ _
  clear KQ0 KQ1 HO1 HRR HVV M cP1 O P
  go_upto_if 18 with fail
  go_cut [8,18]from 19 to 25 (fun u8 _ wx=>u8=.int .i64 (Q:Int)/\wx=wr)
  case first=>
   rcases zdb q with h0|h0
   .have hv0:f= []:=zdi (by rw[HQ.out];exact h0)
    have hm0:Q=0:=by rw[<-C.out,hv0];rfl
    subst h0;subst hm0;go_wp2_with fail;go_meet;exact⟨rfl,rfl⟩
   .have hq0:(0:Int)<(q:Int):=by omega
    obtain⟨b,o,vv,v,rfl,hc,⟨rfl,hv0,hv1⟩,-,hxv⟩:=r7.at (k:=q - 1) (by omega);have hvi:=HVI.out v (zaf hxv);have hmx:(Q:Int)=v+1:=by rw[<-C.out];exact qd0 (by rw[List.getLast?_eq_getElem?,HQ.out];exact hxv) hvi.1
    obtain⟨p,hp⟩:∃p,p=q - 1:=⟨_,rfl⟩;rw[<-hp]at hc;have ep:(q:Int) - 1=(p:Int):=by omega
    have hp0:(0:Int)<=(p:Int):=by omega
    have hp1:(p:Int)<(q:Int):=by omega
    have em:v+1=(Q:Int):=by omega
    clear hxv hp hmx;go_wp2_with fail;go_meet;exact⟨rfl,rfl⟩
  case rest=>
   obtain⟨rfl,hwc⟩:=hcut;subst hwc;obtain⟨ins,K⟩:∃b,Hid (q1z 0 ((N:Int) - 1) V=b):=⟨_,rfl⟩;obtain⟨wr,ac⟩:∃wq:World,wq=wc:=⟨_,rfl⟩;subst ac
   by_cases hnm:E=Q
   rotate_left
   .have u:Hid (q3f N x.2 e.1 e.2 V=false):=by show _=_;unfold q3f;rw[r.out,C.out,L.out,zbi hnm,Bool.false_and,zd9]
    have hd1:((E:Int)==(Q:Int))=false:=by rw[zbj];omega
    clear r7;go_upto_region 5 with fail
    go_quiet (fail)
    go_wp2_with fail;go_ret;exact⟨qg u.out.symm,(by first|exact s|exact qc (s) _|exact qc (qc (s) _) _|exact qc (qc (qc (s) _) _) _)⟩
   subst hnm;have hd1:((E:Int)==(E:Int))=true:=by rw[zdx]
   have HEl:Hid (∀a,Calls Tryz.prog 115 #[.int .i64 (N:Int),.slice J E X] a (fun e1 w'=>e1=.returned (.bool ins)/\a=w')\/True):=fun a=>.inr trivial
   have Y:Hid (∀a,Below wr.heap.size wr a->Calls Tryz.prog 115 #[.int .i64 (N:Int),.slice J E X] a (Qt a (.bool ins))):=fun a j=>by
    have:=q52 J E X V (N:Int) a (HV.out a (q9 TT j rfl)) (by omega) (by omega);rw[K.out]at this
    first|exact this|exact q2b this
   clear HEl
   rcases ins with _|_
   .have u:Hid (q3f N x.2 e.1 e.2 V=false):=by show _=_;unfold q3f;rw[K.out];rfl
    clear r7;go_upto_region 5 with fail
    go_quiet ((go_at_call 115;first|exact q1o (Y.out _ (by first|exact zac _ _|exact qc (zac _ _) _))|exact q1f (Y.out _ (by first|exact zac _ _|exact qc (zac _ _) _))))
    go_wp2_with fail;go_ret;exact⟨qg u.out.symm,(by first|exact s|exact qc (s) _|exact qc (qc (s) _) _|exact qc (qc (qc (s) _) _) _)⟩
   .obtain⟨eL,HEL⟩:∃z,Hid (evT N x.2 V e.1=z):=⟨_,rfl⟩
    obtain⟨eR,HER⟩:∃z,Hid (evT N x.2 V e.2=z):=⟨_,rfl⟩;obtain⟨bb,HBB⟩:∃b,Hid (((eL:Int) !=(eR:Int))=b):=⟨_,rfl⟩;have HIV:=zaa (q3e.1 K.out);have U:Hid (∀y∈V,0<=y/\y<=x.1 - 1):=fun y hy=>by have:=HIV.out y hy;rw[Z.out];exact this
    have HVL1:Hid (∀v∈e.1,v<(V.length:Int)):=fun v i=>by rw[L.out];have:=HVL0.out v i;rw[C.out]at this;exact this
    have HVR1:Hid (∀v∈e.2,v<(V.length:Int)):=fun v i=>by rw[L.out];have:=HVR0.out v i;rw[C.out]at this;exact this
    have u:Hid (q3f N x.2 e.1 e.2 V=bb):=by
     show _=_
     unfold q3f;rw[K.out,r.out,C.out,L.out,HEL.out,HER.out,<-HBB.out,zbh rfl,zdo,zdo];rw[zcc,zax,bne_iff_ne];exact⟨fun h hh=>h (by omega),fun h hh=>h (by omega)⟩
    have rV:=HV.out wr TT;have HC1:Hid (∀a,Below wr.heap.size wr a->Calls Tryz.prog 160 #[.agg #[.int .i64 (N:Int),.slice B m d],.slice S t cL,.slice J E X] a (Bl a (.int .i64 (eL:Int)))):=fun a j=>by
     have:=q5v _ x S J t cL E X e.1 V a (H1.out a (q9 TT j rfl)) HX.out (HLL.out a (q9 TT j rfl)) (rV.next qd j) F.out HVL1.out U.out;rw[aa.out,HEL.out,Z.out]at this;exact this
    have HC2:Hid (∀a,Below wr.heap.size wr a->Calls Tryz.prog 160 #[.agg #[.int .i64 (N:Int),.slice B m d],.slice T D cR,.slice J E X] a (Bl a (.int .i64 (eR:Int)))):=fun a j=>by
     have:=q5v _ x T J D cR E X e.2 V a (H1.out a (q9 TT j rfl)) HX.out (HR.out a (q9 TT j rfl)) (rV.next qd j) G.out HVR1.out U.out;rw[aa.out,HER.out,Z.out]at this;exact this
    have g:Below wr.heap.size wr wr:=zac _ _;clear rV r7;go_upto_region 5 with fail
    go_region_held3 (fun w'=>w'.cell? ⟨w.heap.size,0,none⟩=some (.int .i64 (N:Int))/\w'.cell? ⟨w.heap.size,1,none⟩=some (.slice B m d)/\w'.cell? ⟨w.heap.size+1,0,none⟩=some (.slice S t cL)/\w'.cell? ⟨w.heap.size+1,1,none⟩=some (.slice T D cR)) (first|go_keep|exact⟨qe g dP0,qe g dP1,qe g dQ0,qe g dQ1⟩) (first
     |(go_at_call 160;(with_reducible refine(HC1.out _ ?_).mono ?_);(first|exact g|exact zai g|exact qc (zac _ _) _|exact qc g _);rintro e1 wn ⟨rfl,hbn⟩;replace g:=q9 (by first|exact g|exact zai g|exact qc (zac _ _) _|exact qc g _) hbn rfl)
     |(go_at_call 160;(with_reducible refine(HC2.out _ ?_).mono ?_);(first|exact g|exact zai g|exact qc (zac _ _) _|exact qc g _);rintro e1 wn ⟨rfl,hbn⟩;replace g:=q9 (by first|exact g|exact zai g|exact qc (zac _ _) _|exact qc g _) hbn rfl)
     |(go_at_call 115;(refine(Y.out _ ?_).mono ?_);(first|exact g|exact zai g|exact qc (zac _ _) _|exact qc g _);rintro e1 wn ⟨rfl,zn,rfl⟩))
    all_goals
     go_wp2_with fail;go_ret;exact⟨qg (by rw[u.out,<-HBB.out]),q9 s (by first|exact g|exact zai g) rfl⟩
def StTo (n:Nat) (ops:List OpM) (L:List Bool) (k q y:Nat):Prop:=∃j o i,ops[j]?=some o/\(j<k\/(j=k/\i<q))/\i<o.2.length/\AllM n o.1.toNat i L=true/\nmAt o.2 i=y
structure StI (n:Nat) (ops:List OpM) (L M:List Bool) (k q:Nat):Prop where
 len:M.length=n
 val:∀y,y<n->(gB M y=true↔gB L y=true\/StTo n ops L k q y)
theorem StI.start {n:Nat} {ops:List OpM} {L:List Bool} (h:L.length=n):StI n ops L L 0 0:=⟨h,fun y b=>⟨.inl,fun a=>a.elim id fun⟨j,o,i,_,h,_⟩=>by omega⟩⟩
theorem StI.skip {n:Nat} {ops:List OpM} {L M:List Bool} {k q:Nat} {o:OpM} (h:StI n ops L M k q) (m:ops[k]?=some o) (l:AllM n o.1.toNat q L=false):StI n ops L M k (q+1):=⟨h.len,fun y p=>by
 rw[h.val y p];refine or_congr Iff.rfl ⟨fun⟨j,d,i,a,f,b⟩=>⟨j,d,i,a,by omega,b⟩,fun⟨j,d,i,a,f,b,c,g⟩=>⟨j,d,i,a,?_,b,c,g⟩⟩
 by_cases e:j=k/\i=q
 .obtain⟨rfl,rfl⟩:=e
  rw[m]at a;injection a with a
  subst a;rw[l]at c;cases c
 .omega⟩
theorem StI.mark {n:Nat} {ops:List OpM} {L M:List Bool} {k q v:Nat} {o:OpM} (h:StI n ops L M k q) (l:ops[k]?=some o) (m:o.2[q]?=some (v:Int)) (c:v<n) (s:AllM n o.1.toNat q L=true):StI n ops L (M.set v true) k (q+1):=⟨by rw[zcg];exact h.len,fun y u=>by
 rw[qe1 (by rw[h.len];exact c)];have g:nmAt o.2 q=v:=by rw[q1d m];simp
 have t:=(zag.1 m).1
 by_cases e:y=v
 .subst e
  rw[zam rfl];exact⟨fun _=>.inr ⟨k,o,q,l,.inr ⟨rfl,by omega⟩,t,s,g⟩,fun _=>rfl⟩
 .rw[zaj e,h.val y u]
  refine or_congr Iff.rfl ⟨fun⟨j,d,i,a,p,b⟩=>⟨j,d,i,a,by omega,b⟩,fun⟨j,d,i,a,p,b,r,f⟩=>⟨j,d,i,a,?_,b,r,f⟩⟩
  by_cases e2:j=k/\i=q
  .obtain⟨rfl,rfl⟩:=e2
   rw[l]at a;injection a with a
   subst a;exact absurd (f.symm.trans g) e
  .omega⟩
theorem StI.next {n:Nat} {ops:List OpM} {L M:List Bool} {k q:Nat} {o:OpM} (h:StI n ops L M k q) (g:ops[k]?=some o) (m:¬q<o.2.length):StI n ops L M (k+1) 0:=⟨h.len,fun y l=>by
 rw[h.val y l];refine or_congr Iff.rfl ⟨fun⟨j,c,i,a,d,b⟩=>⟨j,c,i,a,by omega,b⟩,fun⟨j,c,i,a,d,b,f⟩=>⟨j,c,i,a,?_,b,f⟩⟩
 by_cases e:j=k
 .subst e
  rw[g]at a;injection a with a
  subst a;omega
 .omega⟩
theorem StI.done {n:Nat} {ops:List OpM} {L M:List Bool} {k q:Nat} (h:StI n ops L M k q) (m:¬k<ops.length):M=stL n ops L:=by
 refine qkq (n:=n) h.len (qh0 _ _ _) fun y e=>?_
 rw[qde e,zcc,zee,q2h,h.val y e];refine or_congr Iff.rfl ⟨fun⟨j,o,i,f,l,a,b,c⟩=>⟨o,zaf f,i,a,b,c⟩,fun⟨o,g,i,a,b,c⟩=>?_⟩;obtain⟨j,d⟩:=zbo g;have:=(zag.1 d).1;exact⟨j,o,i,d,.inl (by omega),a,b,c⟩
theorem qnt (A:Option Addr) (m c n:Nat) (S:List Int) (w:World) (h:RdL RI w A m S) (hS:∀v∈S,0<=v/\v<=(n:Int) - 1) (N:n<=1000):
  Calls Tryz.prog 164 #[.int .i64 n,.slice A m c] w fun e w'=>e=.returned (.slice (some ⟨w.heap.size,0,none⟩) n n)/\w'.ownsRow w.heap.size 4 1 (.slice (some ⟨w.heap.size,0,none⟩) n n) n (bls (inL n S))/\Below w.heap.size w w':=by
 have D:=zaa hS;have C:=zaa h.len;have H:=h.le;clear hS
 go_enter Tryz.func164,Tryz.ntmps164
 go_wp2_with (at_make;refine qam w rfl _ _ rfl n rfl rfl (by omega) ?_;intro O d l)
 have j:=(zac w.heap.size w).grown l (zad _) (by simp);clear l
 go_loopw [6] (fun i wr=>∃k:Nat,k<=m/\i=.int .i64 k/\wr.ownsRow w.heap.size 4 1 (.slice (some ⟨w.heap.size,0,none⟩) n n) n (bls (inL n (S.take k)))/\Below w.heap.size w wr) (fun i _=>m - (intOf i).toNat)
 case atStart=>
  refine⟨0,zah _,rfl,?_,j⟩;have e:inL n (S.take 0)=List.replicate n false:=by
   unfold inL;rw[zcw];exact List.eq_replicate_iff.2 ⟨by simp,fun b E=>by obtain⟨y,-,rfl⟩:=zbe.1 E;rfl⟩
  rw[e];exact d
 case round=>
  clear d j;obtain⟨k,M,rfl,a,f⟩:=hrel
  by_cases hlt:k<m
  .have G:(0:Int)<=(k:Int):=by omega
   have s:(k:Int)<(m:Int):=by omega
   obtain⟨b,o,u,v,rfl,B,⟨rfl,I,J⟩,-,z⟩:=h.at hlt;have t:=D.out v (zaf z);obtain⟨x,rfl⟩:=zan t.1;have q:x<n:=by omega
   have g:=zaa (qco z q);replace B:=qe f B;have r:wr.cell? ⟨w.heap.size,x,none⟩=some (.bool (gB (inL n (S.take k)) x)):=by rw[a.cellAt x (by omega),q66 (by rw[q5s];exact q)]
   have F:=a.frozenAt x;have p:=(a.stored x (.bool true)).1;rw[q7i,g.out]at p;have K:(0:Int)<=(x:Int):=by omega
   have L:(x:Int)<(n:Int):=by omega
   clear z a;go_wp2_with fail
   go_roundw
   case rel=>exact⟨k+1,by omega,by go_num,p,f.setCell (zad _) _⟩
   case measure=>simp[intOf];try omega
  .have s:¬(k:Int)<(m:Int):=by omega
   rw[zar (by rw[C.out];omega)]at a;go_wp2_with fail;go_ret;exact⟨rfl,a,f⟩
theorem qjf (cs:List Value) (x:qi) (A:Option Addr) (n c:Nat) (L:List Bool) (w:World) (h:qf.rd w cs x) (hx:AlgP x) (hn:x.1=(n:Int)) (hr:RdL RB w A n L):
  Calls Tryz.prog 165 #[.agg cs.toArray,.slice A n c] w fun e w'=>∃A' c',e=.returned (.slice A' n c')/\w'.ownsRow w.heap.size 4 1 (.slice A' n c') n (bls (stL n x.2 L))/\Below w.heap.size w w':=by
 obtain⟨a,C⟩:=x;obtain⟨hx1,hx2,X,K⟩:=hx;simp only at hx1 hx2 X K hn;subst hn;rw[za5]at K;have V:0<n:=by omega
 have hn8:n<=8:=by omega
 obtain⟨B,m,d,rfl,-,qo⟩:=qv h;have HML:=zaa qo.len;have HOPS:=zaa K;have hm4:m<=4:=by rw[<-qo.len];exact X
 have HLL:=zaa hr.len;obtain⟨u,hw0,T0,hsz0,BP⟩:=q15 w #[.int .i64 (n:Int),.slice B m d] 24;have HW0:=zaa hw0;replace qo:=qo.next T0;have r0:=hr.next qax T0;obtain⟨cP0,S⟩:=cl2 BP;have T:=qm u (.cells #[] 4);have r1:=r0.next qax T;have hO:(u.alloc (.cells #[] 4)).ownsRow u.heap.size 4 1 (.slice (some ⟨u.heap.size,0,none⟩) 0 0) 0 []:=zb7 u #[] 0 (zad _) (zah _) rfl;clear hw0 hsz0 X K h hr
 go_enter Tryz.func165,Tryz.ntmps165
 go_upto_region 1 with fail;rw[<-HW0.out]
 go_wp2_with (at_builtin;refine qk7 (R:=RB) _ rfl _ _ 146 4 rfl (.bool false) 1 Tryz.underlying146 qkw rfl (by decide) u.heap.size 0 0 _ [] rfl hO A n c L (fun b=>.bool b) (fun _=>rfl) rfl r1 (fun _ _ _ hr=>hr) (by omega) (by simp) ?_;intro A5 c5 w5 t U hb5)
 rw[show 0+n=n from zcn n,zch]at t;obtain⟨g5,rfl,-,-⟩:=q2o t V;have T5:=T.trans hb5;clear hO r1 T hb5 U;go_wp2_with fail
 go_loopw [6] (fun i wr=>∃(k:Nat) (M:List Bool),k<=m/\i=.int .i64 k/\Hid (StI n C L M k 0)/\wr.ownsRow u.heap.size 4 1 (.slice (some ⟨g5,0,none⟩) n c5) n (bls M)/\Below u.heap.size u wr) (fun i _=>m - (intOf i).toNat)
 case atStart=>exact⟨0,L,zah _,rfl,StI.start HLL.out,t,T5⟩
 case round=>
  clear t T5;obtain⟨k,M,hk,rfl,O,r,j⟩:=hrel;have E:=qe j S
  by_cases hlt:k<m
  .have hk0:(0:Int)<=(k:Int):=by omega
   have hk1:(k:Int)<(m:Int):=by omega
   obtain⟨b,o,vs,op,rfl,-,hc,hrr,-,Y⟩:=qo.at hlt;obtain⟨B',N,d',rfl,-,qt⟩:=rdOp hrr;have J:=HOPS.out op (zaf Y);obtain⟨f,tb,rfl,har⟩:=q89 J;have Q:=zaa Y;have HTL:Hid (N=n ^ f):=by show _=_;rw[<-qt.len];have:=J.2.2.1;simpa using this
   have HTB:Hid (tb.length=N):=qt.len;have HTV:=zaa J.2.2.2;have hm512:N<=4096:=by rw[HTL.out];exact q47 hn8 (by omega)
   have cc0:u.cell? ⟨b,o+k*2,none⟩=some (.int .i64 (f:Int)):=hc 0 _ rfl;have cc1:u.cell? ⟨b,o+k*2+1,none⟩=some (.slice B' N d'):=hc 1 _ rfl;clear hc hrr Y J;go_wp2_with fail;clear E
   go_loopw [7] (fun i wr=>∃(q:Nat) (M:List Bool),q<=N/\i=.int .i64 q/\Hid (StI n C L M k q)/\wr.ownsRow u.heap.size 4 1 (.slice (some ⟨g5,0,none⟩) n c5) n (bls M)/\Below u.heap.size u wr) (fun i _=>N - (intOf i).toNat)
   case atStart=>exact⟨0,M,zah _,rfl,O,r,j⟩
   case round=>
    clear r O j;obtain⟨q,M,hq,rfl,O,r,j⟩:=hrel;have kP0:=qe j cP0;have E:=qe j S;have kc0:=qe j cc0;have kc1:=qe j cc1
    by_cases hlq:q<N
    .have hq0:(0:Int)<=(q:Int):=by omega
     have hq1:(q:Int)<(N:Int):=by omega
     have HA:Hid (∀wz,Below wr.heap.size wr wz->Calls Tryz.prog 116 #[.int .i64 (n:Int),.int .i64 (f:Int),.int .i64 (q:Int)] wz fun e w'=>∃g,e=.returned (.slice (some ⟨g,0,none⟩) f f)/\w'.ownsRow wz.heap.size 3 1 (.slice (some ⟨g,0,none⟩) f f) f (ints (nats (digs n f q)))/\Below wz.heap.size wz w'):=fun wz hz=>q59 q f n wz V (by omega) (by omega) (by omega)
     have F:Below wr.heap.size wr wr:=zac _ _;go_upto_region 8 with fail
     go_cut [8]from 32 to 69 (fun u8 wx=>∃g,u8=.slice (some ⟨g,0,none⟩) f f/\wx.ownsRow wr.heap.size 3 1 (.slice (some ⟨g,0,none⟩) f f) f (ints (nats (digs n f q)))/\Below wr.heap.size wr wx)
     case first=>
      go_region_held3 (fun w'=>w'.cell? ⟨w.heap.size,0,none⟩=some (.int .i64 (n:Int))/\w'.cell? ⟨w.heap.size,1,none⟩=some (.slice (some ⟨b,o,none⟩) m d)/\w'.cell? ⟨b,o+k*2,none⟩=some (.int .i64 (f:Int))) (first|go_keep|exact⟨qe F kP0,qe F E,qe F kc0⟩) (first
       |(go_at_call 116;(with_reducible refine(HA.out _ ?_).mono ?_);(first|exact F|exact zai F);rintro e wn ⟨g,rfl,hon,hbn⟩;replace F:=q9 (by first|exact F|exact zai F) hbn rfl))
      all_goals
       have HON:=zaa hon;clear hon;go_wp2_with fail;go_meet;exact⟨g,rfl,HON.out,by first|exact F|exact zai F⟩
     case rest=>
      obtain⟨g,rfl,hoA,hTc⟩:=hcut;obtain⟨w9,HWC⟩:∃wq:World,wq=wc:=⟨_,rfl⟩;subst HWC;have s:=qp r hTc;have T9:=q9 j hTc rfl;have rL:=r0.next qax T9;obtain⟨H,G⟩:∃l,Hid (digs n f q=l):=⟨_,rfl⟩;have HDN:Hid (∀dd∈H,dd<n):=fun dd hdd=>by rw[<-G.out]at hdd;exact q20 V hdd
      have HDL:Hid (H.length=f):=by show _=_;rw[<-G.out,q1t]
      rw[G.out]at hoA;clear kP0 E kc0 kc1 r;go_wp2_with fail
      go_loop [9,10] (fun al kk=>∃p:Nat,p<=f/\kk=.int .i64 p/\al=.bool ((H.take p).all (gB L))) (fun _ kk=>f - (intOf kk).toNat)
      case atStart=>exact⟨0,zah _,rfl,rfl⟩
      case round=>
       obtain⟨p,hp,rfl,rfl⟩:=hrel;obtain⟨al,P⟩:∃z,Hid ((H.take p).all (gB L)=z):=⟨_,rfl⟩;rw[P.out]
       by_cases hlp:p<f
       .have hp0:(0:Int)<=(p:Int):=by omega
        have hp1:(p:Int)<(f:Int):=by omega
        have hpl:p<H.length:=by rw[HDL.out];exact hlp
        have I:H[p]?=some H[p]:=zae hpl;have hdn:=HDN.out _ (zce hpl)
        generalize H[p]=dd at I hdn
        have hcd:w9.cell? ⟨g,p,none⟩=some (.int .i64 (dd:Int)):=by
         rw[hoA.cellAt p (by omega)];unfold ints nats;rw[za2,za2,I];rfl
        obtain⟨bb,bo,uu,bv,rfl,hcb,rfl,-,hxb⟩:=rL.at hdn;have HTK:Hid ((H.take (p+1)).all (gB L)=(al &&bv)):=by
         show _=_
         rw[zbp,I,List.all_append,P.out,<-q7y hxb];simp
        have hd0:(0:Int)<=(dd:Int):=by omega
        have hd1:(dd:Int)<(n:Int):=by omega
        clear I hxb
        rcases al with _|_
        all_goals
         go_wp2_with fail
         go_round
         case rel=>exact⟨p+1,by omega,by go_num,by rw[HTK.out];rfl⟩
         case measure=>simp[intOf];try omega
       .obtain rfl:p=f:=by omega
        have hp1:¬(p:Int)<(p:Int):=by omega
        have HAM:Hid (AllM n p q L=al):=by
         show _=_
         unfold AllM;rw[G.out,<-P.out,zar (by rw[HDL.out];exact zad _)]
        obtain⟨b3,o3,u3,v,rfl,hc3,⟨rfl,-,-⟩,-,Z⟩:=(qt.next qd T9).at hlq;have hvi:=HTV.out v (zaf Z);obtain⟨y,rfl⟩:=zan hvi.1;have hyn:y<n:=by omega
        have HXV:=zaa Z;have hll:=O.out.len;have hcell:w9.cell? ⟨g5,y,none⟩=some (.bool (gB M y)):=by rw[s.cellAt y (by omega),q66 (by omega)]
        have hy0:(0:Int)<=(y:Int):=by omega
        have hy1:(y:Int)<(n:Int):=by omega
        have hfz:=s.frozenAt y;have W:=(s.stored y (.bool true)).1;rw[q7i]at W;have HST:=zaa W;have U:=(s.lt g5 rfl).1;have E:=qe T9 S;have kc1:=qe T9 cc1;clear W Z
        rcases al with _|_
        .have D:Hid (StI n C L M k (q+1)):=O.out.skip Q.out (by simpa using HAM.out)
         go_wp2_with fail
         go_roundw
         case rel=>exact⟨q+1,M,by omega,by go_num,D,s,T9⟩
         case measure=>simp[intOf];try omega
        .have D:Hid (StI n C L (M.set y true) k (q+1)):=O.out.mark Q.out HXV.out hyn (by simpa using HAM.out)
         go_wp2_with fail
         go_roundw
         case rel=>exact⟨q+1,M.set y true,by omega,by go_num,D,HST.out,T9.setCell U _⟩
         case measure=>simp[intOf];try omega
    .have hq1:¬(q:Int)<(N:Int):=by omega
     have D:Hid (StI n C L M (k+1) 0):=O.out.next Q.out (by have:=HTB.out;simp only;omega);go_wp2_with fail
     go_roundw
     case rel=>exact⟨k+1,M,by omega,by go_num,D,r,j⟩
     case measure=>simp[intOf];try omega
  .have hk1:¬(k:Int)<(m:Int):=by omega
   have HD:Hid (M=stL n C L):=O.out.done (by rw[HML.out];exact hlt);have hz0:=T0.size;go_wp2_with fail;go_ret;exact⟨_,c5,rfl,by rw[<-HD.out];exact ql r hz0,q9 T0 j rfl⟩
theorem q7m (cs:List Value) (x:qi) (A:Option Addr) (m c:Nat) (S:List Int) (w:World) (h:qf.rd w cs x) (l:AlgP x) (X:RdL RI w A m S) (hS:∀v∈S,0<=v/\v<=x.1 - 1):
  Calls Tryz.prog 106 #[.agg cs.toArray,.slice A m c] w (OwI w (genL x.1.toNat x.2 S)):=by
 have D:=h;obtain⟨B,k,d,rfl,-,qo⟩:=qv h;obtain⟨n,K⟩:∃n:Nat,x.1=(n:Int):=⟨x.1.toNat,by have:=l.1;omega⟩;have M:=zaa K;have hn8:n<=8:=by have:=l.2.1;omega
 have T:0<n:=by have:=l.1;omega
 have q:Hid (x.1.toNat=n):=by show _=_;omega
 obtain⟨G,F,I,E,W⟩:=q15 w #[.int .i64 x.1,.slice B k d] 24;have t:=zaa F;have r:Hid (∀V,Below G.heap.size G V->qf.rd V [.int .i64 x.1,.slice B k d] x):=fun V hz=>qf.stab (qf.stab D I.block) hz.block
 rw[K]at t W hS r;obtain⟨O,P⟩:=cl2 W;have HX:=zaa l;have HS:=zaa hS;have Z:=zaa (qnt A m c n S G (X.next qd I) HS.out (by omega));have HV:Hid (∀o∈x.2,∀v∈o.2,0<=v/\v<=(n:Int) - 1):=fun o ho=>by have:=(l.2.2.2 o ho).2.2.2;rw[q.out]at this;exact this
 rw[q.out];rw[K];clear F E D qo h l X hS K
 go_enter Tryz.func106,Tryz.ntmps106
 go_upto_region 1 with fail;rw[<-t.out];go_wp2_with fail;refine Z.out.mono ?_;rintro e w1 ⟨rfl,C,u⟩;have r1:=q12 (R:=RB) C (fun z _=>rfl);clear C;go_wp2_with fail
 go_loopw [5,6] (fun s i wr=>∃(j:Nat) (p:Option Addr) (J:Nat),j<=n+1/\i=.int .i64 j/\s=.slice p n J/\RdL RB wr p n (stN n x.2 j (inL n S))/\Below G.heap.size G wr) (fun _ i _=>n+1 - (intOf i).toNat)
 case atStart=>exact⟨0,_,_,zah _,rfl,rfl,r1,u⟩
 case round=>
  clear r1 u;obtain⟨j,p,J,hj,rfl,rfl,f,a⟩:=hrel;have kP0:=qe a O;have U:=qe a P
  by_cases hlt:j<n+1
  .have Q:(j:Int)<=(n:Int):=by omega
   have H:=zaa (qjf _ x p n J _ wr (r.out _ a) HX.out M.out f);clear f;go_wp2_with fail;refine H.out.mono ?_;rintro e w2 ⟨L,N,rfl,b,g⟩;have r6:=q12 (R:=RB) b (fun z _=>rfl);clear b;go_wp2_with fail
   go_roundw
   case rel=>exact⟨j+1,L,N,by omega,by go_num,rfl,r6,q9 a g rfl⟩
   case measure=>simp[intOf];try omega
  .obtain rfl:j=n+1:=by omega
   have Q:¬((n+1:Nat):Int)<=(n:Int):=by omega
   have Y:Hid (q1m n (gB (stN n x.2 (n+1) (inL n S)))=genL n x.2 S):=q22 fun y hy=>qs1 T (q5s _ _) HV.out hy
   have H:=zaa (qje p n J _ wr f (by omega));rw[Y.out]at H;clear f U;go_wp2_with fail;refine H.out.mono ?_;rintro e w2 ⟨L,N,rfl,b,g⟩;go_wp2_with fail;go_ret;exact⟨L,N,rfl,ql b (za7 I.size a.size),q9 I (q9 a g rfl) rfl⟩
theorem q82 (cs:List Value) (x:qi) (A:Option Addr) (m c:Nat) (S:List Int) (w:World) (h:qf.rd w cs x) (D:AlgP x) (Z:RdL RI w A m S):
  Calls Tryz.prog 161 #[.agg cs.toArray,.slice A m c] w (Bl w (.bool (subB x.1.toNat x.2 S))):=by
 have u:=h;obtain⟨B,k,d,rfl,-,qo⟩:=qv h;obtain⟨n,F⟩:∃n:Nat,x.1=(n:Int):=⟨x.1.toNat,by have:=D.1;omega⟩;have K:=zaa F;have hn8:n<=8:=by have:=D.2.1;omega
 have hn0:0<n:=by have:=D.1;omega
 have i:Hid (x.1.toNat=n):=by show _=_;omega
 obtain⟨G,C,E,y,W⟩:=q15 w #[.int .i64 x.1,.slice B k d] 24;have o:=zaa C;have j:Hid (∀V,Below G.heap.size G V->qf.rd V [.int .i64 x.1,.slice B k d] x):=fun V hz=>qf.stab (qf.stab u E.block) hz.block
 rw[F]at o W j;obtain⟨cP0,cP1⟩:=cl2 W;have HX:=zaa D;have T:=Z.next qd E;have X:=zaa (q96 A m c S 0 ((n:Int) - 1) G T);obtain⟨Y,a⟩:∃b,Hid ((q1z 0 ((n:Int) - 1) S &&q24 S)=b):=⟨_,rfl⟩;rw[a.out]at X;have L:Hid (subB n x.2 S=(Y &&decide ((genL n x.2 S).length=S.length))):=by show _=_;unfold subB;rw[a.out]
 rw[i.out];rw[F];clear C y u qo h D Z F
 go_enter Tryz.func161,Tryz.ntmps161
 go_upto_region 1 with fail;rw[<-o.out];go_wp2_with fail;refine X.out.mono ?_;rintro e w1 ⟨rfl,z,rfl⟩
 rcases Y with _|_
 .go_wp2_with fail
  go_ret;exact⟨qg (by rw[L.out];rfl),qc E z⟩
 have q:=a.out;rw[zal]at q;have s:∀v∈S,0<=v/\v<=x.1 - 1:=fun v Q=>by rw[K.out];exact q3e.1 q.1 v Q
 have f:=zaa (qkr (n:=n) (ops:=x.2) (fun v Q=>q3e.1 q.1 v Q) q.2);have I:=zaa (q7m _ x A m c S (G.drewN z) (j.out _ (qc (zac _ _) z)) HX.out (T.drewN qd z) s);rw[i.out]at I;have g:=zaa (qq9 (n:=n) (ops:=x.2) (S:=S) (by omega));obtain⟨p,J⟩:∃l,Hid (genL n x.2 S=l):=⟨_,rfl⟩;rw[J.out]at I L g f;clear s q;go_wp2_with fail;refine I.out.mono ?_;rintro e U ⟨A2,c2,rfl,t,r⟩;have r2:=q12 (R:=RI) t (q1r g.out);have T2:=q9 E ((qc (zac _ _) z).trans r) rfl;have M:=zaa (q4g A2 A p.length m c2 c p S U r2 (T.next qd ((qc (zac _ _) z).trans r)));clear t;go_wp2_with fail;refine M.out.mono ?_;rintro e w3 N;have O:e=.returned (.bool (eqL p S))/\Below U.heap.size U w3:=by
  first
   |(obtain⟨rfl,rfl⟩:=N;exact⟨rfl,zac _ _⟩)
   |(obtain⟨rfl,z3,rfl⟩:=N;exact⟨rfl,qc (zac _ _) z3⟩)
 obtain⟨rfl,P⟩:=O;have H:Hid (eqL p S=decide (p.length=S.length)):=by
  show _=_
  rw[zcc,zax,f.out];exact q8m
 clear N;go_wp2_with fail;go_ret;exact⟨qg (by rw[L.out,H.out];rfl),q9 T2 P rfl⟩
theorem qj7 (cs:List Value) (x:qi) (A:Option Addr) (m c:Nat) (S:List Int) (w:World) (h:qf.rd w cs x) (s:AlgP x) (z:RdL RI w A m S):
  Calls Tryz.prog 102 #[.agg cs.toArray,.slice A m c] w (Bl w (.tuple #[.bool (subB x.1.toNat x.2 S),.bool true])):=by
 have l:=h;obtain⟨B,k,d,rfl,-,F⟩:=qv h;obtain⟨t,o,q,n,C⟩:=q15 w #[.int .i64 x.1,.slice B k d] 24;have p:=zaa o;have f:Hid (∀u,Below t.heap.size t u->qf.rd u [.int .i64 x.1,.slice B k d] x):=fun u E=>qf.stab (qf.stab l q.block) E.block
 obtain⟨i,j⟩:=cl2 C;have D:=zaa s;have G:=z.next qd q;have y:=zaa (q5a _ x t (f.out _ (zac _ _)));rw[q43.2 s]at y;obtain⟨I,g⟩:∃b,Hid (subB x.1.toNat x.2 S=b):=⟨_,rfl⟩;rw[g.out];clear o n l F h s z
 go_enter Tryz.func102,Tryz.ntmps102
 go_upto_region 1 with fail;rw[<-p.out];go_wp2_with fail;refine y.out.mono ?_;rintro e H ⟨rfl,a⟩;replace i:=qe a i;replace j:=qe a j;have v:=zaa (q82 _ x A m c S H (f.out _ a) D.out (G.next qd a));rw[g.out]at v;go_wp2_with fail;refine v.out.mono ?_;rintro e J ⟨rfl,r⟩;go_wp2_with fail
 go_ret2
 exact⟨rfl,q9 q (q9 a r rfl) rfl⟩
theorem qnv (cs:List Value) (x:qi) (A:Option Addr) (m c:Nat) (f:List Int) (w:World) (h:qf.rd w cs x) (v:AlgP x) (K:RdL RI w A m f):
  Calls Tryz.prog 107 #[.agg cs.toArray,.agg cs.toArray,.slice A m c] w (Bl w (.bool (homB x.1.toNat x.2 f))):=by
 have r:=h;obtain⟨B,k,d,rfl,-,qo⟩:=qv h;obtain⟨n,R⟩:∃n:Nat,x.1=(n:Int):=⟨x.1.toNat,by have:=v.1;omega⟩;have D:=zaa R;have p:Hid (x.1.toNat=n):=by show _=_;omega
 obtain⟨L,t,u,s,U,V⟩:=q1q w #[.int .i64 x.1,.slice B k d] #[.int .i64 x.1,.slice B k d] 24 24;have G:=zaa t;have q:Hid (∀M,Below L.heap.size L M->qf.rd M [.int .i64 x.1,.slice B k d] x):=fun M Z=>qf.stab (qf.stab r u.block) Z.block
 obtain⟨i,j⟩:=cl2 U;obtain⟨l,o⟩:=cl2 V;have X:=zaa v;have y:=zaa K.len;have T:=K.next qd u;have C:=zaa (qlb _ x A m c f L (q.out _ (zac _ _)) v T);rw[p.out]at C;rw[p.out];obtain⟨Q,g⟩:∃z,Hid (mpB n f=z):=⟨_,rfl⟩;rw[g.out]at C;have E:Hid (homB n x.2 f=(Q &&tt (HomP n x.2 f))):=by show _=_;unfold homB;rw[<-g.out];rfl
 clear t s qo h r v K R
 go_enter Tryz.func107,Tryz.ntmps107
 go_upto_region 1 with fail;rw[<-G.out];go_wp2_with fail;refine C.out.mono ?_;rintro e w1 ⟨rfl,a⟩;have N:=kk4 a i j l o;clear i j l o;obtain⟨i,j,l,o⟩:=N
 rcases Q with _|_
 .go_wp2_with fail
  go_ret;exact⟨qg (by rw[E.out];rfl),q9 u a rfl⟩
 have I:=qlp.1 g.out;have J:m=n:=by rw[<-y.out];exact I.1
 subst J;have W:=zaa (qgc _ x A m c f w1 (q.out _ a) X.out D.out (T.next qd a) I);clear I;go_wp2_with fail;refine W.out.mono ?_;rintro e w2 ⟨v1,v2,b,rfl,S,H⟩;have O:=zaa S;clear S;have P:=q9 u (q9 a H rfl) rfl
 rcases b with _|_
 .have F:=zaa (q6o (O.out.1 rfl))
  go_wp2_with fail;go_ret;exact⟨qg (by rw[E.out,<-F.out];rfl),P⟩
 .have F:=zaa (q2r (fun Y=>absurd (O.out.2 Y) (by decide)))
  go_wp2_with fail;go_ret;exact⟨qg (by rw[E.out,<-F.out];rfl),P⟩
theorem qnu (cs:List Value) (x:qi) (A:Option Addr) (m c:Nat) (p:List Int) (w:World) (h:qf.rd w cs x) (r:AlgP x) (H:RdL RI w A m p):
  Calls Tryz.prog 104 #[.agg cs.toArray,.slice A m c] w (Bl w (.bool (q2k x.1.toNat x.2 p))):=by
 have i:=h;obtain⟨B,k,d,rfl,-,Z⟩:=qv h;obtain⟨n,q⟩:∃n:Nat,x.1=(n:Int):=⟨x.1.toNat,by have:=r.1;omega⟩;have u:=zaa q;have v:Hid (x.1.toNat=n):=by show _=_;omega
 have X:n<=8:=by have:=r.2.1;omega
 obtain⟨b,l,o,j,K⟩:=q15 w #[.int .i64 x.1,.slice B k d] 24;have g:=zaa l;have f:Hid (∀J,Below b.heap.size b J->qf.rd J [.int .i64 x.1,.slice B k d] x):=fun J Y=>qf.stab (qf.stab i o.block) Y.block
 rw[q]at g K f;obtain⟨V,W⟩:=cl2 K;have T:=zaa r;have t:=zaa H.len;have I:=H.next qd o;have L:=zaa (q6a A n m c p b I (by omega));obtain⟨N,a⟩:∃z,Hid (tt (ParP n p)=z):=⟨_,rfl⟩;rw[a.out]at L;have y:Hid (q2k n x.2 p=(N &&tt (q4h n x.2 p))):=by show _=_;unfold q2k;rw[a.out]
 rw[v.out];rw[q];clear l j Z h i r H q
 go_enter Tryz.func104,Tryz.ntmps104
 go_upto_region 1 with fail;rw[<-g.out];go_wp2_with fail;refine L.out.mono ?_;rintro e w1 ⟨rfl,z,rfl⟩
 rcases N with _|_
 .go_wp2_with fail
  go_ret;exact⟨qg (by rw[y.out];rfl),qc o z⟩
 have G:=q2h.1 a.out;have F:m=n:=by rw[<-t.out];exact G.1
 subst F;have R:=zaa (qji _ x A m c p (b.drewN z) (f.out _ (qc (zac _ _) z)) T.out u.out (I.drewN qd z) G);clear G;go_wp2_with fail;refine R.out.mono ?_;rintro e O ⟨Q,U,P,rfl,r2,D,E⟩;have M:Below b.heap.size b O:=(qc (zac _ _) z).trans E;have C:=zaa (q4g Q A m m U c P p O r2 (I.next qd M));have S:Hid (eqL P p=tt (q4h m x.2 p)):=by
  show _=_
  rw[zcc,q2h,q8m];exact⟨D.back,D.same⟩
 rw[S.out]at C;obtain⟨b2,s⟩:∃z,Hid (tt (q4h m x.2 p)=z):=⟨_,rfl⟩;rw[s.out]at C y;clear D r2;go_wp2_with fail;refine C.out.mono ?_;rintro e w3 ⟨rfl,z3,rfl⟩;go_wp2_with fail;go_ret;exact⟨qg (by rw[y.out];rfl),qc (q9 o M rfl) z3⟩
theorem qah (cs ds:List Value) (x:qi) (f:qy) (w:World) (h:qf.rd w cs x) (h':qj.rd w ds f) (hx:AlgP x):
  Calls Tryz.prog 58 #[.agg cs.toArray,.agg ds.toArray] w (Bl w (.bool (q1c x f))):=by
 have hrd:=h;obtain⟨B,k,d,rfl,-,qo⟩:=qv h;obtain⟨AL,nL,cL,AR,nR,cR,F,A,Q,rfl,-,rL,rR,rV⟩:=q21 h';obtain⟨i,⟨L,R⟩,V⟩:=f;simp only at rL rR rV;obtain⟨n,hN⟩:∃n:Nat,x.1=(n:Int):=⟨x.1.toNat,by have:=hx.1;omega⟩;have j:Hid (x.1.toNat=n):=by show _=_;omega
 have hn8:n<=8:=by have:=hx.2.1;omega
 have hn1:1<=n:=by have:=hx.1;omega
 obtain⟨K,hw0,J,hsz0,BP,BQ⟩:=q1q w #[.int .i64 x.1,.slice B k d] #[.int .i64 i,.slice AL nL cL,.slice AR nR cR,.slice F A Q] 24 57;have I:=zaa hw0;have N:Hid (∀g,Below K.heap.size K g->qf.rd g [.int .i64 x.1,.slice B k d] x):=fun g t=>qf.stab (qf.stab hrd J.block) t.block
 have ad:=rL.next qd J;have ae:=rR.next qd J;have af:=rV.next qd J;have H2:Hid (∀g,Below K.heap.size K g->qw.rd g [.slice AL nL cL,.slice AR nR cR] ((L,R):q1g)):=fun g t=>q2a (ad.next qd t) (ae.next qd t)
 have u:Hid (∀g,Below K.heap.size K g->RdL RI g F A V):=fun g t=>af.next qd t
 have hle:=ad.le;have hle2:=ae.le;have hle3:=af.le;have HLV:=zaa rV.len;have U:=zaa hx;have HLL:=zaa rL.len;have HLR:=zaa rR.len;obtain⟨m,p⟩:=cl2 BP;obtain⟨ac,q,r,E⟩:=cl4 BQ;obtain⟨ne,HNE⟩:∃b,Hid (noEq (L,R)=b):=⟨_,rfl⟩;have D:Hid (q1c x (i,(L,R),V)=if i=1 then q5r n x.2 L R &&decide (A=0)else if i=2 then askB n x.2 L R &&q3f n x.2 L R V else ne &&(if i=3 then subB n x.2 V else if i=4 then q2k n x.2 V else if i=5 then genB n x.2 V else if i=6 then homB n x.2 V else false)):=by
  show _=_
  unfold q1c;simp only;rw[j.out,HNE.out,HLV.out]
 obtain⟨S,C⟩:∃b,Hid (askB n x.2 L R=b):=⟨_,rfl⟩;have G:Hid (∀g,Below K.heap.size K g->Calls Tryz.prog 98 #[.agg #[.int .i64 x.1,.slice B k d],.agg #[.slice AL nL cL,.slice AR nR cR]] g (Bl g (.bool S))):=fun g t=>by
  have:=qga _ _ x (L,R) g (N.out g t) (H2.out g t) U.out;rw[j.out]at this;simp only at this
  rwa [C.out]at this
 rw[hN]at BP I m;rw[hN];clear hw0 hsz0 hrd qo h h' hx rL rR rV ad ae af
 by_cases h1:i=1
 .subst h1
  have a:Hid (q1c x (1,(L,R),V)=(q5r n x.2 L R &&decide (A=0))):=by show _=_;rw[D.out,zam rfl]
  rw[hN]at G N;clear D
  rcases T:decide (A=0)with _|_
  .have hd3:=q51 T
   rw[T,zd9]at a;clear T
   go_enter Tryz.func58,Tryz.ntmps58
   go_upto_region 1 with fail;rw[<-I.out];go_wp2_with fail;go_ret;exact⟨qg a.out.symm,J⟩
  .have hd3:=q51 T
   rw[T,Bool.and_true]at a;clear T
   go_enter Tryz.func58,Tryz.ntmps58
   go_upto_region 1 with fail;rw[<-I.out];go_wp2_with fail;refine(G.out _ (zac _ _)).mono ?_;rintro e s ⟨rfl,c⟩;have M:=kk4 c m p q r;clear m p q r;obtain⟨m,p,q,r⟩:=M
   rcases S with _|_
   .have HH:Hid (q5r n x.2 L R=false):=by show _=_;unfold q5r;rw[C.out];rfl
    go_wp2_with fail;go_ret;exact⟨qg (by rw[a.out,HH.out]),q9 J c rfl⟩
   .have o:=zaa (qgb _ _ x (L,R) s (N.out _ c) (H2.out _ c) U.out (by rw[j.out];exact C.out))
    rw[j.out]at o;simp only at o;have HH:Hid (q5r n x.2 L R=tt (q5h n x.2 L R)):=by show _=_;unfold q5r;rw[C.out];rfl
    obtain⟨hb,HHB⟩:∃b,Hid (tt (q5h n x.2 L R)=b):=⟨_,rfl⟩;rw[HHB.out]at o HH;go_wp2_with fail;refine o.out.mono ?_;rintro e w2 ⟨rfl,y⟩;go_wp2_with fail;go_ret;exact⟨qg (by rw[a.out,HH.out]),q9 J (q9 c y rfl) rfl⟩
 by_cases h2:i=2
 .subst h2
  have a:Hid (q1c x (2,(L,R),V)=(S &&q3f n x.2 L R V)):=by show _=_;rw[D.out,zaj (by decide),zam rfl,C.out]
  rw[hN]at G N;clear D h1
  go_enter Tryz.func58,Tryz.ntmps58
  go_upto_region 1 with fail;rw[<-I.out];go_wp2_with fail;refine(G.out _ (zac _ _)).mono ?_;rintro e s ⟨rfl,c⟩;have M:=kk5 c m p q r E;clear m p q r E;obtain⟨m,p,q,r,E⟩:=M
  rcases S with _|_
  .go_wp2_with fail
   go_ret;exact⟨qg (by rw[a.out];rfl),q9 J c rfl⟩
  .have o:=zaa (qea _ _ x (L,R) F A Q V s (N.out _ c) (H2.out _ c) (u.out _ c) U.out (by rw[j.out];exact C.out))
   rw[j.out]at o;simp only at o;obtain⟨fb,HFB⟩:∃b,Hid (q3f n x.2 L R V=b):=⟨_,rfl⟩;rw[HFB.out]at o a;go_wp2_with fail;refine o.out.mono ?_;rintro e w2 ⟨rfl,y⟩;go_wp2_with fail;go_ret;exact⟨qg (by rw[a.out];rfl),q9 J (q9 c y rfl) rfl⟩
 have e1:(i==1)=false:=zbj.2 h1;have e2:(i==2)=false:=zbj.2 h2;have HT2:Hid (q1c x (i,(L,R),V)=(ne &&(if i=3 then subB n x.2 V else if i=4 then q2k n x.2 V else if i=5 then genB n x.2 V else if i=6 then homB n x.2 V else false))):=by show _=_;rw[D.out,zaj h1,zaj h2]
 have HNQ:=zaa (qag _ (L,R) K (H2.out _ (zac _ _)));rw[HNE.out]at HNQ;rw[hN]at N;clear D h1 h2 G
 go_enter Tryz.func58,Tryz.ntmps58
 go_upto_region 1 with fail;rw[<-I.out];go_wp2_with fail;refine HNQ.out.mono ?_;rintro e s ⟨rfl,c⟩;have O:=q9 J c rfl;have M:=kk6 c m p ac q r E;clear m p ac q r E;obtain⟨m,p,ac,q,r,E⟩:=M
 rcases ne with _|_
 .have a:Hid (q1c x (i,(L,R),V)=false):=by show _=_;rw[HT2.out];rfl
  go_wp2_with fail;go_ret;exact⟨qg a.out.symm,O⟩
 have H:Hid (q1c x (i,(L,R),V)=(if i=3 then subB n x.2 V else if i=4 then q2k n x.2 V else if i=5 then genB n x.2 V else if i=6 then homB n x.2 V else false)):=by show _=_;rw[HT2.out];rfl
 by_cases W:i=3
 .subst W
  have a:Hid (q1c x (3,(L,R),V)=subB n x.2 V):=by show _=_;rw[H.out,zam rfl]
  have o:=zaa (qj7 _ x F A Q V s (N.out _ c) U.out (u.out _ c));rw[j.out]at o;obtain⟨b,HB⟩:∃b,Hid (subB n x.2 V=b):=⟨_,rfl⟩;rw[HB.out]at o a;clear e1 e2;go_wp2_with fail;refine o.out.mono ?_;rintro e w2 ⟨rfl,y⟩;go_wp2_with fail;go_ret;exact⟨qg a.out.symm,q9 O y rfl⟩
 by_cases h4:i=4
 .subst h4
  have a:Hid (q1c x (4,(L,R),V)=q2k n x.2 V):=by show _=_;rw[H.out,zaj (by decide),zam rfl]
  have HP:=zaa (q6a F n A Q V s (u.out _ c) (by omega));obtain⟨pb,HPB⟩:∃b,Hid (tt (ParP n V)=b):=⟨_,rfl⟩;rw[HPB.out]at HP;have Y:Hid (pb=false->q2k n x.2 V=false):=fun h=>by unfold q2k;rw[HPB.out,h];rfl
  clear e1 e2 W;go_wp2_with fail;refine HP.out.mono ?_;rintro e w2 ⟨rfl,z,rfl⟩
  rcases pb with _|_
  .have HCF:Hid (q2k n x.2 V=false):=Y.out rfl
   clear Y;go_wp2_with fail;go_ret;exact⟨qg (by rw[a.out];exact HCF.out.symm),qc O z⟩
  .clear Y
   have Tz:Below K.heap.size K (s.drewN z):=qc c z;have o:=zaa (qnu _ x F A Q V (s.drewN z) (N.out _ Tz) U.out (u.out _ Tz));rw[j.out]at o;obtain⟨b,HB⟩:∃b,Hid (q2k n x.2 V=b):=⟨_,rfl⟩;rw[HB.out]at o a;go_wp2_with fail;refine o.out.mono ?_;rintro e w3 ⟨rfl,hb3⟩;go_wp2_with fail;go_ret;exact⟨qg a.out.symm,q9 J (q9 Tz hb3 rfl) rfl⟩
 have T:(i==3)=false:=zbj.2 W;have e4:(i==4)=false:=zbj.2 h4
 by_cases h5:i=5
 .subst h5
  have a:Hid (q1c x (5,(L,R),V)=genB n x.2 V):=by show _=_;rw[H.out,zaj (by decide),zaj (by decide),zam rfl]
  obtain⟨b1,X⟩:∃b,Hid ((q1z 0 ((n:Int) - 1) V &&q24 V)=b):=⟨_,rfl⟩;have Z:Hid (genB n x.2 V=(b1 &&decide ((genL n x.2 V).length=n))):=by show _=_;unfold genB;rw[X.out]
  have ab:Hid (∀g,Below s.heap.size s g->Calls Tryz.prog 105 #[.slice F A Q,.int .i64 0,.int .i64 ((n:Int) - 1)] g (Qt g (.bool b1))):=fun g t=>by
   have:=q96 F A Q V 0 ((n:Int) - 1) g (u.out g (q9 c t rfl))
   rwa [X.out]at this
  obtain⟨gl,aa⟩:∃l,Hid (genL n x.2 V=l):=⟨_,rfl⟩;have hgl:gl.length<=8:=by rw[<-aa.out];exact za7 (q4u _ _) hn8
  have hw1:IntKind.i64.wrap ((n:Int) - 1)=(n:Int) - 1:=by rw[zdg];omega
  rw[aa.out]at Z;clear e1 e2 T e4 W h4
  rcases b1 with _|_
  .go_wp2_with fail
   go_quiet ((go_at_call 105;first|exact q1o (ab.out _ (by first|exact zac _ _|exact qc (zac _ _) _))|exact q1f (ab.out _ (by first|exact zac _ _|exact qc (zac _ _) _))))
   go_wp2_with fail;go_ret;exact⟨qg (by rw[a.out,Z.out];rfl),(by first|exact O|exact qc (O) _|exact qc (qc (O) _) _|exact qc (qc (qc (O) _) _) _)⟩
  .have hb:=X.out
   rw[zal]at hb;have HGT:Hid (∀g,Below s.heap.size s g->Calls Tryz.prog 106 #[.agg #[.int .i64 (n:Int),.slice B k d],.slice F A Q] g (OwI g gl)):=fun g t=>by
    have:=q7m _ x F A Q V g (N.out g (q9 c t rfl)) U.out (u.out g (q9 c t rfl)) (fun v hv=>by have:=q3e.1 hb.1 v hv;have h2:=j.out;have W:=U.out.1;omega);rw[j.out,aa.out]at this;exact this
   have KP0:Hid (∀g,Below s.heap.size s g->g.cell? ⟨w.heap.size,0,none⟩=some (.int .i64 (n:Int))):=fun g t=>qe t m
   have P:Below s.heap.size s s:=zac _ _;clear hb;go_wp2_with fail
   go_region_law (first
    |(go_simp;go_at_call 105;(with_reducible refine(ab.out _ ?_).mono ?_);(first|exact P|exact qc P _);rintro e wb ⟨rfl,zb,rfl⟩)
    |(go_simp;go_at_call 106;(with_reducible refine(HGT.out _ ?_).mono ?_);(first|exact P|exact qc P _);rintro e wc ⟨A5,c5,rfl,-,hb5⟩;replace P:=q9 (by first|exact P|exact qc P _) hb5 rfl;have cR0:=KP0.out _ P))
   all_goals
    go_wp2_with fail;go_ret;exact⟨qg (by rw[a.out,Z.out,zdo,zcc];simp;try omega),q9 O (by first|exact P|exact qc P _) rfl⟩
 have e5:(i==5)=false:=zbj.2 h5
 by_cases h6:i=6
 .subst h6
  have a:Hid (q1c x (6,(L,R),V)=homB n x.2 V):=by show _=_;rw[H.out,zaj (by decide),zaj (by decide),zaj (by decide),zam rfl]
  have o:=zaa (qnv _ x F A Q V s (N.out _ c) U.out (u.out _ c));rw[j.out]at o;obtain⟨b,HB⟩:∃b,Hid (homB n x.2 V=b):=⟨_,rfl⟩;rw[HB.out]at o a;clear e1 e2 T e4 e5 W h4 h5;go_wp2_with fail;refine o.out.mono ?_;rintro e w2 ⟨rfl,y⟩;go_wp2_with fail;go_ret;exact⟨qg a.out.symm,q9 O y rfl⟩
 have e6:(i==6)=false:=zbj.2 h6;have a:Hid (q1c x (i,(L,R),V)=false):=by show _=_;rw[H.out,zaj W,zaj h4,zaj h5,zaj h6]
 clear W h4 h5 h6;go_wp2_with fail;go_ret;exact⟨qg a.out.symm,O⟩
theorem qn7 {α:Type} {S:Sh α} {E:TypeId} {w:World} {v:Value} {xs:List α} {a:List Nat} (h:(Sh.rows S E).own w [v] xs a):∀B n c,v=.slice B n c->n<=c:=by
 obtain⟨k,d,bls,e,P,-⟩:=h;injection e with e _
 subst e;intro B n c e
 rcases P.row.2 with⟨e',i⟩|⟨g,b,f,e',-,-,j,-⟩
 .rw[e]at e'
  injection e' with _ e2 e3
  omega
 .rw[e]at e'
  injection e' with _ e2 e3
  omega
def qbe (cs:List Value):Prop:=∀F n c,cs[3]?=some (.slice F n c)->n<=c
theorem qha {w:World} {cs:List Value} {x:LabM} {d:List Nat} (h:q19.own w cs x d):qbe cs:=by
 obtain⟨f,_,_,_,rfl,-,⟨_,rfl,-⟩,⟨g,i,_,_,rfl,-,⟨_,_,_,_,rfl,-,⟨_,rfl,-⟩,⟨k,_,_,rfl,-⟩⟩,⟨j,_,_,_,rfl,-,b,-⟩⟩⟩:=h;have a:=b;obtain⟨v,_,_,rfl,-⟩:=a;intro F n c e;simp at e;exact qn7 b F n c e
theorem q7e (cs:List Value) (x:LabM) (w:World) (h:q19.rd w cs x) (a:qbe cs):Calls Tryz.prog 41 #[.agg cs.toArray] w (Bl w (.bool (labB x))):=
 qcm (fun cs b x f w h c d=>q93 cs b x f w h c (q43.1 d)) cs x w h a
theorem qg7 (cs:List Value) (x:LabM) (w:World) (h:q19.rd w cs x):Calls Tryz.prog 34 #[.agg cs.toArray] w (Bl w (.bool (labB x))):=
 qf7 (fun cs a x f w h b c=>qah cs a x f w h b (q43.1 c)) cs x w h
theorem q85 {x:LabM} (h:labB x=true):0<=x.2.2.2/\x.2.2.2<=9999/\x.2.2.1.length<=12/\(x.1=true->AlgP x.2.1):=by
 have a:x.2.2.1.length<=12:=by
  by_cases hc:x.2.2.1.length<=12
  .exact hc
  .rw[qee hc]at h;cases h
 have b:0<=x.2.2.2:=by
  by_cases hc:x.2.2.2<0
  .rw[qge hc]at h;cases h
  .omega
 have c:x.2.2.2<=9999:=by
  by_cases hc:9999<x.2.2.2
  .rw[qgd hc]at h;cases h
  .omega
 refine⟨b,c,a,fun d=>?_⟩;rw[q83 b c d,zal,zal]at h;exact q43.1 h.1.1
def zLab:LabM:=(false,(0, []), [],0)
noncomputable def twoF (x:LabM) (kind a b:Int):Option qy:=
 match x.2.2.1[a.toNat]?,x.2.2.1[b.toNat]? with
 | some f, some g =>
   if a = b \/ f.1 ≠ g.1 then none
   else if f.1 = 3 then some (3, ([], []), if kind = 3 then q2d g.2.2 f.2.2 else genL x.2.1.1.toNat x.2.1.2 (f.2.2 ++ g.2.2))
   else if f.1 = 4 then some (4, ([], []), if kind = 3 then q4k f.2.2 g.2.2 else q69 f.2.2 g.2.2)
   else none
 |_,_=>none
noncomputable def addF (x:LabM) (f:qy):LabM:=if posF x.2.2.1 f<0 then(x.1,x.2.1,x.2.2.1++ [f],x.2.2.2)else x
noncomputable def makM (x:LabM) (s:qq):Option LabM:=
 if s.1=2 then some (if q1c x.2.1 s.2.2.1=true/\posF x.2.2.1 s.2.2.1<0 then(x.1,x.2.1,x.2.2.1++ [s.2.2.1],x.2.2.2)else(x.1,x.2.1,x.2.2.1,x.2.2.2+1))
 else if s.1=3\/s.1=4 then(twoF x s.1 s.2.2.2.2.1 s.2.2.2.2.2).map (addF x)
 else if s.1=5 then(if s.2.2.2.2.1<(x.2.2.1.length:Int)then some (x.1,x.2.1,x.2.2.1.take s.2.2.2.2.1.toNat++x.2.2.1.drop (s.2.2.2.2.1.toNat+1),x.2.2.2)else none)
 else if s.1=6 then(if q7p x.2.1.1.toNat s.2.2.2.1=true then some (x.1,ren x.2.1 s.2.2.2.1,x.2.2.1.map fun f=>(f.1,f.2.1,rfL f.1 f.2.2 s.2.2.2.1),x.2.2.2)else none)
 else some (false,(0, []), [],x.2.2.2)
noncomputable def q6m (x:LabM) (s:qq):Option LabM:=
 if labB x=true/\q2z s=true/\(x.1=true↔s.1≠1)then
  (if s.1 = 1 then (parA s.2.1).map fun a => (true, a, x.2.2.1, x.2.2.2)
   else (makM x s).bind fun y => if y.2.2.1.length <= 12 /\ y.2.2.2 <= 9999 then some y else none)
 else none
noncomputable def slR (x:LabM) (s:qq):LabM:=(q6m x s).getD zLab
noncomputable def slOk (x:LabM) (s:qq):Bool:=(q6m x s).isSome
theorem q6k {x:LabM} {s:qq} (h:q6m x s=none):slR x s=zLab/\slOk x s=false:=by unfold slR slOk;rw[h];exact⟨rfl,rfl⟩
theorem qgw {x:LabM} {s:qq} {y:LabM} (h:q6m x s=some y):slR x s=y/\slOk x s=true:=by unfold slR slOk;rw[h];exact⟨rfl,rfl⟩
theorem q5d {x:LabM} {s:qq} (h:¬(labB x=true/\q2z s=true/\(x.1=true↔s.1≠1))):q6m x s=none:=by unfold q6m;rw[zaj h]
theorem qc1 {x:LabM} {s:qq} (h:labB x=true/\q2z s=true/\(x.1=true↔s.1≠1)) (b:s.1=1):q6m x s=(parA s.2.1).map fun a=>(true,a,x.2.2.1,x.2.2.2):=by unfold q6m;rw[zam h,zam b]
theorem qc2 {x:LabM} {s:qq} (h:labB x=true/\q2z s=true/\(x.1=true↔s.1≠1)) (a:s.1≠1):q6m x s=(makM x s).bind fun y=>if y.2.2.1.length<=12/\y.2.2.2<=9999 then some y else none:=by unfold q6m;rw[zam h,zaj a]
def q31:Sh LabM:=(Sh.pair Sh.bool (Sh.pair qf (Sh.pair (Sh.rowsW qj 57) Sh.int)))
def LabD (lo:Nat) (w:World) (x:LabM) (v u:Value):Prop:=∃css bls dss cls,PO lo w v x.2.1.2 css bls/\PG qj 4 57 lo w u x.2.2.1 dss cls/\∀b∈obl v++bls.flatten,b∉obl u++cls.flatten
def LabPW (lo:Nat) (w:World) (x:LabM) (v u:Value):Prop:=∃css bls dss cls A n c d,u=.slice A n d/\n<=d/\PO lo w v x.2.1.2 css bls/\PG qj 4 57 lo w (.slice A n c) x.2.2.1 dss cls/\∀b∈obl v++bls.flatten,b∉obl (.slice A n c)++cls.flatten
theorem qjt {w:World} {base size n c m:Nat} {e:TypeId} {A:Option Addr} {xs:List Value} (h:w.ownsRow base e size (.slice A n c) m xs):n<=c:=by
 rcases h.2 with⟨a,-⟩|⟨g,b,d,a,-,-,f,-⟩
 .injection a with _ e2 e3
  omega
 .injection a with _ e2 e3
  omega
theorem LabP.d {lo:Nat} {w:World} {x:LabM} {v u:Value} (h:LabP lo w x v u):LabD lo w x v u:=by
 obtain⟨c,bls,e,a,m,i,j,k,g⟩:=h
 exact⟨c,bls,e,a,i,g.mono k,fun b l f=>by
  have:=j.2 b l;have:=g.2.2.2 b f
  omega⟩
theorem LabD.w {lo:Nat} {w:World} {x:LabM} {v u:Value} (h:LabD lo w x v u):LabPW lo w x v u:=by
 obtain⟨b,bls,d,a,f,e,g⟩:=h;obtain⟨A,c,rfl⟩:=qu e.2.1;exact⟨b,bls,d,a,A,_,c,c,rfl,qjt e.2.1,f,e,g⟩
theorem LabD.next {lo:Nat} {w w':World} {x:LabM} {v u:Value} (h:LabD lo w x v u) (d:Below w.heap.size w w'):LabD lo w' x v u:=by
 obtain⟨b,bls,c,a,e,f,g⟩:=h;exact⟨b,bls,c,a,e.next d,f.next d,g⟩
theorem LabD.setB {lo:Nat} {w:World} {x:LabM} {v u:Value} (h:LabD lo w x v u) {g k:Nat} {cs:Array Value} (d:Blk w g 27 cs) (q:Value):LabD lo (w.setCell ⟨g,k,none⟩ q) x v u:=by
 obtain⟨b,bls,c,a,e,f,i⟩:=h;exact⟨b,bls,c,a,e.setB d (by decide) (by decide) q,PGf.setB f d (by decide) (by decide) q,i⟩
theorem LabPW.next {lo:Nat} {w w':World} {x:LabM} {v u:Value} (h:LabPW lo w x v u) (g:Below w.heap.size w w'):LabPW lo w' x v u:=by
 obtain⟨b,bls,e,a,A,n,c,d,i,f,j,k,l⟩:=h;exact⟨b,bls,e,a,A,n,c,d,i,f,j.next g,k.next g,l⟩
theorem LabPW.setB {lo:Nat} {w:World} {x:LabM} {v u:Value} (h:LabPW lo w x v u) {g k:Nat} {cs:Array Value} (i:Blk w g 27 cs) (q:Value):LabPW lo (w.setCell ⟨g,k,none⟩ q) x v u:=by
 obtain⟨b,bls,e,a,A,n,c,d,j,f,l,m,o⟩:=h;exact⟨b,bls,e,a,A,n,c,d,j,f,l.setB i (by decide) (by decide) q,PGf.setB m i (by decide) (by decide) q,o⟩
theorem LabPW.mono {lo lo':Nat} {w:World} {x:LabM} {v u:Value} (h:LabPW lo w x v u) (g:lo'<=lo):LabPW lo' w x v u:=by
 obtain⟨b,bls,e,a,A,n,c,d,i,f,j,k,l⟩:=h;exact⟨b,bls,e,a,A,n,c,d,i,f,j.mono g,k.mono g,l⟩
theorem LabPW.slices {lo:Nat} {w:World} {x:LabM} {v u:Value} (h:LabPW lo w x v u):∃A1 c1 A2 c2,v=.slice A1 x.2.1.2.length c1/\u=.slice A2 x.2.2.1.length c2/\x.2.2.1.length<=c2:=by
 obtain⟨f,bls,g,b,A,n,c,d,rfl,a,j,k,l⟩:=h;obtain⟨A1,c1,e⟩:=qu j.2.1;obtain⟨A2,c2,i⟩:=qu k.2.1;injection i with a1 a2 a3
 subst a1;subst a2;exact⟨A1,c1,_,d,e,rfl,a⟩
theorem LabPW.own {lo:Nat} {w:World} {x:LabM} {v u:Value} (h:LabPW lo w x v u) (k:InR x.2.1.1) (f:InR x.2.2.2):∃bl,q31.own w [.bool x.1,.int .i64 x.2.1.1,v,u,.int .i64 x.2.2.2] x bl/\Iv lo w.heap.size bl:=by
 obtain⟨j,bls,b,a,A,n,c,d,rfl,e,g,i,l⟩:=h;refine⟨[]++((obl v++bls.flatten)++((obl (.slice A n c)++a.flatten)++ [])),⟨[_], [_,_,_,_], [],_,rfl,rfl,⟨_,rfl,rfl,rfl⟩,⟨[_,_], [_,_],_,_,rfl,rfl,g.algO k,⟨[_], [_],_, [],rfl,rfl,⟨A,n,c,d,b,a,rfl,e,i.1,rfl⟩,⟨_,rfl,⟨rfl,f.1,f.2⟩,rfl⟩⟩⟩⟩,?_⟩;rw[zch,zc3];exact qcr g.2.2 i.2.2 l
theorem qaj (lo:Nat) (w:World):LabPW lo w zLab (.slice none 0 0) (.slice none 0 0):=
 ⟨[], [], [], [],none,0,0,0,rfl,zad _,PO.nil _ _,PG.nil _ _ _ _ _,fun b a=>by simp[obl,Value.ownBlock]at a⟩
theorem LabD.mono {lo lo':Nat} {w:World} {x:LabM} {v u:Value} (h:LabD lo w x v u) (d:lo'<=lo):LabD lo' w x v u:=by
 obtain⟨b,bls,c,a,e,f,g⟩:=h;exact⟨b,bls,c,a,e.mono d,f.mono d,g⟩
theorem qod {w:World} {size n lo:Nat} {e:TypeId} {v:Value} {xs:List Value} (h:w.ownsRow 0 e size v n xs) (i:∀b,v.ownBlock=some b->lo<=b):w.ownsRow lo e size v n xs:=by
 refine⟨h.1,?_⟩
 rcases h.2 with d|⟨g,a,c,rfl,-,f⟩
 .exact .inl d
 .exact .inr ⟨g,a,c,rfl,i g rfl,f⟩
theorem PO.of_own {w:World} {cs:List Value} {a:qi} {e:List Nat} {lo hi:Nat} (h:qf.own w cs a e) (d:Iv lo hi e) (j:hi<=w.heap.size):∃A c css bls,cs= [.int .i64 a.1,.slice A a.2.length c]/\PO lo w (.slice A a.2.length c) a.2 css bls/\e=obl (.slice A a.2.length c)++bls.flatten/\InR a.1:=by
 obtain⟨m,n,k,l,rfl,rfl,⟨_,rfl,⟨rfl,f,g⟩,rfl⟩,⟨v,css,bls,rfl,P,rfl⟩⟩:=h;obtain⟨A,c,rfl⟩:=qu P.row;refine⟨A,c,css,bls,rfl,⟨P,qod P.row fun b i=>(d.2 b (by rw[zch];exact zbb _ (q1e.2 i))).1,?_⟩,rfl,⟨f,g⟩⟩;exact(by simpa using d:Iv lo hi _).mono (zad _) j
theorem qfk {w w':World} {x:LabM} {v u:Value} {r:LabM} {c b:Bool} (h:LabPW w.heap.size w' x v u) (f:InR x.2.1.1) (g:InR x.2.2.2) (i:Below w.heap.size w w') (e:r=x/\c=b):
  OwA q31 w r c (.returned (.tuple #[.agg #[.bool x.1,.int .i64 x.2.1.1,v,u,.int .i64 x.2.2.2],.bool b])) w':=by
 obtain⟨rfl,rfl⟩:=e;obtain⟨d,j,a⟩:=h.own f g;exact⟨_,d,rfl,j,a,i⟩
theorem q5i {w w':World} {r:LabM} {a:Bool} (b:Below w.heap.size w w') (e:r=zLab/\a=false):
  OwA q31 w r a (.returned (.tuple #[.agg #[.bool false,.int .i64 0,.slice none 0 0,.slice none 0 0,.int .i64 0],.bool false])) w':=
 qfk (x:=zLab) (qaj _ _) ⟨by decide,by decide⟩ ⟨by decide,by decide⟩ b e
def MkO (Bd g:Nat) (x:LabM) (s:qq) (w:World) (e:Ending) (w':World):Prop:=Below Bd w w'/\((makM x s=none/\e=.returned (.bool false))\/∃y v u,makM x s=some y/\e=.returned (.bool true)/\Blk w' g 27 #[.bool y.1,.int .i64 y.2.1.1,v,u,.int .i64 y.2.2.2]/\LabPW Bd w' y v u/\InR y.2.1.1/\InR y.2.2.2)
theorem q18 {w:World} {g:Nat} {f i j k l:Value} (h:Blk w g 27 #[f,i,j,k,l]) (a b c d e:Value):Blk (((((w.setCell ⟨g,0,none⟩ a).setCell ⟨g,1,none⟩ b).setCell ⟨g,2,none⟩ c).setCell ⟨g,3,none⟩ d).setCell ⟨g,4,none⟩ e) g 27 #[a,b,c,d,e]:=by
 simpa using((((h.set_ 0 a).set_ 1 b).set_ 2 c).set_ 3 d).set_ 4 e
theorem q10 {B g:Nat} {w w':World} (h:Below B w w') (f:B<=g) (a b c d e:Value):Below B w (((((w'.setCell ⟨g,0,none⟩ a).setCell ⟨g,1,none⟩ b).setCell ⟨g,2,none⟩ c).setCell ⟨g,3,none⟩ d).setCell ⟨g,4,none⟩ e):=
 ((((h.setCell (p:=⟨g,0,none⟩) f a).setCell (p:=⟨g,1,none⟩) f b).setCell (p:=⟨g,2,none⟩) f c).setCell (p:=⟨g,3,none⟩) f d).setCell (p:=⟨g,4,none⟩) f e
theorem LabPW.set5 {lo:Nat} {w:World} {x:LabM} {v u:Value} (h:LabPW lo w x v u) {g:Nat} {cs:Array Value} (k:Blk w g 27 cs) (a b c d e:Value):LabPW lo (((((w.setCell ⟨g,0,none⟩ a).setCell ⟨g,1,none⟩ b).setCell ⟨g,2,none⟩ c).setCell ⟨g,3,none⟩ d).setCell ⟨g,4,none⟩ e) x v u:=by
 have f:=k.set_ 0 a;have i:=f.set_ 1 b;have j:=i.set_ 2 c;have l:=j.set_ 3 d;exact((((h.setB k a).setB f b).setB i c).setB j d).setB l e
theorem q7r {l:List Int} (h:q24 l=true):l.Nodup:=(q39.1 h).imp fun h=>by omega
theorem qoc {n:Nat} {l:List Int} (h:l.Nodup) (hi:InL n l):l.length<=n:=by
 have:=qer (m:=(List.range n).map fun(y:Nat)=>(y:Int)) h fun v a=>by
  have:=hi v a;exact zbe.2 ⟨v.toNat,zdd.2 (by omega),by omega⟩
 simpa using this
theorem qrq {n:Nat} {vars:List Int} (h:∀v∈vars,v<=(n:Int)):mxV vars<=n+1:=by
 unfold mxV
 rcases hl:vars.getLast? with _|v
 .simp
 .have:=h v (List.mem_of_getLast? hl)
  simp;omega
theorem q77 {x:qi} {f:qy} (j:AlgP x) (h:q1c x f=true):f.2.2.length<=1000:=by
 obtain⟨g,d,a,b,l,m⟩:=q4p h;have k:=j.2.1
 rcases(by omega:f.1=1\/f.1=2\/(f.1=3\/f.1=5)\/(f.1=4\/f.1=6))with e|e|e|e
 .rw[d e];simp
 .unfold q1c at h
  rw[zaj (by omega),zam e,zal]at h;have c:=h.2;unfold q3f at c;rw[zal,zal,zax]at c;have:=qrq (n:=5) (vars:=q35 f.2.1.1 f.2.1.2) fun v i=>by have:=(q3h (n:=6) v i).2;omega
  omega
 .have:=qoc (q7r (a e)) g
  omega
 .rw[b e];omega
theorem qhj {x:qi}:∀ {fs pre:List qy},goFs x pre fs=true->∀f∈fs,q1c x f=true
 | [],_,_,f,hf=>by cases hf
 | a :: r, pre, h, f, hf => by
   rw [goFs, zal, zal] at h
   rcases zbf.1 hf with rfl | hf
   . exact h.1.1
   . exact qhj h.2 f hf
theorem q6y {x:LabM} (h:labB x=true):∀f∈x.2.2.1,q1c x.2.1 f=true:=fun f a=>by
 obtain⟨b,c,-,-⟩:=q85 h;cases ho:x.1 with
 | false =>
   have := (q84 b c ho).symm.trans h;simp only [zal, zax] at this;rw [zco.1 this.2] at a;cases a
 | true =>
   have := (q83 b c ho).symm.trans h;rw [zal] at this;exact qhj this.2 f a
theorem q9s {x:qi} {f:qy} (h:q1c x f=true) (a:f.1=3):subB x.1.toNat x.2 f.2.2=true:=by
 unfold q1c at h;rw[zaj (by omega),zaj (by omega),zal,zam a]at h;exact h.2
theorem q4x {x:qi} {f:qy} (h:q1c x f=true) (b:f.1=4):ParP x.1.toNat f.2.2:=by
 unfold q1c at h;rw[zaj (by omega),zaj (by omega),zal,zaj (by omega),zam b]at h;have a:=h.2;unfold q2k at a;rw[zal]at a;exact q2h.1 a.1
theorem qci {x:LabM} (h:q19.cnt x<=1048576):∀f∈x.2.2.1,qj.cnt f<=1048576:=fun f b=>by
 have a:0+(qf.cnt x.2.1+((x.2.2.1.length+cntS qj.cnt x.2.2.1)+0))<=1048576:=h;have c:=q3w (f:=qj.cnt) b;omega
def rnF (s:List Int) (f:qy):qy:=(f.1,f.2.1,rfL f.1 f.2.2 s)
def rnTo (fs:List qy) (s:List Int) (k:Nat):List qy:=(fs.take k).map (rnF s)++fs.drop k
theorem qf3 (fs:List qy) (s:List Int):rnTo fs s 0=fs:=by simp[rnTo]
theorem qi9 (fs:List qy) (s:List Int):rnTo fs s fs.length=fs.map fun f=>(f.1,f.2.1,rfL f.1 f.2.2 s):=by
 unfold rnTo;rw[List.take_length,List.drop_length,zc3];rfl
theorem qib (fs:List qy) (s:List Int) {k:Nat} (h:k<=fs.length):(rnTo fs s k).length=fs.length:=by simp[rnTo];omega
theorem qia {fs:List qy} {s:List Int} {k:Nat} (h:k<fs.length):(rnTo fs s k)[k]?=fs[k]?:=by
 unfold rnTo;rw[zbc (by simp;omega),zds]
 congr 1
 simp;omega
theorem qic {fs:List qy} {s:List Int} {k:Nat} {f:qy} (h:fs[k]?=some f):(rnTo fs s k).set k (rnF s f)=rnTo fs s (k+1):=by
 obtain⟨a,b⟩:=zag.1 h;unfold rnTo;rw[zbq a,zdz _ _ (by simp;omega),zbp,h];have e:k - ((fs.take k).map (rnF s)).length=0:=by simp;omega
 rw[e,List.set_cons_zero];simp
def FoE (w:World) (f:qy) (e:Ending) (w':World):Prop:=∃A1 c1 A2 c2 A3 c3 bk,e=.returned (.agg #[.int .i64 f.1,.slice A1 f.2.1.1.length c1,.slice A2 f.2.1.2.length c2,.slice A3 f.2.2.length c3])/\qj.own w' [.int .i64 f.1,.slice A1 f.2.1.1.length c1,.slice A2 f.2.1.2.length c2,.slice A3 f.2.2.length c3] f bk/\Iv w.heap.size w'.heap.size bk/\Below w.heap.size w w'
theorem qpm {x:qi} {f:qy} {s:List Int} (b:AlgP x) (d:q1c x f=true) (c:PermL x.1.toNat s):∀v∈rfL f.1 f.2.2 s,InR v:=fun v e=>by
 have a:=q4p d;have:=qrv c a.1 a.2.2.2.1 v e;have g:=b.2.1;exact⟨by omega,by omega⟩
theorem qj4 (x:qi) (f:qy) (s:List Int) (b:AlgP x) (q:q1c x f=true) (c:PermL x.1.toNat s) (m:qj.cnt f<=1048576) (d:Option Addr) (r v:Nat) (g:Option Addr) (t y:Nat) (j:Option Addr) (u A:Nat) (i:Option Addr) (n z:Nat) (w:World) (E:InR f.1) (k:RdL RI w d r f.2.1.1) (l:RdL RI w g t f.2.1.2) (B:RdL RI w j u f.2.2) (hS:RdL RI w i n s):
  Calls Tryz.prog 87 #[.agg #[.int .i64 f.1,.slice d r v,.slice g t y,.slice j u A],.slice i n z] w (FoE w (rnF s f)):=by
 have G:0+((f.2.1.1.length+f.2.1.2.length)+f.2.2.length)<=1048576:=m;have C:=k.len;have D:=l.len;have o:=B.len;have p:n=x.1.toNat:=by rw[<-hS.len];exact c.1
 have a:=q4p q;have F:=b.2.1;refine(qb8 f.1 d r v g t y j u A i n z f.2.1.1 f.2.1.2 f.2.2 s w k l B hS (by rw[p];exact c) (by omega) (by omega) (by omega) (by rw[<-o];exact q77 b q) (by rw[p];exact a.1) ⟨a.2.2.2.2.1,a.2.2.2.2.2⟩ a.2.1 (fun h=>q7r (a.2.2.1 h)) (fun h=>by rw[p];exact a.2.2.2.1 h)).mono ?_;intro e w' h;exact qbk (f:=rnF s f) h E k.bounds l.bounds (qpm b q c)
theorem qjw (x:qi) (f:qy) (s:List Int) (b:AlgP x) (q:q1c x f=true) (c:PermL x.1.toNat s) (m:qj.cnt f<=1048576) (d:Option Addr) (r v:Nat) (g:Option Addr) (t y:Nat) (j:Option Addr) (u A:Nat) (i:Option Addr) (n z:Nat) (w:World) (E:InR f.1) (k:RdL RI w d r f.2.1.1) (l:RdL RI w g t f.2.1.2) (B:RdL RI w j u f.2.2) (hS:RdL RI w i n s):
  Calls Tryz.prog 65 #[.agg #[.int .i64 f.1,.slice d r v,.slice g t y,.slice j u A],.slice i n z] w (FoE w (rnF s f)):=by
 have G:0+((f.2.1.1.length+f.2.1.2.length)+f.2.2.length)<=1048576:=m;have C:=k.len;have D:=l.len;have o:=B.len;have p:n=x.1.toNat:=by rw[<-hS.len];exact c.1
 have a:=q4p q;have F:=b.2.1;refine(qcv f.1 d r v g t y j u A i n z f.2.1.1 f.2.1.2 f.2.2 s w k l B hS (by rw[p];exact c) (by omega) (by omega) (by omega) (by rw[<-o];exact q77 b q) (by rw[p];exact a.1) ⟨a.2.2.2.2.1,a.2.2.2.2.2⟩ a.2.1 (fun h=>q7r (a.2.2.1 h)) (fun h=>by rw[p];exact a.2.2.2.1 h)).mono ?_;intro e w' h;exact qbk (f:=rnF s f) h E k.bounds l.bounds (qpm b q c)
theorem LabD.base {lo:Nat} {w g:World} {x:LabM} {v u:Value} (h:LabD lo w x v u) (n:Below w.heap.size w g) {k:Value} {a:qi} {css:List (List Value)} {bls:List (List Nat)} (j:PO w.heap.size g k a.2 css bls) (f:lo<=w.heap.size):LabD lo g (x.1,a,x.2.2) k u:=by
 obtain⟨m,l,d,c,p,i,q⟩:=h
 exact⟨css,bls,d,c,j.mono f,i.next n,fun b e o=>by
  have r:=(j.2.2.2 b e).1;have s:=(i.2.2.2 b o).2
  omega⟩
theorem LabD.putF {lo:Nat} {w m:World} {x:LabM} {v u:Value} (h:LabD lo w x v u) (r:Below w.heap.size w m) {k i n o:Nat} (Q:u=.slice (some ⟨i,0,none⟩) n o) (N:k<x.2.2.1.length) {c:List Value} {f:qy} {F:List Nat} (O:qj.own m c f F) (y:Iv w.heap.size m.heap.size F) (l:lo<=w.heap.size):
  LabD lo (q3u m i (k*4) c) (x.1,x.2.1,x.2.2.1.set k f,x.2.2.2) v u/\Below lo w (q3u m i (k*4) c)/\∀ {g:Nat} {t:TypeId} {cs:Array Value},57≠t->Blk m g t cs->Blk (q3u m i (k*4) c) g t cs:=by
 obtain⟨A,bls,L,K,G,B,C⟩:=h;have D:=(B.next r).2.1;subst Q;obtain⟨R,S,e'⟩:=qu D;injection e' with e1 e2 e3
 subst e2;obtain⟨P,d⟩:=q41 c (k*4) D;have s:i∈obl (Value.slice (some ⟨i,0,none⟩) x.2.2.1.length o):=q1e.2 rfl;have M:=B.put q4v rfl r (k:=k) rfl N O y l;have p:=G.next r;have I:lo<=i:=(B.2.2.2 i (zbb _ s)).1;refine⟨⟨A,bls,_,_,p.same d.size fun b a=>d.block b (p.2.2.2 b a).2 fun e=>?_,M,fun b a z=>?_⟩,?_,fun {g t cs} E H=>?_⟩
 .injection e with e
  subst e;exact C _ a (zbb _ s)
 .rcases zau.1 z with z|z
  .exact C b a (zbb _ z)
  .obtain⟨J,j,q⟩:=zbm.1 z
   rcases zdk j with j|rfl
   .exact C b a (zaz _ (zbm.2 ⟨J,j,q⟩))
   .have T:=(y.2 b q).1
    have U:=(G.2.2.2 b a).2;omega
 .exact(r.mono l).grown d (za7 l r.size) (fun b a=>by injection a with a;omega)
 .exact H.grown d fun e=>q1s D H E e.symm
theorem LabD.set5 {lo:Nat} {w:World} {x:LabM} {v u:Value} (h:LabD lo w x v u) {g:Nat} {i j k l m:Value} (f:Blk w g 27 #[i,j,k,l,m]) (a b c d e:Value):LabD lo (((((w.setCell ⟨g,0,none⟩ a).setCell ⟨g,1,none⟩ b).setCell ⟨g,2,none⟩ c).setCell ⟨g,3,none⟩ d).setCell ⟨g,4,none⟩ e) x v u:=
 ((((h.setB f a).setB (f.set_ 0 a) b).setB ((f.set_ 0 a).set_ 1 b) c).setB (((f.set_ 0 a).set_ 1 b).set_ 2 c) d).setB ((((f.set_ 0 a).set_ 1 b).set_ 2 c).set_ 3 d) e
theorem LabD.putF_keep {lo:Nat} {w l:World} {x:LabM} {v u:Value} (h:LabD lo w x v u) (b:Below w.heap.size w l) {k f n a:Nat} (t:u=.slice (some ⟨f,0,none⟩) n a) (c:List Value):∀j,j<w.heap.size->j∉obl u->(q3u l f (k*4) c).heap[j]?=w.heap[j]?:=fun j i r=>by
 obtain⟨o,bls,p,m,A,q,B⟩:=h;have g:=(q.next b).2.1;subst t;obtain⟨y,z,e'⟩:=qu g;injection e' with e1 e2 e3
 subst e2;obtain⟨s,d⟩:=q41 c (k*4) g;refine(d.block j (zcu i b.size) fun e=>r (q1e.2 ?_)).trans (b.block j i);injection e with e
 rw[e];rfl
theorem q6u {w:World} {g:Nat} {e f i j:Value} (h:Blk w g 57 #[e,f,i,j]) (a b c d:Value):Blk ((((w.setCell ⟨g,0,none⟩ a).setCell ⟨g,1,none⟩ b).setCell ⟨g,2,none⟩ c).setCell ⟨g,3,none⟩ d) g 57 #[a,b,c,d]:=by
 simpa using(((h.set_ 0 a).set_ 1 b).set_ 2 c).set_ 3 d
theorem q4c {B g:Nat} {w w':World} (h:Below B w w') (e:B<=g) (a b c d:Value):Below B w ((((w'.setCell ⟨g,0,none⟩ a).setCell ⟨g,1,none⟩ b).setCell ⟨g,2,none⟩ c).setCell ⟨g,3,none⟩ d):=
 (((h.setCell (p:=⟨g,0,none⟩) e a).setCell (p:=⟨g,1,none⟩) e b).setCell (p:=⟨g,2,none⟩) e c).setCell (p:=⟨g,3,none⟩) e d
theorem q2j {x:qi} {f:qy}:q1c x f=true↔(f.1=1/\q5r x.1.toNat x.2 f.2.1.1 f.2.1.2=true/\f.2.2= [])\/(f.1=2/\askB x.1.toNat x.2 f.2.1.1 f.2.1.2=true/\q3f x.1.toNat x.2 f.2.1.1 f.2.1.2 f.2.2=true)\/(noEq f.2.1=true/\((f.1=3/\subB x.1.toNat x.2 f.2.2=true)\/(f.1=4/\q2k x.1.toNat x.2 f.2.2=true)\/(f.1=5/\genB x.1.toNat x.2 f.2.2=true)\/(f.1=6/\homB x.1.toNat x.2 f.2.2=true))):=by
 unfold q1c
 by_cases h1:f.1=1
 .rw[zam h1,zal,zax,zco]
  exact⟨fun h=>.inl ⟨h1,h.1,h.2⟩,fun h=>by rcases h with h|h|h;exact h.2;omega;omega⟩
 rw[zaj h1]
 by_cases h2:f.1=2
 .rw[zam h2,zal]
  exact⟨fun h=>.inr (.inl ⟨h2,h.1,h.2⟩),fun h=>by rcases h with h|h|h;omega;exact h.2;omega⟩
 rw[zaj h2,zal];constructor
 .rintro⟨b,a⟩
  refine .inr (.inr ⟨b,?_⟩)
  by_cases e3:f.1=3
  .rw[zam e3]at a;exact .inl ⟨e3,a⟩
  rw[zaj e3]at a
  by_cases e4:f.1=4
  .rw[zam e4]at a;exact .inr (.inl ⟨e4,a⟩)
  rw[zaj e4]at a
  by_cases e5:f.1=5
  .rw[zam e5]at a;exact .inr (.inr (.inl ⟨e5,a⟩))
  rw[zaj e5]at a
  by_cases e6:f.1=6
  .rw[zam e6]at a;exact .inr (.inr (.inr ⟨e6,a⟩))
  rw[zaj e6]at a;cases a
 .rintro(h|h|⟨b,h|h|h|h⟩)
  .omega
  .omega
  .exact⟨b,by rw[zam h.1];exact h.2⟩
  .exact⟨b,by rw[zaj (by omega),zam h.1];exact h.2⟩
  .exact⟨b,by rw[zaj (by omega),zaj (by omega),zam h.1];exact h.2⟩
  .exact⟨b,by rw[zaj (by omega),zaj (by omega),zaj (by omega),zam h.1];exact h.2⟩
theorem qk5 {x:qi} (h:AlgP x):0<x.1.toNat:=by have:=h.1;omega
theorem rf1 {k:Int} (V s:List Int) (h:k=1):rfL k V s=V:=by unfold rfL;rw[zaj (by omega),zaj (by omega),zaj (by omega),zaj (by omega)]
theorem rf2 {k:Int} (V s:List Int) (h:k=2):rfL k V s=comp V s:=by unfold rfL;rw[zam h]
theorem rf35 {k:Int} (V s:List Int) (h:k=3\/k=5):rfL k V s=q1m s.length fun y=>hasI (y:Int) (comp V s):=by unfold rfL;rw[zaj (by omega),zam h]
theorem rf4 {k:Int} (V s:List Int) (h:k=4):rfL k V s=kerL (comp (inv s.length s) V):=by unfold rfL;rw[zaj (by omega),zaj (by omega),zam h]
theorem rf6 {k:Int} (V s:List Int) (h:k=6):rfL k V s=comp (comp (inv s.length s) V) s:=by unfold rfL;rw[zaj (by omega),zaj (by omega),zaj (by omega),zam h]
theorem qos {x:qi} {s:List Int} {f:qy} (j:AlgP x) (d:PermL x.1.toNat s) (h:q1c x f=true):q1c (ren x s) (rnF s f)=true:=by
 have c:=qk5 j;have a:=j.2.2.2
 rcases q2j.1 h with⟨e,b,i⟩|⟨e,b,i⟩|⟨g,⟨e,b⟩|⟨e,b⟩|⟨e,b⟩|⟨e,b⟩⟩
 .exact q2j.2 (.inl ⟨e,qnl c d a b,(rf1 _ _ e).trans i⟩)
 .exact q2j.2 (.inr (.inl ⟨e,(qka _ _ _ _ _).trans b,(by show q3f _ _ _ _ (rfL f.1 f.2.2 s)=true;rw[rf2 f.2.2 s e];exact qng c d a b i)⟩))
 .exact q2j.2 (.inr (.inr ⟨g,.inl ⟨e,(by show subB _ _ (rfL f.1 f.2.2 s)=true;rw[rf35 f.2.2 s (.inl e)];exact qr6 c d a b)⟩⟩))
 .exact q2j.2 (.inr (.inr ⟨g,.inr (.inl ⟨e,(by show q2k _ _ (rfL f.1 f.2.2 s)=true;rw[rf4 f.2.2 s e];exact qnb c d a b)⟩)⟩))
 .exact q2j.2 (.inr (.inr ⟨g,.inr (.inr (.inl ⟨e,(by show genB _ _ (rfL f.1 f.2.2 s)=true;rw[rf35 f.2.2 s (.inr e)];exact qqa c d a b)⟩))⟩))
 .exact q2j.2 (.inr (.inr ⟨g,.inr (.inr (.inr ⟨e,(by show homB _ _ (rfL f.1 f.2.2 s)=true;rw[rf6 f.2.2 s e];exact qqe c d a b)⟩))⟩))
theorem qr0 {x:qi} {s:List Int} {f g:qy} (r:AlgP x) (d:PermL x.1.toNat s) (h:q1c x f=true) (m:q1c x g=true) (e:rnF s f=rnF s g):f=g:=by
 obtain⟨k,i,V⟩:=f;obtain⟨q,p,W⟩:=g;have n:k=q:=zav (·.1) e;have o:i=p:=zav (·.2.1) e;subst n;subst o;have c:rfL k V s=rfL k W s:=zav (·.2.2) e;have a:=q4p h;have b:=q4p m;have j:InL x.1.toNat V:=a.1;have l:InL x.1.toNat W:=b.1
 suffices V=W by rw[this]
 by_cases h1:k=1
 .rw[show V= []from a.2.1 h1,show W= []from b.2.1 h1]
 by_cases h2:k=2
 .rw[rf2 _ _ h2,rf2 _ _ h2]at c
  exact qhb d j l c
 by_cases h35:k=3\/k=5
 .rw[rf35 _ _ h35,rf35 _ _ h35]at c
  exact qrw d j l (q39.1 (a.2.2.1 h35)) (q39.1 (b.2.2.1 h35)) c
 by_cases h4:k=4
 .rw[rf4 _ _ h4,rf4 _ _ h4]at c
  exact qna d (q4x h h4) (q4x m h4) c
 by_cases h6:k=6
 .rw[rf6 _ _ h6,rf6 _ _ h6]at c
  exact qqd d (a.2.2.2.1 (.inr h6)) j (b.2.2.2.1 (.inr h6)) l c
 have:1<=k/\k<=6:=⟨a.2.2.2.2.1,a.2.2.2.2.2⟩;omega
theorem qhr {a:List qy} {f:qy}:memF a f=true↔f∈a:=by
 have b:∀(l:List qy) (k:Int),0<=k->(0<=q54 f l k↔f∈l):=by
  intro l
  induction l with
  |nil=>intro k _;exact⟨fun h=>absurd h (by unfold q54;decide),fun h=>by cases h⟩
  | cons g l ih =>
    intro k c;rw [q54]
    by_cases hg : eqC f g = true
    . rw [zam hg]
      rw [q2f] at hg;subst hg;exact ⟨fun _ => zaq, fun _ => c⟩
    . rw [zaj hg, ih (k + 1) (by omega), zbf]
      rw [q2f] at hg;exact ⟨.inr, fun h => h.elim (fun e => absurd e hg) id⟩
 unfold memF posF;rw[zax];exact b a 0 (Int.le_refl _)
theorem qhk {x:qi}:∀ {fs pre:List qy},goFs x pre fs=true↔(∀f∈fs,q1c x f=true/\f∉pre)/\fs.Nodup
 | [],pre=>⟨fun _=>⟨fun f hf=>(by cases hf),List.nodup_nil⟩,fun _=>rfl⟩
 | a :: r, pre => by
   rw [goFs, zal, zal, qhk, zd2, Bool.not_eq_true', <- Bool.not_eq_true, qhr];constructor
   . rintro ⟨⟨h1, h2⟩, h3, h4⟩
     refine ⟨fun f hf => ?_, fun hm => (h3 a hm).2 (zaz _ zaq), h4⟩
     rcases zbf.1 hf with rfl | hf
     . exact ⟨h1, h2⟩
     . exact ⟨(h3 f hf).1, fun hm => (h3 f hf).2 (zbb _ hm)⟩
   . rintro ⟨h1, h2, h3⟩
     refine ⟨h1 a zaq, fun f hf => ⟨(h1 f (zap _ hf)).1, fun hm => ?_⟩, h3⟩
     rcases zau.1 hm with hm | hm
     . exact (h1 f (zap _ hf)).2 hm
     . rw [zb2] at hm
       subst hm;exact h2 hf
def TrN (x:qi) (fs:List qy):Prop:=(∀f∈fs,q1c x f=true)/\fs.Nodup
theorem qrk {x:qi} {fs:List qy}:goFs x [] fs=true↔TrN x fs:=by
 rw[qhk];exact⟨fun h=>⟨fun f a=>(h.1 f a).1,h.2⟩,fun h=>⟨fun f a=>⟨h.1 f a,fun b=>(by cases b)⟩,h.2⟩⟩
theorem TrN.add {x:qi} {fs:List qy} {f:qy} (h:TrN x fs) (j:q1c x f=true) (k:posF fs f<0):TrN x (fs++ [f]):=by
 refine⟨fun g c=>(zau.1 c).elim (h.1 g) fun c=>by rw[zb2]at c;rw[c];exact j,?_⟩;rw[zbd];refine⟨h.2,(by simp),fun a i b d e=>?_⟩;rw[zb2]at d;subst d;subst e;have:=qhr.2 i;unfold memF at this;rw[zax]at this;omega
theorem TrN.sub {x:qi} {fs a:List qy} (h:TrN x fs) (b:a.Sublist fs):TrN x a:=⟨fun f c=>h.1 f (b.mem c),h.2.sublist b⟩
theorem TrN.ren {x:qi} {fs:List qy} {s:List Int} (h:TrN x fs) (d:AlgP x) (c:PermL x.1.toNat s):TrN (ren x s) (fs.map fun f=>(f.1,f.2.1,rfL f.1 f.2.2 s)):=
 ⟨fun g l=>by
  obtain⟨f,k,rfl⟩:=zbe.1 l
  exact qos d c (h.1 f k),q88 (f:=rnF s) h.2 fun a i b j e=>qr0 d c (h.1 a i) (h.1 b j) e⟩
theorem q2m {x:LabM} (a:x.1=true):labB x=true↔0<=x.2.2.2/\x.2.2.2<=9999/\AlgP x.2.1/\x.2.2.1.length<=12/\TrN x.2.1 x.2.2.1:=by
 unfold labB;rw[zam a,zal,zal,zal,zal,zax,zax,zax,q43,qrk];exact⟨fun h=>⟨h.1.1,h.1.2,h.2.1.1,h.2.1.2,h.2.2⟩,fun h=>⟨⟨h.1,h.2.1⟩,⟨h.2.2.1,h.2.2.2.1⟩,h.2.2.2.2⟩⟩
theorem q6b {x:LabM} (j:x.1=false):labB x=true↔0<=x.2.2.2/\x.2.2.2<=9999/\x.2.1=(0, [])/\x.2.2.1= []:=by
 obtain⟨o,⟨z,k⟩,h,r⟩:=x;subst j;unfold labB;rw[zaj Bool.false_ne_true,zal,zal,zal,zal,zax,zax,zax,zax,zax];constructor
 .rintro⟨⟨b,c⟩,⟨a,d⟩,i⟩
  refine⟨b,c,Prod.ext a (zco.1 d),zco.1 i⟩
 .rintro⟨b,c,a,d⟩
  have e:z=0:=zav (·.1) a;have f:k= []:=zav (·.2) a;have g:h= []:=d;exact⟨⟨b,c⟩,⟨e,by rw[f];rfl⟩,by rw[g];rfl⟩
theorem qot {x:LabM} {k a b:Int} {f:qy} (o:AlgP x.2.1) (h:TrN x.2.1 x.2.2.1) (e:twoF x k a b=some f):q1c x.2.1 f=true:=by
 unfold twoF at e
 rcases ea:x.2.2.1[a.toNat]? with _|j
 .rw[ea]at e;cases e
 rcases eb:x.2.2.1[b.toNat]? with _|l
 .rw[ea,eb]at e;cases e
 rw[ea,eb]at e;simp only at e;have m:=h.1 j (zaf ea);have n:=h.1 l (zaf eb);have i:=qk5 o;have d:=o.2.2.2
 split at e
 .cases e
 rename_i hne
 have r:j.1=l.1:=by
  by_cases hq:j.1=l.1
  .exact hq
  .exact absurd (zew hq) hne
 split at e
 .rename_i h3
  injection e with e
  subst e;refine q2j.2 (.inr (.inr ⟨rfl,.inl ⟨rfl,?_⟩⟩));show subB _ _ (if k=3 then _ else _)=true
  split
  .exact qo5 i d (q9s n (by omega)) (q9s m h3)
  .exact qqb i d
 .split at e
  .rename_i h4
   injection e with e
   subst e;have c:∀ {g:qy},q1c x.2.1 g=true->g.1=4->q2k x.2.1.1.toNat x.2.1.2 g.2.2=true:=fun t p=>by
    rcases q2j.1 t with⟨q,-⟩|⟨q,-⟩|⟨-,⟨q,-⟩|⟨q,h⟩|⟨q,-⟩|⟨q,-⟩⟩
    all_goals first|exact h|omega
   refine q2j.2 (.inr (.inr ⟨rfl,.inr (.inl ⟨rfl,?_⟩)⟩));show q2k _ _ (if k=3 then _ else _)=true
   split
   .exact qll i d (c m h4) (c n (by omega))
   .exact ql3 i d (c m h4) (c n (by omega))
  .cases e
theorem qlf {x y:LabM} {s:qq} (d:x.1=true) (h:labB x=true) (e:makM x s=some y) (c:y.2.2.1.length<=12) (l:y.2.2.2<=9999):labB y=true:=by
 obtain⟨g,i,a,k,b⟩:=(q2m d).1 h;unfold makM at e
 split at e
 .injection e with e
  split at e
  .rename_i hc
   subst e;exact(q2m (by exact d)).2 ⟨g,i,a,c,b.add hc.1 hc.2⟩
  .subst e
   exact(q2m (by exact d)).2 ⟨by show 0<=x.2.2.2+1;omega,l,a,k,b⟩
 split at e
 .rcases ef:twoF x s.1 s.2.2.2.2.1 s.2.2.2.2.2 with _|f
  .rw[ef]at e;cases e
  rw[ef]at e;injection e with e
  subst e;have m:=qot a b ef;unfold addF at c l⊢
  split
  .rename_i hp
   rw[zam hp]at c;exact(q2m (by exact d)).2 ⟨g,i,a,c,b.add m hp⟩
  .exact h
 split at e
 .split at e
  .injection e with e
   subst e;have j:(x.2.2.1.take s.2.2.2.2.1.toNat++x.2.2.1.drop (s.2.2.2.2.1.toNat+1)).Sublist x.2.2.1:=by
    conv=>rhs;rw[<-zcv s.2.2.2.2.1.toNat x.2.2.1]
    refine List.Sublist.append (List.Sublist.refl _) ?_;rw[<-List.drop_drop];exact List.drop_sublist _ _
   exact(q2m (by exact d)).2 ⟨g,i,a,c,b.sub j⟩
  .cases e
 split at e
 .split at e
  .rename_i hp
   injection e with e
   subst e;have j:PermL x.2.1.1.toNat s.2.2.2.1:=q2h.1 hp;exact(q2m (by exact d)).2 ⟨g,i,qqy j a,c,b.ren a j⟩
  .cases e
 .injection e with e
  subst e;exact(q6b rfl).2 ⟨g,i,rfl,rfl⟩
theorem qjy {x y:LabM} {s:qq} (h:q6m x s=some y):labB y=true:=by
 unfold q6m at h
 split at h
 .rename_i hc
  obtain⟨g,-,d⟩:=hc
  split at h
  .rename_i h1
   have c:x.1=false:=by
    rcases e:x.1 with _|_
    .rfl
    .exact absurd h1 (d.1 e)
   obtain⟨i,j,-,b⟩:=(q6b c).1 g
   rcases ep:parA s.2.1 with _|a
   .rw[ep]at h;cases h
   rw[ep]at h;injection h with h
   subst h;refine(q2m rfl).2 ⟨i,j,(qm3 ep).1.1,by show x.2.2.1.length<=12;rw[b];decide,?_⟩;show TrN a x.2.2.1
   rw[b];exact⟨fun f b=>(by cases b),List.nodup_nil⟩
  .rename_i h1
   have c:x.1=true:=d.2 h1
   rcases em:makM x s with _|z
   .rw[em]at h;cases h
   rw[em]at h;have h:(if z.2.2.1.length<=12/\z.2.2.2<=9999 then some z else none)=some y:=h
   split at h
   .rename_i hz
    injection h with h
    subst h;exact qlf c g em hz.1 hz.2
   .cases h
 .cases h
theorem qqg {x:LabM} (h:q19.cnt x<=1048576):qf.cnt x.2.1<=1048576/\qf.cnt x.2.1+(x.2.2.1.length+cntS qj.cnt x.2.2.1)<=1048576:=by
 have a:(0+((qf.cnt x.2.1)+((x.2.2.1.length+cntS qj.cnt x.2.2.1)+0)))<=1048576:=h;omega
theorem qjk {x:LabM} (h:q19.cnt x<=1048576):q53 x<=4194304:=by
 have b:=qqg h;have:∀l:List qy,cntS q29 l=l.length+cntS qj.cnt l:=fun l=>by
  induction l with
  |nil=>rfl
  | cons y l ih =>
    rw [q1h, q1h, ih, za0];show (1 + y.2.1.1.length + y.2.1.2.length + y.2.2.length) + _ = _ + ((0 + ((y.2.1.1.length + y.2.1.2.length) + y.2.2.length)) + _)
    omega
 have c:=qb7 b.1;have a:q1i x.2.1<=qf.cnt x.2.1:=by
  have:∀l:List OpM,cntS mcOp l=l.length+cntS shOp.cnt l:=fun l=>by
   induction l with
   |nil=>rfl
   | cons y l ih =>
     rw [q1h, q1h, ih, za0];show 1 + y.2.length + _ = _ + ((0 + y.2.length) + _)
     omega
  unfold q1i;rw[this];show _<=0+(x.2.1.2.length+cntS shOp.cnt x.2.1.2)
  omega
 unfold q53;rw[this];omega
theorem q5x {lo lo' n:Nat} {w:World} {v u:Value} {xs:List OpM} {css:List (List Value)} {bls:List (List Nat)} {s:List Value} (h:PO lo w v xs css bls) (r:w.ownsRow lo' 57 4 u n s):∀b∈obl v++bls.flatten,b∉obl u:=fun b d f=>by
 obtain⟨j,o,i⟩:=q5z r f;have:∃a t e,w.heap[b]?=some (.cells a t e)/\t≠57:=by
  rcases zau.1 d with d|d
  .obtain⟨a,e,c⟩:=q5z h.2.1 d
   exact⟨a,_,e,c,by decide⟩
  .obtain⟨m,g,d⟩:=zbm.1 d
   obtain⟨k,l⟩:=zbo g;have p:=(zag.1 l).1;have x:=h.1.l1;have y:=h.1.l2;obtain⟨a,e,c⟩:=qd9 (h.1.el k _ _ m (zae (by omega)) (zae (by omega)) l) d;exact⟨a,_,e,c,by decide⟩
 obtain⟨a,t,e,c,q⟩:=this;rw[i]at c;injection c with c
 injection c with _ c
 exact q c.symm
theorem qqn (B:Nat) (ds:List Value) (x:LabM) (s:qq) (w:World) (g:Nat) (v u:Value) (X:B<=g) (b:Blk w g 27 #[.bool x.1,.int .i64 x.2.1.1,v,u,.int .i64 x.2.2.2]) (V:LabD B w x v u) (z:qh.rd w ds s) (hx:AlgP x.2.1) (Z:x.2.2.1.length<=12) (hr:0<=x.2.2.2/\x.2.2.2<=9999) (W:qj.cnt s.2.2.1<=1048576) (c:s.1=7):
  Calls Tryz.prog 45 #[.pointer (some ⟨g,0,none⟩),.agg ds.toArray] w (MkO B g x s w):=by
 have h:=z;obtain⟨E,nL,J,F,nR,K,H,nV,M,G,nS,L,rfl,pK,pT,pF,pL,pR,pV,pS,pA,pB⟩:=q1a z;obtain⟨O,bls,P,N,f,e,A⟩:=V;obtain⟨A1,c1,rfl⟩:=qu f.2.1;obtain⟨A2,c2,rfl⟩:=qu e.2.1;obtain⟨w0,j,o,i,C⟩:=q15 w #[.int .i64 s.1,.string s.2.1,.int .i64 s.2.2.1.1,.slice E nL J,.slice F nR K,.slice H nV M,.slice G nS L,.int .i64 s.2.2.2.2.1,.int .i64 s.2.2.2.2.2] 59;have n:=zaa j;have Y:=b.lt;have a:=b.next o;have D:Below B w w0:=o.mono (by omega);have p:=a.cell 0;have q:=a.cell 1;have r:=a.cell 2;have t:=a.cell 3;have y:=a.cell 4;have Q:=a.frozen 0;have R:=a.frozen 1;have S:=a.frozen 2;have T:=a.frozen 3;have U:=a.frozen 4;have d:=C.cell 0;simp at p q r t y d;have I:Hid (makM x s=some (false,(0, []), [],x.2.2.2)):=by
  show _=_
  unfold makM;rw[zaj (by rw[c];decide),zaj (by rw[c];decide),zaj (by rw[c];decide),zaj (by rw[c];decide)]
 have k:=zaa (q18 a (.bool false) (.int .i64 0) (.slice none 0 0) (.slice none 0 0) (.int .i64 x.2.2.2));have m:=zaa (q10 D (g:=g) X (.bool false) (.int .i64 0) (.slice none 0 0) (.slice none 0 0) (.int .i64 x.2.2.2));have l:Hid (InR x.2.2.2):=⟨by omega,by omega⟩;rw[c]at d;clear c;clear j i z h f e A D o a C pK pT pF pL pR pV pS pA pB b
 go_enter Tryz.func45,Tryz.ntmps45
 go_upto_region 1 with fail;rw[<-n.out];go_wp2_with fail;go_ret;exact⟨m.out,zew ⟨_,_,_,I.out,rfl,k.out,by exact qaj _ _,(show InR (0:Int)from⟨by decide,by decide⟩),l.out⟩⟩
theorem qqk (B:Nat) (ds:List Value) (x:LabM) (s:qq) (w:World) (g:Nat) (v u:Value) (hg:B<=g) (hBl:Blk w g 27 #[.bool x.1,.int .i64 x.2.1.1,v,u,.int .i64 x.2.2.2]) (hD:LabD B w x v u) (h':qh.rd w ds s) (hx:AlgP x.2.1) (hln:x.2.2.1.length<=12) (hr:0<=x.2.2.2/\x.2.2.2<=9999) (hcs:qj.cnt s.2.2.1<=1048576) (hk:s.1=2):
  Calls Tryz.prog 45 #[.pointer (some ⟨g,0,none⟩),.agg ds.toArray] w (MkO B g x s w):=by
 have hrd':=h';obtain⟨AL,nL,cL,AR,nR,cR,AV,nV,cV,AS,nS,cS,rfl,pK,pT,pF,pL,pR,pV,pS,pA,pB⟩:=q1a h';obtain⟨css,bls,dss,cls,hPO,hPG,hap⟩:=hD;obtain⟨A1,c1,rfl⟩:=qu hPO.2.1;obtain⟨A2,c2,rfl⟩:=qu hPG.2.1;obtain⟨n,hw0,T0,hsz0,BQ⟩:=q15 w #[.int .i64 s.1,.string s.2.1,.int .i64 s.2.2.1.1,.slice AL nL cL,.slice AR nR cR,.slice AV nV cV,.slice AS nS cS,.int .i64 s.2.2.2.2.1,.int .i64 s.2.2.2.2.2] 59;have HW0:=zaa hw0;have hgw:=hBl.lt;have BG:=hBl.next T0;have T:=hPO.next T0;have S:=hPG.next T0;have TB:Below B w n:=T0.mono (by omega);have HTB:=zaa TB;have hs0:n.heap.size=w.heap.size+1:=hsz0;have K:=BG.cell 0;have L:=BG.cell 1;have M:=BG.cell 2;have l:=BG.cell 3;have m:=BG.cell 4;have fG4:=BG.frozen 4;have cQ0:=BQ.cell 0;have f:=BQ.cell 2;have h:=BQ.cell 3;have i:=BQ.cell 4;have j:=BQ.cell 5;simp at K L M l m cQ0 f h i j;obtain⟨y,HY⟩:∃y,Hid (s.2.2.1=y):=⟨_,zaa rfl⟩;have HQL:=zaa (pL.next qd T0);have HQR:=zaa (pR.next qd T0);have HQV:=zaa (pV.next qd T0);have hcf:0+((s.2.2.1.2.1.1.length+s.2.2.1.2.1.2.length)+s.2.2.1.2.2.length)<=1048576:=hcs;have HCF:Hid (∀c,Below n.heap.size n c->Calls Tryz.prog 79 #[.agg #[.int .i64 s.2.2.1.1,.slice AL nL cL,.slice AR nR cR,.slice AV nV cV]] c (CfE c s.2.2.1)):=fun c z=>
  q5l s.2.2.1.1 AL nL cL AR nR cR AV nV cV s.2.2.1.2.1.1 s.2.2.1.2.1.2 s.2.2.1.2.2 c (HQL.out.next qd z) (HQR.out.next qd z) (HQV.out.next qd z) (by rw[<-pL.len];omega) (by rw[<-pR.len];omega) (by rw[<-pV.len];omega)
 have HFR:Hid (∀c,Below n.heap.size n c->qj.rd c [.int .i64 s.2.2.1.1,.slice AL nL cL,.slice AR nR cR,.slice AV nV cV] s.2.2.1):=fun c z=>q6d pF (HQL.out.next qd z) (HQR.out.next qd z) (HQV.out.next qd z)
 have HBD:Hid ((∀v∈s.2.2.1.2.1.1,InR v)/\(∀v∈s.2.2.1.2.1.2,InR v)/\(∀v∈s.2.2.1.2.2,InR v)):=⟨pL.bounds,pR.bounds,pV.bounds⟩;have HQK:Hid (InR s.2.2.1.1):=pF;have hin:InR x.2.1.1:=⟨by have:=hx.1;omega,by have:=hx.2.1;omega⟩;have hin2:InR x.2.2.2:=⟨by omega,by omega⟩;obtain⟨tb,HTBV⟩:∃b,Hid (q1c x.2.1 s.2.2.1=b):=⟨_,zaa rfl⟩;obtain⟨p,HP⟩:∃p,Hid (posF x.2.2.1 s.2.2.1=p):=⟨_,zaa rfl⟩;have HI:Hid (∀c,Below n.heap.size n c->Calls Tryz.prog 75 #[.agg #[.int .i64 x.2.1.1,.slice A1 x.2.1.2.length c1],.agg #[.int .i64 s.2.2.1.1,.slice AL nL cL,.slice AR nR cR,.slice AV nV cV]] c (Bl c (.bool tb))):=fun c z=>by
  have:=q93 [.int .i64 x.2.1.1,.slice A1 x.2.1.2.length c1] _ x.2.1 s.2.2.1 c (qf.ord ((T.next z).algO hin)) (HFR.out c z) hx
  rwa [HTBV.out]at this
 have HX:Hid (∀c,Below n.heap.size n c->Calls Tryz.prog 76 #[.slice A2 x.2.2.1.length c2,.agg #[.int .i64 s.2.2.1.1,.slice AL nL cL,.slice AR nR cR,.slice AV nV cV]] c (Bl c (.int .i64 p))):=fun c z=>by
  obtain⟨A',c',e,hrd⟩:=(S.next z).rd;injection e with e1 e2 e3
  have:=q5p A2 x.2.2.1.length c2 _ x.2.2.1 s.2.2.1 c (by rw[e1];exact hrd) (HFR.out c z)
  rwa [HP.out]at this
 have HM:Hid (makM x s=some (if tb=true/\p<0 then(x.1,x.2.1,x.2.2.1++ [s.2.2.1],x.2.2.2)else(x.1,x.2.1,x.2.2.1,x.2.2.2+1))):=by
  show _=_
  unfold makM;rw[zam hk,HTBV.out,HP.out]
 have HPO0:=zaa T;have HPG0:=zaa S;have HAP:=zaa hap;rw[hk]at cQ0;have a:Below n.heap.size n n:=zac _ _;clear hk;clear hw0 hsz0 h' hrd' hPO hPG T S hap TB T0 pK pT pF pL pR pV pS pA pB hBl hcf hcs HY
 go_enter Tryz.func45,Tryz.ntmps45
 go_upto_region 1 with fail;rw[<-HW0.out];go_upto_region 3 with fail;obtain⟨qb,Q⟩:∃q,Hid ((tb &&decide (p<0))=q):=⟨_,zaa rfl⟩
 go_cut [27] (fun t wx=>t=.bool qb/\Below n.heap.size n wx)
 case first=>
  rcases tb with _|_
  .first|(go_region_law (first
    |(go_simp;go_at_call 75;(with_reducible refine(HI.out _ ?_).mono ?_);(first|exact a|exact zai a|exact qc (zac _ _) _|exact qc a _);rintro e1 wn ⟨rfl,d⟩;replace a:=q9 (by first|exact a|exact zai a|exact qc (zac _ _) _|exact qc a _) d rfl;have A:=qe a K;have C:=qe a L;have D:=qe a M;have E:=qe a l;have F:=qe a m;have G:=qe a f;have H:=qe a h;have I:=qe a i;have J:=qe a j)))|fail
   all_goals
    go_wp2_with fail;go_meet;exact⟨by rw[<-Q.out];rfl,by first|exact a|exact zai a⟩
  .by_cases hp:p<0
   .skip
    first|(go_region_law (first
     |(go_simp;go_at_call 75;(with_reducible refine(HI.out _ ?_).mono ?_);(first|exact a|exact zai a|exact qc (zac _ _) _|exact qc a _);rintro e1 wn ⟨rfl,d⟩;replace a:=q9 (by first|exact a|exact zai a|exact qc (zac _ _) _|exact qc a _) d rfl;have A:=qe a K;have C:=qe a L;have D:=qe a M;have E:=qe a l;have F:=qe a m;have G:=qe a f;have H:=qe a h;have I:=qe a i;have J:=qe a j)
     |(go_simp;go_at_call 76;(with_reducible refine(HX.out _ ?_).mono ?_);(first|exact a|exact zai a|exact qc (zac _ _) _|exact qc a _);rintro e1 wn ⟨rfl,d⟩;replace a:=q9 (by first|exact a|exact zai a|exact qc (zac _ _) _|exact qc a _) d rfl;have A:=qe a K;have C:=qe a L;have D:=qe a M;have E:=qe a l;have F:=qe a m;have G:=qe a f;have H:=qe a h;have I:=qe a i;have J:=qe a j)))|fail
    all_goals
     go_wp2_with fail;go_meet;exact⟨by rw[<-Q.out];simp[hp],by first|exact a|exact zai a⟩
   .skip
    first|(go_region_law (first
     |(go_simp;go_at_call 75;(with_reducible refine(HI.out _ ?_).mono ?_);(first|exact a|exact zai a|exact qc (zac _ _) _|exact qc a _);rintro e1 wn ⟨rfl,d⟩;replace a:=q9 (by first|exact a|exact zai a|exact qc (zac _ _) _|exact qc a _) d rfl;have A:=qe a K;have C:=qe a L;have D:=qe a M;have E:=qe a l;have F:=qe a m;have G:=qe a f;have H:=qe a h;have I:=qe a i;have J:=qe a j)
     |(go_simp;go_at_call 76;(with_reducible refine(HX.out _ ?_).mono ?_);(first|exact a|exact zai a|exact qc (zac _ _) _|exact qc a _);rintro e1 wn ⟨rfl,d⟩;replace a:=q9 (by first|exact a|exact zai a|exact qc (zac _ _) _|exact qc a _) d rfl;have A:=qe a K;have C:=qe a L;have D:=qe a M;have E:=qe a l;have F:=qe a m;have G:=qe a f;have H:=qe a h;have I:=qe a i;have J:=qe a j)))|fail
    all_goals
     go_wp2_with fail;go_meet;exact⟨by rw[<-Q.out];simp[hp],by first|exact a|exact zai a⟩
 case rest=>
  obtain⟨rfl,o⟩:=hcut;obtain⟨X,HWC⟩:∃wq:World,wq=wc:=⟨_,rfl⟩;subst HWC;have aa:=BG.next o;have zkk:=kk6 o l m f h i j;clear l m f h i j;obtain⟨l,m,f,h,i,j⟩:=zkk;replace fG4:=aa.frozen 4;have R:=HPO0.out.next o;have hG1:=HPG0.out.next o;have T1:=HTB.out.trans (o.mono (by omega:B<=n.heap.size));have hz1:=o.size;clear a BG
  by_cases hgo:tb=true/\p<0
  .obtain⟨rfl,hp⟩:=hgo
   obtain rfl:qb=true:=by rw[<-Q.out];simp[hp]
   have HM2:Hid (makM x s=some (x.1,x.2.1,x.2.2.1++ [s.2.2.1],x.2.2.2)):=HM.out.trans (by rw[zam ⟨rfl,hp⟩]);have hB1:B<=X.heap.size:=by omega
   have a:Below X.heap.size X X:=zac _ _;have HC1:Hid (∀c,Below X.heap.size X c->Calls Tryz.prog 79 #[.agg #[.int .i64 s.2.2.1.1,.slice AL nL cL,.slice AR nR cR,.slice AV nV cV]] c (CfE c s.2.2.1)):=fun c z=>HCF.out c (q9 o z rfl)
   go_upto_region 4 with fail
   go_region_law (first
    |(refine q8g w6 rfl (.tmp 32) (.tmp 36) 25 57 rfl (.agg #[.int .i64 0,.slice none 0 0,.slice none 0 0,.slice none 0 0]) 4 80 zbx q16 rfl (by decide) (by decide) B x.2.2.1.length c2 A2 dss.flatten (by rfl) hvs [.int .i64 s.2.2.1.1,.slice B1 s.2.2.1.2.1.1.length d1,.slice B2 s.2.2.1.2.1.2.length d2,.slice B3 s.2.2.1.2.2.length d3] rfl (by intro q hq;simp at hq;rcases hq with rfl|rfl|rfl|rfl<;>rfl) (by rfl) (by omega) (by omega) ?_;intro Z c8 w8 r hg8 hb8;have P:=O.grown hg8 (fun e=>q1s hvs O (by decide) e.symm);have cO8:=P.cell 3;have fO8:=P.frozen 3;simp at cO8)
    |(go_simp;go_at_call 79;(with_reducible refine(HC1.out _ ?_).mono ?_);(first|exact a|exact zai a);rintro e w6 hcf;obtain⟨B1,d1,B2,d2,B3,d3,bk,rfl,hO6,hiv6,d⟩:=qbk hcf HQK.out HBD.out.1 HBD.out.2.1 HBD.out.2.2;have V:=q9 (zai (zac X.heap.size X)) d rfl;have W:Iv X.heap.size w6.heap.size bk:=hiv6;obtain⟨hvs,HPU⟩:=hG1.push q4v rfl V hB1 hO6 W;have hsz6:=V.size;have O:=aa.next V;have cO6:=O.cell 3;have fO6:=O.frozen 3;have cO6a:=(O.alloc (.cells #[.int .i64 s.2.2.1.1,.slice B1 s.2.2.1.2.1.1.length d1,.slice B2 s.2.2.1.2.1.2.length d2,.slice B3 s.2.2.1.2.2.length d3] 57)).cell 3;simp at cO6 cO6a;have dY0:=qe V f;have dY1:=qe V h;have dY2:=qe V i;have dY3:=qe V j))
   all_goals
    have PN:=PGf.setB (k:=3) (HPU r hg8) P (by decide) (by decide) (.slice Z (x.2.2.1.length+1) c8);have T8:Below B w (w8.setCell ⟨g,3,none⟩ (.slice Z (x.2.2.1.length+1) c8)):=((T1.trans (V.mono hB1)).trans (hb8.mono (by omega))).setCell (p:=⟨g,3,none⟩) (by exact hg) _;have BG9:Blk (w8.setCell ⟨g,3,none⟩ (.slice Z (x.2.2.1.length+1) c8)) g 27 #[.bool x.1,.int .i64 x.2.1.1,.slice A1 x.2.1.2.length c1,.slice Z (x.2.2.1.length+1) c8,.int .i64 x.2.2.2]:=by simpa using P.set_ 3 (.slice Z (x.2.2.1.length+1) c8)
    have U:PO B w8 (.slice A1 x.2.1.2.length c1) x.2.1.2 css bls:=(R.next V).same hg8.size fun b N=>hg8.block b ((R.next V).2.2.2 b N).2 fun e=>HAP.out b N (zbb _ (q1e.2 e.symm))
    have hPO9:=PO.setB (k:=3) U P (by decide) (by decide) (.slice Z (x.2.2.1.length+1) c8);have APN:∀b∈obl (.slice A1 x.2.1.2.length c1)++bls.flatten,b∉obl (.slice Z (x.2.2.1.length+1) c8)++(cls++ [bk]).flatten:=fun b N Y=>by
     rcases zau.1 Y with Y|Y
     .exact q5x U r b N Y
     .rw[zbu,zau]at Y
      rcases Y with Y|Y
      .exact HAP.out b N (zaz _ Y)
      .have h1:=(W.2 b (by simpa using Y)).1
       have h2:=(R.2.2.2 b N).2;omega
    have HLD:Hid (LabD B (w8.setCell ⟨g,3,none⟩ (.slice Z (x.2.2.1.length+1) c8)) (x.1,x.2.1,x.2.2.1++ [s.2.2.1],x.2.2.2) (.slice A1 x.2.1.2.length c1) (.slice Z (x.2.2.1.length+1) c8)):=⟨css,bls,_,_,hPO9,PN,APN⟩;have HFIN:=zaa (zao T8 BG9);clear T8 BG9 PN hPO9 U APN r hb8 hvs HPU V cO6 cO6a fO6 dY0 dY1 dY2 dY3;go_wp2_with fail;go_ret;exact⟨HFIN.out.1,zew ⟨(x.1,x.2.1,x.2.2.1++ [s.2.2.1],x.2.2.2),_,_,HM2.out,rfl,HFIN.out.2,HLD.out.w,hin,hin2⟩⟩
  .obtain rfl:qb=false:=by
    rw[<-Q.out]
    rcases tb with _|_
    .rfl
    .by_cases hp:p<0
     .exact absurd ⟨rfl,hp⟩ hgo
     .simp[hp]
   have HM2:Hid (makM x s=some (x.1,x.2.1,x.2.2.1,x.2.2.2+1)):=HM.out.trans (by rw[zaj hgo]);have hw64:IntKind.i64.wrap (x.2.2.2+1)=x.2.2.2+1:=zck _ (by omega);have HBZ:Hid (Blk (X.setCell ⟨g,4,none⟩ (.int .i64 (x.2.2.2+1))) g 27 #[.bool x.1,.int .i64 x.2.1.1,.slice A1 x.2.1.2.length c1,.slice A2 x.2.2.1.length c2,.int .i64 (x.2.2.2+1)]):=by show Blk _ _ _ _;simpa using aa.set_ 4 (.int .i64 (x.2.2.2+1))
   have HLD:Hid (LabD B X (x.1,x.2.1,x.2.2.1,x.2.2.2+1) (.slice A1 x.2.1.2.length c1) (.slice A2 x.2.2.1.length c2)):=⟨css,bls,dss,cls,R,hG1,HAP.out⟩;have HBG1:=zaa aa;have HT1:=zaa (T1.setCell (p:=⟨g,4,none⟩) (by exact hg) (.int .i64 (x.2.2.2+1)));have HRR:Hid (InR (x.2.2.2+1)):=⟨by omega,by omega⟩;have HIN:=zaa hin;clear hgo R hG1 T1;go_wp2_with fail;go_ret;exact⟨HT1.out,zew ⟨(x.1,x.2.1,x.2.2.1,x.2.2.2+1),_,_,HM2.out,rfl,HBZ.out,(HLD.out.setB HBG1.out _).w,HIN.out,HRR.out⟩⟩
theorem qnr (A B:Option Addr) (n c d:Nat) (p q:List Int) (w:World) (O:RdL RI w A n p) (R:RdL RI w B n q) (P:ParP n p) (Q:ParP n q) (H:0<n) (N:n<=1000):
  Calls Tryz.prog 147 #[.slice A n c,.slice B n d] w (OwI w (q69 p q)):=by
 have h:Hid ((q69 p q).length=n):=(q81 P Q).1;have E:Hid (q69 p q=q3n p q n):=qcs Q
 go_enter Tryz.func147,Tryz.ntmps147
 go_wp2_with fail;refine(q4i A n c p _ O (by omega)).mono ?_;rintro e V ⟨T,m,rfl,f,D⟩;obtain⟨g,rfl,J,K⟩:=q2o f H;go_wp2_with fail
 go_loopw [12] (fun i wr=>∃k:Nat,k<=n/\i=.int .i64 k/\wr.ownsRow w.heap.size 3 1 (.slice (some ⟨g,0,none⟩) n m) n (ints (q3n p q k))/\Below w.heap.size w wr) (fun i _=>n - (intOf i).toNat)
 case atStart=>exact⟨0,zah _,rfl,f,D⟩
 case round=>
  clear f D;obtain⟨k,L,rfl,f,l⟩:=hrel;have S:=l.size
  by_cases hlt:k<n
  .have M:(0:Int)<=(k:Int):=by omega
   have s:(k:Int)<(n:Int):=by omega
   have a:=Q.at hlt;obtain⟨y,C⟩:∃y,Hid (nmAt q k=y):=⟨_,zaa rfl⟩;rw[C.out]at a;obtain⟨b,o,u,v,rfl,U,⟨rfl,-,-⟩,-,x⟩:=(R.next qd l).at hlt;obtain rfl:v=(y:Int):=by rw[a.1]at x;injection x with e;exact e.symm
   have z:y<n:=by omega
   have G:=zaa (q4f P Q k L);clear x a;go_wp2_with fail;refine(qfh g n m w.heap.size (q3n p q k) k y _ f G.out hlt z N).mono ?_;rintro e W ⟨rfl,t,I⟩;have r:=l.grown I S (fun j e=>by injection e with e;omega);have F:Hid (q3n p q (k+1)=uniL (q3n p q k) k y):=by show uniL _ k (nmAt q k)=_;rw[C.out]
   go_wp2_with fail
   go_roundw
   case rel=>exact⟨k+1,by omega,by go_num,by rw[F.out];exact t,r⟩
   case measure=>simp[intOf];try omega
  .obtain rfl:k=n:=by omega
   have s:¬(k:Int)<(k:Int):=by omega
   go_wp2_with fail;go_ret;exact⟨some ⟨g,0,none⟩,m,by rw[h.out];rfl,by rw[h.out,E.out];exact f,l⟩
theorem qjg (A B:Option Addr) (n c d:Nat) (p q:List Int) (w:World) (M:RdL RI w A n p) (N:RdL RI w B n q) (P:ParP n p) (Q:ParP n q) (U:0<n) (F:n<=1000):
  Calls Tryz.prog 114 #[.slice A n c,.slice B n d] w (OwI w (q69 p q)):=by
 have g:Hid ((q69 p q).length=n):=(q81 P Q).1;have H:Hid (q69 p q=q3n p q n):=qcs Q
 go_enter Tryz.func114,Tryz.ntmps114
 go_wp2_with fail;refine(q2s A n c p _ M (by omega)).mono ?_;rintro e W ⟨S,T,rfl,j,E⟩;go_wp2_with fail
 go_loopw [5,6] (fun s i wr=>∃(k:Nat) (f:Option Addr) (h:Nat),k<=n/\i=.int .i64 k/\s=.slice f n h/\wr.ownsRow w.heap.size 3 1 (.slice f n h) n (ints (q3n p q k))/\Below w.heap.size w wr) (fun _ i _=>n - (intOf i).toNat)
 case atStart=>exact⟨0,_,_,zah _,rfl,rfl,j,E⟩
 case round=>
  clear j E;obtain⟨k,f,h,K,rfl,rfl,j,l⟩:=hrel;have O:=l.size
  by_cases hlt:k<n
  .have L:(0:Int)<=(k:Int):=by omega
   have r:(k:Int)<(n:Int):=by omega
   have a:=Q.at hlt;obtain⟨y,D⟩:∃y,Hid (nmAt q k=y):=⟨_,zaa rfl⟩;rw[D.out]at a;obtain⟨b,o,u,v,rfl,V,⟨rfl,-,-⟩,-,x⟩:=(N.next qd l).at hlt;obtain rfl:v=(y:Int):=by rw[a.1]at x;injection x with e;exact e.symm
   have z:y<n:=by omega
   have C:=zaa (q4f P Q k K);have I:Hid (q3n p q (k+1)=uniL (q3n p q k) k y):=by show uniL _ k (nmAt q k)=_;rw[D.out]
   clear x a;go_wp2_with fail;refine(qai f n h (q3n p q k) k y _ (q12 (R:=RI) j (q1r (qpi C.out F))) C.out hlt z F).mono ?_;rintro e X ⟨G,J,rfl,t,m⟩;go_wp2_with fail
   go_roundw
   case rel=>exact⟨k+1,G,J,by omega,by go_num,rfl,by rw[I.out];exact ql t O,q9 l m rfl⟩
   case measure=>simp[intOf];try omega
  .obtain rfl:k=n:=by omega
   have r:¬(k:Int)<(k:Int):=by omega
   go_wp2_with fail;go_ret;exact⟨f,h,by rw[g.out];rfl,by rw[g.out,H.out];exact j,l⟩
theorem qo4 (A B:Option Addr) (n c d:Nat) (p q:List Int) (w:World) (hp:RdL RI w A n p) (hq:RdL RI w B n q) (P:ParP n p) (Q:ParP n q) (h0:0<n) (K:n<=1000):
  Calls Tryz.prog 148 #[.slice A n c,.slice B n d] w (OwI w (q4k p q)):=by
 have V:Hid (q4k p q=kerL (q5c n p q)):=qao P;have F:=zaa (qof P Q K)
 go_enter Tryz.func148,Tryz.ntmps148
 go_wp2_with (at_make;refine q3g w rfl _ _ rfl n rfl rfl (by omega) ?_;intro w1 b v)
 have u:=(zac w.heap.size w).grown v (zad _) (by simp);rw[q6r]at b;clear v
 go_loopw [12] (fun i wr=>∃(k:Nat) (L:List Int),k<=n/\i=.int .i64 k/\wr.ownsRow w.heap.size 3 1 (.slice (some ⟨w.heap.size,0,none⟩) n n) n (ints L)/\Hid (L.length=n)/\Hid (∀x,x<k->L[x]?=(q5c n p q)[x]?)/\Below w.heap.size w wr) (fun i _=>n - (intOf i).toNat)
 case atStart=>exact⟨0,_,zah _,rfl,b,zez ..,(fun x hx=>absurd hx (by omega)),u⟩
 case round=>
  clear b u;obtain⟨k,L,hk,rfl,a,g,s,f⟩:=hrel
  by_cases hlt:k<n
  .have ac:(0:Int)<=(k:Int):=by omega
   have I:(k:Int)<(n:Int):=by omega
   have j:=P.at hlt;have h:=Q.at hlt;have D:Hid ((q5c n p q)[k]?=some ((nmAt p k*n+nmAt q k:Nat):Int)):=q6i hlt;obtain⟨x,W⟩:∃x,Hid (nmAt p k=x):=⟨_,zaa rfl⟩;obtain⟨y,X⟩:∃y,Hid (nmAt q k=y):=⟨_,zaa rfl⟩;rw[W.out]at j D;rw[X.out]at h D;obtain⟨b1,o1,u1,v1,rfl,Z,⟨rfl,-,-⟩,-,o⟩:=(hp.next qd f).at hlt;obtain⟨b2,o2,u2,v2,rfl,aa,⟨rfl,-,-⟩,-,r⟩:=(hq.next qd f).at hlt;obtain rfl:v1=(x:Int):=by rw[j.1]at o;injection o with e;exact e.symm
   obtain rfl:v2=(y:Int):=by rw[h.1]at r;injection r with e;exact e.symm
   have hm:x*n<=1000*1000:=zci (by omega) K;have hyk:=h.2.1;obtain⟨m,M⟩:∃m,Hid (x*n=m):=⟨_,zaa rfl⟩;have J:(x:Int)*(n:Int)=(m:Int):=by rw[<-M.out];push_cast;rfl
   rw[M.out]at hm D;have hw1:IntKind.i64.wrap ((x:Int)*(n:Int))=(m:Int):=by rw[J];exact zck _ (by omega)
   have hw2:IntKind.i64.wrap ((m:Int)+(y:Int))=((m+y:Nat):Int):=by push_cast;exact zck _ (by omega)
   have ab:=a.frozenAt k;obtain⟨z0,O⟩:=q6h a g.out hlt;have l:=zaa (a.stored k (.int .i64 ((m+y:Nat):Int))).1;rw[q2n]at l;have G:Hid (∀z,z<k+1->(L.set k ((m+y:Nat):Int))[z]?=(q5c n p q)[z]?):=fun z S=>by
    by_cases e:z=k
    .subst e
     rw[zcd,zam rfl,zam (by rw[g.out];exact hlt),D.out]
    .rw[zcd,zaj (by omega)]
     exact s.out z (by omega)
   have E:Hid ((L.set k ((m+y:Nat):Int)).length=n):=by show _=_;rw[zcg];exact g.out
   have N:Below w.heap.size w (wr.setCell ⟨w.heap.size,k,none⟩ (.int .i64 ((m+y:Nat):Int))):=f.setCell (zad _) _;have t:=zaa N;clear o r j h a N;go_upto_region 5 with fail
   go_region
   all_goals
    go_wp2_with fail
    go_roundw
    case rel=>exact⟨k+1,_,by omega,by go_num,by first|exact l.out|exact qp l.out (zai (zac _ _)),E,G,by first|exact t.out|exact zai t.out⟩
    case measure=>simp[intOf];try omega
  .obtain rfl:k=n:=by omega
   have I:¬(k:Int)<(k:Int):=by omega
   have U:Hid (L=q5c k p q):=zcl fun i=>by
    by_cases hi:i<k
    .exact s.out i hi
    .rw[zbl (by rw[g.out];omega),zbl (by rw[q8a];omega)]
   rw[U.out]at a;have S:=f.size;go_wp2_with fail;refine(q95 _ k k (q5c k p q) _ (q12 (R:=RI) a (q1r F.out)) K).mono ?_;rintro e w2 ⟨T,Y,rfl,C,H⟩;rw[<-V.out]at C⊢;go_wp2_with fail;go_ret;exact⟨T,Y,rfl,ql C S,q9 f H rfl⟩
theorem qjh (A B:Option Addr) (n c d:Nat) (p q:List Int) (w:World) (hp:RdL RI w A n p) (hq:RdL RI w B n q) (P:ParP n p) (Q:ParP n q) (h0:0<n) (hn:n<=1000):
  Calls Tryz.prog 113 #[.slice A n c,.slice B n d] w (OwI w (q4k p q)):=by
 have o:Hid ((q4k p q).length=n):=qlk P;have Y:Hid (q4k p q=kerL (q5c n p q)):=qao P;have hT:=qm w (.cells #[] 3);have hO:=zb7 (base:=w.heap.size) (e:=3) (size:=1) w #[] 0 (zad _) (zah _) rfl;have N:=zaa P;have S:=zaa Q;clear P Q
 go_enter Tryz.func113,Tryz.ntmps113
 go_wp2_with fail
 go_loopw [5,6] (fun s i wr=>∃(k:Nat) (I:Option Addr) (J:Nat),k<=n/\i=.int .i64 k/\s=.slice I k J/\wr.ownsRow w.heap.size 3 1 (.slice I k J) k (ints ((q4k p q).take k))/\Below w.heap.size w wr) (fun _ i _=>n - (intOf i).toNat)
 case atStart=>exact⟨0,_,_,zah _,rfl,rfl,hO,hT⟩
 case round=>
  clear hO hT;obtain⟨k,I,J,hk,rfl,rfl,f,r⟩:=hrel
  by_cases hlt:k<n
  .have hk0:(0:Int)<=(k:Int):=by omega
   have ab:(k:Int)<(n:Int):=by omega
   have v:=N.out.at hlt;have D:=S.out.at hlt;obtain⟨x,HX⟩:∃x,Hid (nmAt p k=x):=⟨_,zaa rfl⟩;obtain⟨y,HY⟩:∃y,Hid (nmAt q k=y):=⟨_,zaa rfl⟩;have HG:Hid ((q5c n p q)[k]?=some ((x*n+y:Nat):Int)):=by show _=_;rw[<-HX.out,<-HY.out];exact q6i hlt
   rw[HX.out]at v;rw[HY.out]at D;have Z:=zaa v;have R:=zaa D;clear v D;go_wp2_with fail
   go_loopw [7] (fun j wi=>∃z:Nat,z<=k/\j=.int .i64 (z:Int)/\Hid (∀i,i<z->(q5c n p q)[i]?≠some ((x*n+y:Nat):Int))/\wi.ownsRow w.heap.size 3 1 (.slice I k J) k (ints ((q4k p q).take k))/\Below w.heap.size w wi) (fun j _=>n - (intOf j).toNat)
   case atStart=>exact⟨0,zah _,rfl,(fun z hz=>absurd hz (by omega)),f,r⟩
   case round=>
    clear f r;obtain⟨z,hz,rfl,HB,f,g⟩:=hrel;have h:z<n:=by omega
    have C:=N.out.at h;have l:=S.out.at h;obtain⟨s,HS⟩:∃x,Hid (nmAt p z=x):=⟨_,zaa rfl⟩;obtain⟨t,HT⟩:∃x,Hid (nmAt q z=x):=⟨_,zaa rfl⟩;have m:Hid ((q5c n p q)[z]?=some ((s*n+t:Nat):Int)):=by show _=_;rw[<-HS.out,<-HT.out];exact q6i h
    rw[HS.out]at C;rw[HT.out]at l;obtain⟨b1,o1,u1,v1,rfl,hc1,⟨rfl,-,-⟩,-,E⟩:=(hp.next qd g).at hlt;obtain⟨b2,o2,u2,v2,rfl,hc2,⟨rfl,-,-⟩,-,F⟩:=(hq.next qd g).at hlt;obtain⟨u3,v3,hc3,⟨rfl,-,-⟩,-,G⟩:=(hp.next qd g).at' h;obtain⟨u4,v4,hc4,⟨rfl,-,-⟩,-,H⟩:=(hq.next qd g).at' h;obtain rfl:v1=(x:Int):=by rw[Z.out.1]at E;injection E with e;exact e.symm
    obtain rfl:v2=(y:Int):=by rw[R.out.1]at F;injection F with e;exact e.symm
    obtain rfl:v3=(s:Int):=by rw[C.1]at G;injection G with e;exact e.symm
    obtain rfl:v4=(t:Int):=by rw[l.1]at H;injection H with e;exact e.symm
    have hz0:(0:Int)<=(z:Int):=by omega
    have hz1:(z:Int)<(n:Int):=by omega
    have ag:t<n:=by have:=l.2.1;omega
    have ah:y<n:=by have:=R.out.2.1;omega
    obtain⟨V,ac⟩:∃b,((s:Int) !=(x:Int))=b:=⟨_,rfl⟩;obtain⟨n2,ad⟩:∃b,((t:Int) !=(y:Int))=b:=⟨_,rfl⟩;have K:=zaa ac;have L:=zaa ad;have O:=zaa (qm2 (a:=s) (c:=x) ag ah);have af:=g.size;clear E F G H C l
    by_cases hsame:V=false/\n2=false
    .obtain⟨rfl,rfl⟩:=hsame
     have X:Hid (s*n+t=x*n+y):=O.out.2 ⟨by have:=K.out;simp at this;omega,by have:=L.out;simp at this;omega⟩;have aa:Hid ((q4k p q).take (k+1)=(q4k p q).take k++ [(z:Int)]):=by
      show _=_
      have:(q4k p q)[k]?=some (z:Int):=by
       rw[Y.out];unfold kerL;rw[za2,HG.out];show some ((posN _ _:Nat):Int)=_
       rw[q8s (y:=z) (by rw[m.out,X.out]) HB.out]
      rw[zbp,this];rfl
     go_wp2_with fail
     go_quiet (fail)
     go_wp2_with (at_builtin;refine app1 _ rfl _ _ 43 3 rfl (.int .i64 0) 8 za1 q14 rfl (by decide) w.heap.size k J I (ints ((q4k p q).take k)) rfl (by first|exact f|exact qp f (qc (zac _ _) _)) (.int .i64 (z:Int)) rfl rfl (by omega) (by first|exact af|(simp;omega)) ?_;intro A2 c2 w2 u hg2 T)
     go_roundw
     case rel=>exact⟨k+1,A2,c2,by omega,by go_num,rfl,by rw[aa.out,q3c];exact u,by first|exact g.trans T|exact(qc g _).trans T⟩
     case measure=>simp[intOf];try omega
    .have M:Hid (¬s*n+t=x*n+y):=fun e=>by
      obtain⟨e1,U⟩:=O.out.1 e;exact hsame ⟨by rw[<-K.out,e1];simp,by rw[<-L.out,U];simp⟩
     have hzk:z≠k:=fun e=>by
      subst e;have:=m.out;rw[HG.out]at this;injection this with this
      exact M.out (by omega)
     have W:Hid (∀i,i<z+1->(q5c n p q)[i]?≠some ((x*n+y:Nat):Int)):=fun i hi=>by
      by_cases e:i=z
      .subst e
       rw[m.out];intro U;injection U with U
       exact M.out (by omega)
      .exact HB.out i (by omega)
     have ae:V=true\/(V=false/\n2=true):=by
      rcases V with _|_
      .rcases n2 with _|_
       .exact absurd ⟨rfl,rfl⟩ hsame
       .exact zew ⟨rfl,rfl⟩
      .exact Or.inl rfl
     clear hsame
     rcases ae with rfl|⟨rfl,rfl⟩
     all_goals
      go_wp2_with fail
      go_quiet (fail)
      go_wp2_with fail
      go_roundw
      case rel=>exact⟨z+1,by omega,by go_num,W,by first|exact f|exact qp f (qc (zac _ _) _),by first|exact g|exact qc g _⟩
      case measure=>simp[intOf];try omega
  .obtain rfl:k=n:=by omega
   have ab:¬(k:Int)<(k:Int):=by omega
   rw[zar (by rw[o.out];exact zad _)]at f;go_wp2_with fail;go_ret;exact⟨I,J,by rw[o.out];rfl,by rw[o.out];exact f,r⟩
end Go.Proofs.YtfnmkbpogbekpaaGreatDoor
