import Derived.Test.YtfnmkbpogbekpaaGreatDoorQ10
set_option linter.unusedVariables false
set_option linter.unusedSimpArgs false
set_option maxRecDepth 100000
set_option maxHeartbeats 32000000
namespace Go.Proofs.YtfnmkbpogbekpaaGreatDoor
open Go.RowKit
theorem qar (v:Value) (xs:List q12) (bl:List Nat) (k0:Int) (w:World) (h:(Sh.rowsW qj 57).own w [v] xs bl) (hnd:bl.Nodup) (h0:0<=k0) (h1:k0+cntS q1d xs<=4611686018427387904):
  Calls Tryz.prog 51 #[v,.int .i64 k0] w (MkE (Sh.rowsW qj 57) w [v] (mkL q75 q1d k0 xs) bl (k0+cntS q1d xs)):=by
 obtain⟨A,n',c,dd,css0,bls,e,hdd,R,rfl⟩:=h;injection e with e _
 subst e;obtain⟨A',c',e'⟩:=qq R.row;injection e' with e1 e2 e3
 subst e1;subst e2;have HDD:=zaa hdd;clear e3 hdd;have hnl:=q6v R.row;unfold maxLen at hnl;have aa:=zaa hnd;clear hnd
 go_enter Tryz.func51,Tryz.ntmps51
 go_wp2
 go_loopw [1,5] (fun q i wr=>∃(j:Nat) (k:Int) (ys:List q12) (d:List (List Value)),j<=xs.length/\i=.int .i64 j/\q=.int .i64 k/\MkAt q75 q1d k0 xs ys j k/\Parts qj 57 wr (.slice A xs.length c) ys d bls/\ChgB (obl (.slice A xs.length c)++bls.flatten) w wr) (fun _ i _=>xs.length - (intOf i).toNat)
 case atStart=>exact⟨0,k0,xs,css0,zah _,rfl,rfl,MkAt.start _ _,R,ChgB.refl _ _⟩
 case round=>
  clear R;obtain⟨j,k,ys,d,hj,rfl,rfl,HM,N,CH⟩:=hrel;have U:ys.length=xs.length:=HM.2.2.1
  by_cases hlt:j<xs.length
  .have hd:xs.drop j=xs[j]::xs.drop (j+1):=zbd hlt
   generalize xs[j]=x at hd
   obtain⟨hyj,hk0,hk1⟩:=HM.left hd;have HS:=zaa (HM.step hd);obtain⟨g,cap,hv⟩:=N.slice (by omega:j<ys.length);injection hv with hA hn2 l
   subst hA;clear hn2 l;have hl1:=N.l1;have hl2:=N.l2;have n:d[j]?=some (d[j]'(by omega)):=zae (by omega);have t:bls[j]?=some (bls[j]'(by omega)):=zae (by omega)
   generalize d[j]'(by omega)=cj at n
   generalize bls[j]'(by omega)=bk at t
   have ho:=N.el j cj x bk n hyj t;obtain⟨c0,c1,b0,b1,rfl,rfl,O0,⟨cE,cS,bE,y,rfl,rfl,⟨cL,cR,D,E,rfl,rfl,OL,OR⟩,W⟩⟩:=ho;obtain⟨_,rfl,⟨rfl,lo0,hi0⟩,rfl⟩:=O0;obtain⟨_,rfl,B,J,F,rfl,-⟩:=(Sh.il 3).ord OL;obtain⟨_,rfl,C,K,G,rfl,-⟩:=(Sh.il 3).ord OR;obtain⟨_,rfl,L,O,M,rfl,-⟩:=(Sh.il 3).ord W;have T:=qch aa.out (g:=g) rfl;have S:∀b∈(D++E)++y,b∈bls.flatten:=fun b f=>zbp.2 ⟨_,zaf t,by simpa using f⟩
   have Y:=qp5 aa.out t;have V:((D++E)++y).Nodup:=by simpa using Y
   have gL:g∉D:=fun u=>T (S g (by simp[u]))
   have gR:g∉E:=fun u=>T (S g (by simp[u]))
   have gS:g∉y:=fun u=>T (S g (by simp[u]))
   have dLR:=nd_x (nd_l V);have dRL:=nd_y (nd_l V);have dLS:∀z∈D,z∉y:=fun z hz=>nd_x V z (zba _ hz)
   have dRS:∀z∈E,z∉y:=fun z hz=>nd_x V z (zay _ hz)
   have dSL:∀z∈y,z∉D:=fun z hz u=>dLS z u hz
   have dSR:∀z∈y,z∉E:=fun z hz u=>dRS z u hz
   have hmb:j*4+4<=xs.length*4:=by omega
   have s:=N.row;rw[U]at s;have r:=N.all;have q0:j*4<xs.length*qj.m:=by show _<_*4;omega
   have q1:j*4+1<xs.length*qj.m:=by show _<_*4;omega
   have q2:j*4+2<xs.length*qj.m:=by show _<_*4;omega
   have q3:j*4+3<xs.length*qj.m:=by show _<_*4;omega
   have F0:d.flatten[j*4]?=some (.int .i64 x.1):=by have:=q26 r j 0 (by decide);rw[n]at this;exact this
   have F1:d.flatten[j*4+1]?=some (.slice B J F):=by have:=q26 r j 1 (by decide);rw[n]at this;exact this
   have F2:d.flatten[j*4+2]?=some (.slice C K G):=by have:=q26 r j 2 (by decide);rw[n]at this;exact this
   have F3:d.flatten[j*4+3]?=some (.slice L O M):=by have:=q26 r j 3 (by decide);rw[n]at this;exact this
   have cc0:wr.cell? ⟨g,j*4,none⟩=some (.int .i64 x.1):=(s.cellAt _ q0).trans F0;have cc1:wr.cell? ⟨g,j*4+1,none⟩=some (.slice B J F):=(s.cellAt _ q1).trans F1;have ff0:wr.frozen? ⟨g,j*4,none⟩=false:=s.frozenAt _;obtain⟨w1,o⟩:∃wb,wb=wr.setCell ⟨g,j*4,none⟩ (.int .i64 k):=⟨_,rfl⟩;have a:w1.ownsRow 0 57 qj.m (.slice (some ⟨g,0,none⟩) xs.length c) xs.length (d.flatten.set (j*4) (.int .i64 k)):=by rw[o];exact(s.stored (j*4) (.int .i64 k)).1
   replace OL:(Sh.il 3).own w1 [.slice B J F] x.2.1.1 D:=by rw[o];exact Sh.oset' (p:=⟨g,j*4,none⟩) OL gL _
   replace OR:(Sh.il 3).own w1 [.slice C K G] x.2.1.2 E:=by rw[o];exact Sh.oset' (p:=⟨g,j*4,none⟩) OR gR _
   replace W:(Sh.il 3).own w1 [.slice L O M] x.2.2 y:=by rw[o];exact Sh.oset' (p:=⟨g,j*4,none⟩) W gS _
   have P:ChgB (g::((D++E)++y)) wr w1:=by rw[o];exact ChgB.set (p:=⟨g,j*4,none⟩) (za2 ..) _
   have E1:(d.flatten.set (j*4) (.int .i64 k))[j*4+1]?=some (.slice B J F):=q3b F1 (by omega);have E2:(d.flatten.set (j*4) (.int .i64 k))[j*4+2]?=some (.slice C K G):=q3b F2 (by omega);have E3:(d.flatten.set (j*4) (.int .i64 k))[j*4+3]?=some (.slice L O M):=q3b F3 (by omega);obtain⟨fl,HFL⟩:∃fl,Hid (d.flatten.set (j*4) (.int .i64 k)=fl):=⟨_,rfl⟩;rw[HFL.out]at a E1 E2 E3;have HE1:=zaa E1;have HE2:=zaa E2;have HE3:=zaa E3;have HBJ:=zaa t;have HP:=zaa N;have HYL:=zaa U;have hj0:(0:Int)<=(j:Int):=by omega
   have hj1:(j:Int)<(xs.length:Int):=by omega
   have hmc:q1d x=1+x.2.1.1.length+x.2.1.2.length+x.2.2.length:=rfl;clear hd HM N U n t hyj s F0 F1 F2 F3 E1 E2 E3 Y;go_wp2_with fail;rw[<-o];clear o cc0 cc1 ff0;refine(q2c _ x.2.1.1 D (k+1) w1 OL (by omega) (by omega)).mono ?_;rintro e w2 ⟨rfl,PL,l⟩;replace a:=q7h a l (fun b f=>by injection f with f;subst f;exact gL);replace P:=P.trans (l.mono fun b f=>zaw _ (by simp[f]));replace OR:=Sh.ochg OR l dRL;replace W:=Sh.ochg W l dSL;have cc2:w2.cell? ⟨g,j*4+2,none⟩=some (.slice C K G):=(a.cellAt _ q2).trans HE2.out;clear l;go_wp2_with fail;clear cc2;refine(q2c _ x.2.1.2 E (k+1+x.2.1.1.length) w2 OR (by omega) (by omega)).mono ?_;rintro e w3 ⟨rfl,PR,H⟩;replace a:=q7h a H (fun b f=>by injection f with f;subst f;exact gR);replace P:=P.trans (H.mono fun b f=>zaw _ (by simp[f]));replace PL:=Sh.ochg PL H dLR;replace W:=Sh.ochg W H dSR;have cc3:w3.cell? ⟨g,j*4+3,none⟩=some (.slice L O M):=(a.cellAt _ q3).trans HE3.out;clear H;go_wp2_with fail;clear cc3;refine(q2c _ x.2.2 y (k+1+x.2.1.1.length+x.2.1.2.length) w3 W (by omega) (by omega)).mono ?_;rintro e w4 ⟨rfl,PS,I⟩;replace a:=q7h a I (fun b f=>by injection f with f;subst f;exact gS);replace P:=P.trans (I.mono fun b f=>zaw _ (by simp[f]));replace PL:=Sh.ochg PL I dLS;replace PR:=Sh.ochg PR I dRS;clear I;have Z:fl=q3o d.flatten (j*qj.m) [.int .i64 k,.slice B J F,.slice C K G,.slice L O M]:=by
    show _=(((d.flatten.set (j*4) (.int .i64 k)).set (j*4+1) (.slice B J F)).set (j*4+1+1) (.slice C K G)).set (j*4+1+1+1) (.slice L O M)
    rw[HFL.out,q3v HE1.out,q3v HE2.out,q3v HE3.out]
   rw[Z]at a;have X:w4.ownsRow 0 57 qj.m (.slice (some ⟨g,0,none⟩) xs.length c) ys.length (q3o d.flatten (j*qj.m) [.int .i64 k,.slice B J F,.slice C K G,.slice L O M]):=by rw[HYL.out];exact a
   have hkr:InR k:=⟨by omega,by omega⟩;have Q:=HP.out.put aa.out HBJ.out (c':= [.int .i64 k,.slice B J F,.slice C K G,.slice L O M]) (x':=q75 k x) X ⟨[.int .i64 k], [.slice B J F,.slice C K G,.slice L O M], [],(D++E)++y,rfl,rfl,⟨_,rfl,⟨rfl,hkr.1,hkr.2⟩,rfl⟩,⟨[.slice B J F,.slice C K G], [.slice L O M],D++E,y,rfl,rfl,⟨[.slice B J F], [.slice C K G],D,E,rfl,rfl,PL,PR⟩,PS⟩⟩
    (fun b f hn=>P.block b (HP.out.lt b (zay _ f)) (fun u=>by
     rcases zbq.1 u with rfl|u
     .exact T f
     .exact hn (by simpa using u)))
   have CH2:=CH.trans (P.mono fun b f=>by
    rcases zbq.1 f with rfl|f
    .exact zba _ (q1h.2 rfl)
    .exact zay _ (S b f))
   clear Z a X P PL PR PS;have HPP':=zaa Q;clear Q;go_wp2_with fail
   go_roundw
   case rel=>exact⟨j+1,_,_,_,by omega,by go_num,rfl,by rw[show k+1+((x.2.1.1.length:Nat):Int)+((x.2.1.2.length:Nat):Int)+((x.2.2.length:Nat):Int)=k+q1d x from by rw[hmc];omega];exact HS.out,HPP'.out,CH2⟩
   case measure=>simp[intOf];omega
  .have hj':j=xs.length:=by omega
   obtain⟨rfl,hk⟩:=HM.done (zbe (by omega));have HK:=zaa hk;have Q:=zaa N;clear N hk U;have hlt':¬(j:Int)<(xs.length:Int):=by omega
   clear hj';go_wp2_with fail;go_ret;exact⟨q11 HK.out,⟨A,_,c,dd,d,bls,rfl,HDD.out,Q.out,rfl⟩,CH⟩
theorem qdz (cs:List Value) (x:LabM) (r:List Nat) (c:Int) (w:World) (h:q2i.own w cs x r) (z:r.Nodup) (J:0<=c) (X:c+q4z x<=4611686018427387904):
  Calls Tryz.prog 19 #[.agg cs.toArray,.int .i64 c] w (MkE q2i w cs (qid c x) r (c+q4z x)):=by
 obtain⟨R,S,N,O,rfl,rfl,F,⟨U,T,i,P,rfl,rfl,g,⟨V,W,j,Q,rfl,rfl,d,G⟩⟩⟩:=h;obtain⟨_,rfl,rfl,rfl⟩:=F;obtain⟨_,rfl,⟨rfl,A,y⟩,rfl⟩:=G;obtain⟨f,n,k,rfl,-⟩:=(Sh.rowsW qj 57).ord d;obtain⟨o,B,s,rfl,-⟩:=qv (qf.ord g);have L:q4z x=q1g x.2.1+cntS q1d x.2.2.1:=rfl;have a:(i++j).Nodup:=by simpa using z
 obtain⟨M,m,q,C,E⟩:=q16 w #[.bool x.1,.int .i64 x.2.1.1,.slice o B s,.slice f n k,.int .i64 x.2.2.2] 27;have t:∀b∈i,b<w.heap.size:=qf.olt g;replace g:=Sh.onext g q;replace d:=Sh.onext d q
 go_enter Tryz.func19,Tryz.ntmps19
 go_wp2_with fail;rw[<-m];clear m;refine(q6a _ x.2.1 i c M g (nd_l a) J (by omega)).mono ?_;rintro e D ⟨rfl,p,v⟩;replace d:=Sh.ochg d v (nd_y a);have I:D.cell? ⟨w.heap.size,3,none⟩=some (.slice f n k):=by
  rw[zb9 (v.block w.heap.size (by omega) (fun K=>by have:=t _ K;omega))];exact E.cell 3
 go_wp2_with fail;clear I;refine(qar _ x.2.2.1 j (c+q1g x.2.1) D d (nd_r a) (by omega) (by omega)).mono ?_;rintro e Y ⟨rfl,H,l⟩;replace p:=Sh.ochg p l (nd_x a);go_wp2_with fail;go_ret;refine⟨q11 (by omega),⟨[.bool x.1], [.int .i64 x.2.1.1,.slice o B s,.slice f n k,.int .i64 x.2.2.2], [],i++(j++ []),rfl,rfl,⟨_,rfl,rfl,rfl⟩,⟨[.int .i64 x.2.1.1,.slice o B s], [.slice f n k,.int .i64 x.2.2.2],i,j++ [],rfl,rfl,p,⟨[.slice f n k], [.int .i64 x.2.2.2],j, [],rfl,rfl,H,⟨_,rfl,⟨rfl,A,y⟩,rfl⟩⟩⟩⟩,((ChgB.ofBelow q).trans (v.mono fun b u=>by simp[u])).trans (l.mono fun b u=>by simp[u])⟩
noncomputable def ldO (x:LabM) (s:qw):Option LabM:=if x.1=true then none else(parA s.2.1).map fun a=>(true,a,x.2.2.1,x.2.2.2)
noncomputable def ldR (x:LabM) (s:qw):LabM:=(ldO x s).getD zLab
noncomputable def ldB (x:LabM) (s:qw):Bool:=(ldO x s).isSome
theorem qo4 {x:LabM} {s:qw} (h:ldO x s=none):ldR x s=zLab/\ldB x s=false:=by unfold ldR ldB;rw[h];exact⟨rfl,rfl⟩
theorem qjs {x:LabM} {s:qw} {y:LabM} (h:ldO x s=some y):ldR x s=y/\ldB x s=true:=by unfold ldR ldB;rw[h];exact⟨rfl,rfl⟩
theorem qcl (w:World):q19.rd w [.bool false,.int .i64 0,.slice none 0 0,.slice none 0 0,.int .i64 0] zLab:=
 qp3 (x:=zLab) ⟨by decide,by decide⟩ (RdN.nil _ _ _ _) (RdN.nil _ _ _ _) ⟨by decide,by decide⟩
def RdK {α:Type} (S:Sh α) (P:World->Prop) (w:World) (x:α) (ok:Bool) (e:Ending) (w2:World):Prop:=
 ∃cs,e=.returned (.tuple #[.agg cs.toArray,.bool ok])/\(∀w3,P w3->(∀b,w.heap.size<=b->b<w2.heap.size->w3.heap[b]?=w2.heap[b]?)->S.rd w3 cs x)/\Below w.heap.size w w2
theorem qgg {w w':World} {P:World->Prop} {r:LabM} {a:Bool} (b:Below w.heap.size w w') (e:r=zLab/\a=false):
  RdK q19 P w r a (.returned (.tuple #[.agg #[.bool false,.int .i64 0,.slice none 0 0,.slice none 0 0,.int .i64 0],.bool false])) w':=by
 obtain⟨rfl,rfl⟩:=e;exact⟨_,rfl,fun c _ _=>qcl c,b⟩
theorem qeo (cs ds:List Value) (x:LabM) (s:qw) (w:World) (h:q19.rd w cs x) (h':qn.rd w ds s) (hk:s.1=1) (hn':s.2.1.size<=1048576):
  Calls Tryz.prog 28 #[.agg cs.toArray,.agg ds.toArray] w (RdK q19 (fun w3=>q19.rd w3 cs x) w (ldR x s) (ldB x s)):=by
 obtain⟨Bo,k,d,F,n,c,rfl,qZ,qO,qF,qR⟩:=q3j h;obtain⟨AL,nL,cL,AR,nR,cR,AV,nV,cV,AS,nS,cS,rfl,pK,pT,pF,pL,pR,pV,pS,pA,pB⟩:=q1f h';obtain⟨w0,aa,T0,C,BP,BQ,BZ⟩:=q41 w #[.bool x.1,.int .i64 x.2.1.1,.slice Bo k d,.slice F n c,.int .i64 x.2.2.2] #[.int .i64 s.1,.string s.2.1,.int .i64 s.2.2.1.1,.slice AL nL cL,.slice AR nR cR,.slice AV nV cV,.slice AS nS cS,.int .i64 s.2.2.2.2.1,.int .i64 s.2.2.2.2.2] #[.bool false,.int .i64 0,.slice none 0 0,.slice none 0 0,.int .i64 0] 27 59 27;have HW0:=zaa aa;have HPA:=zaa (qcq s.2.1 w0 hn');have HT0:=zaa T0;have HQR:=zaa qR;have t:=BP.cell 0;have U:=BQ.cell 0;have V:=BQ.cell 1;simp at t U V;have hs0:w0.heap.size=w.heap.size+3:=C;have hkt:(s.1==1)=true:=by rw[hk];rfl
 obtain⟨xo,K⟩:∃b,Hid (x.1=b):=⟨_,zaa rfl⟩;rw[K.out]at t;have HBP:=zaa BP;clear aa C h h' qO qF qZ qR pK pT pF pL pR pV pS pA pB T0 hk BP
 go_enter Tryz.func28,zf8
 go_upto_region 1 with fail;rw[<-HW0.out];go_wp2_with fail;refine HPA.out.mono ?_;rintro e w5 ⟨csA,blA,rfl,X,hIA,Y⟩;obtain⟨f,j,W,Q,rfl,B,hblA,y⟩:=PO.of_own X hIA (zad _);obtain⟨w6,J⟩:∃wb,Hid (wb=w5.alloc (.cells #[.int .i64 (paA s.2.1).1,.slice f (paA s.2.1).2.length j] 24)):=⟨_,zaa rfl⟩;have Z:Below w5.heap.size w5 w6:=by rw[J.out];exact qm _ _
 have P:Blk w6 w5.heap.size 24 #[.int .i64 (paA s.2.1).1,.slice f (paA s.2.1).2.length j]:=by rw[J.out];exact Blk.new _ _ _
 have u:=q9 Y Z rfl;have T6:=q9 HT0.out u rfl;have o:=BZ.next u;have cP6:=qe u t;have z:=B.next Z;have G:=zaa y;have hz56:=Y.size;obtain⟨pb,H⟩:∃b,Hid (paB s.2.1=b):=⟨_,zaa rfl⟩;rw[H.out];have D:=HBP.out.next u;clear X B y t U V hkt;go_upto_region 3 with fail;rw[<-J.out]
 by_cases hgo:xo=false/\pb=true
 rotate_left
 .have M:Hid (ldR x s=zLab/\ldB x s=false):=qo4 (by
   unfold ldO;rw[K.out]
   rcases xo with _|_
   .rw[zaj (by decide)]
    rcases qkf s.2.1 with⟨q1,-⟩|⟨a,q1,q2,N⟩
    .rw[q1];rfl
    .rw[H.out]at N
     exact absurd ⟨rfl,N⟩ hgo
   .rfl)
  obtain⟨cZ0,cZ1,cZ2,cZ3,cZ4,fZ0,fZ1,fZ2,fZ3,fZ4⟩:=cf5 o;have q:=zaa (q18 o (.bool false) (.int .i64 0) (.slice none 0 0) (.slice none 0 0) (.int .i64 0));have r:=zaa (q10 T6 (g:=w.heap.size+1+1) (by omega) (.bool false) (.int .i64 0) (.slice none 0 0) (.slice none 0 0) (.int .i64 0))
  rcases xo with _|_
  .obtain rfl:pb=false:=by
    rcases pb with _|_
    .rfl
    .exact absurd ⟨rfl,rfl⟩ hgo
   clear hgo;go_wp2_with fail
   (try simp only[Exit.inBlock,Exit.then])
   refine zas (v:=.tuple #[.agg #[.bool false,.int .i64 0,.slice none 0 0,.slice none 0 0,.int .i64 0],.bool false]) ?hr rfl ?_
   case hr=>exact qp rfl _ _ (w.heap.size+1+1) 27 #[.bool false,.int .i64 0,.slice none 0 0,.slice none 0 0,.int .i64 0] (0,0) _ _ rfl q.out zbk rfl (by kernel_rfl) rfl
   exact qgg r.out M.out
  .clear hgo
   go_wp2_with fail
   (try simp only[Exit.inBlock,Exit.then])
   refine zas (v:=.tuple #[.agg #[.bool false,.int .i64 0,.slice none 0 0,.slice none 0 0,.int .i64 0],.bool false]) ?hr rfl ?_
   case hr=>exact qp rfl _ _ (w.heap.size+1+1) 27 #[.bool false,.int .i64 0,.slice none 0 0,.slice none 0 0,.int .i64 0] (0,0) _ _ rfl q.out zbk rfl (by kernel_rfl) rfl
   exact qgg r.out M.out
 .obtain⟨rfl,rfl⟩:=hgo
  have M:Hid (ldR x s=(true,paA s.2.1,x.2.2.1,x.2.2.2)/\ldB x s=true):=qjs (by
   unfold ldO;rw[K.out,zaj (by decide)]
   rcases qkf s.2.1 with⟨q1,q2,N⟩|⟨a,q1,q2,N⟩
   .rw[H.out]at N;cases N
   .rw[q1,q2];rfl)
  obtain⟨a,HA⟩:∃a,Hid (paA s.2.1=a):=⟨_,zaa rfl⟩;rw[HA.out]at P z M G;obtain⟨cA0,cA1⟩:=cl2 P;have R:=D.cell 0;have S:=D.cell 1;have T:=D.cell 2;have fG0:=D.frozen 0;have fG1:=D.frozen 1;have fG2:=D.frozen 2;simp at R S T;obtain⟨w7,i⟩:∃wb,Hid (wb=((w6.setCell ⟨w.heap.size,0,none⟩ (.bool true)).setCell ⟨w.heap.size,1,none⟩ (.int .i64 a.1)).setCell ⟨w.heap.size,2,none⟩ (.slice f a.2.length j)):=⟨_,zaa rfl⟩;have O:Blk w7 w.heap.size 27 #[.bool true,.int .i64 a.1,.slice f a.2.length j,.slice F n c,.int .i64 x.2.2.2]:=by rw[i.out];simpa using((D.set_ 0 (.bool true)).set_ 1 (.int .i64 a.1)).set_ 2 (.slice f a.2.length j)
  have L:w.heap.size<w0.heap.size:=by omega
  have A:PO w0.heap.size w7 (.slice f a.2.length j) a.2 W Q:=by rw[i.out];exact((z.far (p:=⟨w.heap.size,0,none⟩) L _).far (p:=⟨w.heap.size,1,none⟩) L _).far (p:=⟨w.heap.size,2,none⟩) L _
  have T7:Below w.heap.size w w7:=by rw[i.out];exact((T6.setCell (p:=⟨w.heap.size,0,none⟩) (zad _) _).setCell (p:=⟨w.heap.size,1,none⟩) (zad _) _).setCell (p:=⟨w.heap.size,2,none⟩) (zad _) _
  have E:Blk w7 (w.heap.size+1+1) 27 #[.bool false,.int .i64 0,.slice none 0 0,.slice none 0 0,.int .i64 0]:=by rw[i.out];exact((o.far (p:=⟨w.heap.size,0,none⟩) (by show _≠w.heap.size;omega) _).far (p:=⟨w.heap.size,1,none⟩) (by show _≠w.heap.size;omega) _).far (p:=⟨w.heap.size,2,none⟩) (by show _≠w.heap.size;omega) _
  clear D o;go_upto_region 7 with fail;rw[HA.out];rw[<-i.out];clear R S T fG0 fG1 fG2;obtain⟨R,S,T,cG3,cG4⟩:=cl5 O;obtain⟨cZ0,cZ1,cZ2,cZ3,cZ4,fZ0,fZ1,fZ2,fZ3,fZ4⟩:=cf5 E;have q:=zaa (q18 E (.bool true) (.int .i64 a.1) (.slice f a.2.length j) (.slice F n c) (.int .i64 x.2.2.2));have m:w.heap.size+1+1<w0.heap.size:=by omega
  have r:=zaa (q10 T7 (g:=w.heap.size+1+1) (by omega) (.bool true) (.int .i64 a.1) (.slice f a.2.length j) (.slice F n c) (.int .i64 x.2.2.2));have I:=zaa (((((A.far (p:=⟨w.heap.size+1+1,0,none⟩) m (.bool true)).far (p:=⟨w.heap.size+1+1,1,none⟩) m (.int .i64 a.1)).far (p:=⟨w.heap.size+1+1,2,none⟩) m (.slice f a.2.length j)).far (p:=⟨w.heap.size+1+1,3,none⟩) m (.slice F n c)).far (p:=⟨w.heap.size+1+1,4,none⟩) m (.int .i64 x.2.2.2));clear O E A;go_wp2_with fail
  (try simp only[Exit.inBlock,Exit.then])
  refine zas (v:=.tuple #[.agg #[.bool true,.int .i64 a.1,.slice f a.2.length j,.slice F n c,.int .i64 x.2.2.2],.bool true]) ?hr rfl ?_
  case hr=>exact qp rfl _ _ (w.heap.size+1+1) 27 #[.bool true,.int .i64 a.1,.slice f a.2.length j,.slice F n c,.int .i64 x.2.2.2] (0,0) _ _ rfl q.out zbk rfl (by kernel_rfl) rfl
  rw[M.out.1,M.out.2];refine⟨_,rfl,fun w3 hP hS=>?_,r.out⟩;have ho:=qf.osame (I.out.algO G.out) fun b hb=>hS b (by have:=(I.out.2.2.2 b hb).1;omega) (I.out.2.2.2 b hb).2
  obtain⟨B',m',d',e',-,hro⟩:=qv (qf.ord ho);obtain⟨B2,k2,d2,F2,n2,c2,eL,-,-,qF2,qR2⟩:=q3j hP;have e4:=zav (fun l:List Value=>l[3]?) eL;simp at e4;obtain⟨e5,e6,e7⟩:=e4
  exact qp3 (x:=(true,a,x.2.2.1,x.2.2.2)) G.out (by
   injection e' with _ e'
   injection e' with e' _
   injection e' with e1 e2 e3
   subst e1;subst e2
   exact hro) (by rw[e5,e6];exact qF2) HQR.out
theorem qo9 (B:Nat) (ds:List Value) (x:LabM) (s:qw) (w:World) (g:Nat) (v u:Value) (hg:B<=g) (hBl:Blk w g 27 #[.bool x.1,.int .i64 x.2.1.1,v,u,.int .i64 x.2.2.2]) (hD:LabD B w x v u) (h':qn.rd w ds s) (hx:AlgP x.2.1) (hln:x.2.2.1.length<=12) (hr:0<=x.2.2.2/\x.2.2.2<=9999) (hcs:qj.cnt s.2.2.1<=1048576) (hk:s.1=5) (hA:0<=s.2.2.2.2.1):
  Calls Tryz.prog 45 #[.pointer (some ⟨g,0,none⟩),.agg ds.toArray] w (MkO B g x s w):=by
 have hrd':=h';obtain⟨AL,nL,cL,AR,nR,cR,AV,nV,cV,AS,nS,cS,rfl,pK,pT,pF,pL,pR,pV,pS,pA,pB⟩:=q1f h';obtain⟨css,bls,A,cls,hPO,hPG,hap⟩:=hD;obtain⟨A1,c1,rfl⟩:=qq hPO.2.1;obtain⟨A2,z,rfl⟩:=qq hPG.2.1;obtain⟨w0,hw0,T0,hsz0,BQ⟩:=q16 w #[.int .i64 s.1,.string s.2.1,.int .i64 s.2.2.1.1,.slice AL nL cL,.slice AR nR cR,.slice AV nV cV,.slice AS nS cS,.int .i64 s.2.2.2.2.1,.int .i64 s.2.2.2.2.2] 59;have HW0:=zaa hw0;have hgw:=hBl.lt;have BG:=hBl.next T0;have hPO0:=hPO.next T0;have hPG0:=hPG.next T0;have TB:Below B w w0:=T0.mono (by omega);have HTB:=zaa TB;have hs0:w0.heap.size=w.heap.size+1:=hsz0;obtain⟨cG0,cG1,cG2,H,cG4,fG0,fG1,fG2,fG3,fG4⟩:=cf5 BG;obtain⟨Z,cQ1,cQ2,cQ3,cQ4,cQ5,cQ6,d,cQ8⟩:=cl9 BQ;obtain⟨k,hkA⟩:=zam hA;have HM:Hid (makM x s=(if(k:Int)<(x.2.2.1.length:Int)then some (x.1,x.2.1,x.2.2.1.take k++x.2.2.1.drop (k+1),x.2.2.2)else none)):=by
  show _=_
  unfold makM;rw[zaj (by rw[hk];decide),zaj (by rw[hk];decide),zao hk,hkA,za1]
 have hin:InR x.2.1.1:=⟨by have:=hx.1;omega,by have:=hx.2.1;omega⟩;have hin2:InR x.2.2.2:=⟨by omega,by omega⟩;have HPO0:=zaa hPO0;have HPG0:=zaa hPG0;have HAP:=zaa hap;have hk0:(0:Int)<=(k:Int):=by omega
 have hkb:(k:Int)<=9223372036854775807:=by have:=pA.2;omega
 rw[hk]at Z;rw[hkA]at d;have q:Below w0.heap.size w0 w0:=zab _ _;have HK:=zaa hk;clear hk;clear hw0 hsz0 h' hrd' hPO hPG hPO0 hPG0 hap TB T0 pK pT pF pL pR pV pS pA pB hBl hcs hkA hA
 go_enter Tryz.func45,Tryz.ntmps45
 go_upto_region 1 with fail;rw[<-HW0.out];go_upto_region 11 with fail
 go_cut [68] (fun t wx=>t=.bool (decide (x.2.2.1.length<=k))/\Below w0.heap.size w0 wx)
 case first=>
  go_region
  all_goals
   go_wp2_with fail;go_meet;exact⟨rfl,by first|exact q|exact zai q⟩
 case rest=>
  obtain⟨rfl,O⟩:=hcut;obtain⟨D,HWC⟩:∃wq:World,wq=wc:=⟨_,rfl⟩;subst HWC;have o:=BG.next O;have zkk:=kk14 O cG0 cG1 cG2 H cG4 Z cQ1 cQ2 cQ3 cQ4 cQ5 cQ6 d cQ8;clear cG0 cG1 cG2 H cG4 Z cQ1 cQ2 cQ3 cQ4 cQ5 cQ6 d cQ8;obtain⟨cG0,cG1,cG2,H,cG4,Z,cQ1,cQ2,cQ3,cQ4,cQ5,cQ6,d,cQ8⟩:=zkk;replace fG0:=o.frozen 0;replace fG1:=o.frozen 1;replace fG2:=o.frozen 2;replace fG3:=o.frozen 3;replace fG4:=o.frozen 4;have N:=HPO0.out.next O;have E:=HPG0.out.next O;have T1:=HTB.out.trans (O.mono (by omega:B<=w0.heap.size));have hz1:=O.size;clear q BG
  by_cases hlt:k<x.2.2.1.length
  .have hd:decide (x.2.2.1.length<=k)=false:=zbn (by omega)
   have X:Hid (makM x s=some (x.1,x.2.1,x.2.2.1.take k++x.2.2.1.drop (k+1),x.2.2.2)):=HM.out.trans (by rw[zao (by omega)]);have hB1:B<=D.heap.size:=by omega
   obtain⟨i,rfl,hg2,hnc⟩:=q2b E.2.1 (by omega);obtain⟨i0,hi0,-,hsz,-⟩:=info_parts q17;obtain⟨ad,W,Q⟩:∃ad:Addr,Hid ((if z=k+1 then some (⟨i,0,none⟩:Addr)else some ⟨i,(k+1)*4,none⟩)=some ad)/\(k+1<z->ad=⟨i,(k+1)*4,none⟩):=by
    by_cases hq:z=k+1
    .exact⟨_,zao hq,fun h=>absurd h (by omega)⟩
    .exact⟨_,zaj hq,fun _=>rfl⟩
   have hi1:(0:Int)<=(k:Int)+1:=by omega
   have hkc:k<=z:=by omega
   have hi2:(k:Int)+1<=(x.2.2.1.length:Int):=by omega
   have hw64:IntKind.i64.wrap ((k:Int)+1)=(k:Int)+1:=zcg _ (by omega);have C:=E.1.all;have hl1:=E.1.l1;have HCE:=zaa (E.2.1.cells (g:=i) rfl);have ac:Hid (∀j v,(A.take k).flatten[j]?=some v->D.cell? ((⟨i,0,none⟩:Addr).add j)=some v):=fun j v L=>by
    refine HCE.out j v ?_;rw[<-q9n (m:=4) C (by omega),zdx]at L
    split at L
    .exact L
    .cases L
   have HOL:Hid ((A.take k).flatten.length=k*4):=by
    show _=_
    rw[q2x (m:=4) fun c hc=>C c (zbu hc),za8,zeg (by omega)]
   have HNL:Hid ((A.drop (k+1)).flatten.length=(x.2.2.1.length - (k+1))*4):=by
    show _=_
    rw[q2x (m:=4) fun c hc=>C c (zdy hc),zcq,hl1]
   have HG1:=zaa E;have HP1:=zaa N;have HT1:=zaa T1;have aa:=zaa o
   by_cases hlast:x.2.2.1.length - (k+1)=0
   .have HXS:Hid (x.2.2.1.take k++x.2.2.1.drop (k+1)=x.2.2.1.take k):=by show _=_;rw[zbe (by omega),zc3]
    have PT:=E.take (k:=k) rfl (by omega);have HF0:Hid (∀wz,Below D.heap.size D wz->MkO B g x s w (.returned (.bool true)) (wz.setCell ⟨g,3,none⟩ (.slice (some ⟨i,0,none⟩) k k))):=fun wz M=>by
     refine⟨(T1.trans (M.mono hB1)).setCell (p:=⟨g,3,none⟩) (by exact hg) _,ze1 ⟨(x.1,x.2.1,x.2.2.1.take k++x.2.2.1.drop (k+1),x.2.2.2),.slice A1 x.2.1.2.length c1,.slice (some ⟨i,0,none⟩) k k,X.out,rfl,by simpa using(o.next M).set_ 3 (.slice (some ⟨i,0,none⟩) k k),?_,hin,hin2⟩⟩;rw[HXS.out]
     exact⟨css,bls,_,_,some ⟨i,0,none⟩,k,z,k,rfl,zad _,PO.setB (k:=3) (N.next M) (o.next M) (by decide) (by decide) _,PGf.setB (k:=3) (PT.next M) (o.next M) (by decide) (by decide) _,fun b hb T=>HAP.out b hb (by
      rcases zat.1 T with T|T
      .exact zba _ (by simpa[obl,Value.ownBlock]using T)
      .obtain⟨bk,h1,h2⟩:=zbp.1 T
       exact zay _ (zbp.2 ⟨bk,zbu h1,h2⟩))⟩
    clear C hl1 E N T1 PT Q;have q:Below D.heap.size D D:=zab _ _;have l:=aa.out;have y:w.heap.size≠g:=by omega
    go_upto_region 13 with fail;refine zb1 (S:=fun w'=>w'.cell? ⟨w.heap.size,7,none⟩=some (.int .i64 (k:Int))) (by kernel_rfl) d (fun hHeld0=>?_);obtain⟨F,G⟩:∃x,Hid (x=World.drew D):=⟨_,rfl⟩;have f:Below D.heap.size D F:=by rw[G.out];exact(zab _ _).drew
    rw[<-G.out]at hHeld0⊢;have ywt1:=f.size;replace H:=qe f H;replace q:=q9 q f rfl;replace l:=l.next f;replace d:=qe f d;refine tp 0 (.pointer (some ⟨g,0,none⟩)) rfl ?_;refine tp 1 (.pointer (some ⟨g,0,none⟩)) rfl ?_;refine tp 2 (.pointer (some ⟨g,0,none⟩)) rfl ?_;refine tp 3 (.pointer (some ⟨g,3,none⟩)) rfl ?_;refine tp 5 (.pointer (some ⟨w.heap.size,7,none⟩)) rfl ?_;refine tk 6 (.int .i64 (k:Int)) rfl (.inl ⟨by kernel_rfl,fun wv r=>by(have P:=r);go_simp⟩) ?_;refine tp 7 (.pointer (some ⟨w.heap.size,7,none⟩)) rfl ?_;refine tk 8 (.int .i64 (k:Int)) rfl (.inl ⟨by kernel_rfl,fun wv r=>by(have P:=r);go_simp⟩) ?_;refine tp 10 (.pointer (some ⟨g,0,none⟩)) rfl ?_;refine tp 11 (.pointer (some ⟨g,0,none⟩)) rfl ?_;refine tp 12 (.pointer (some ⟨g,3,none⟩)) rfl ?_;refine tp 14 (.pointer (some ⟨w.heap.size,7,none⟩)) rfl ?_;refine tk 15 (.int .i64 (k:Int)) rfl (.inl ⟨by kernel_rfl,fun wv r=>by(have P:=r);go_simp⟩) ?_;refine tp 16 (.int .i64 ((k:Int)+1)) rfl ?_
    (try simp only[Act.put,zA,zB,zC,zD,zE,zF])
    refine r2 4 13 rfl (fun K hK=>?_) rfl (fun K hK=>?_)
    .go_simp
     refine hK.out _ _ d (fun hHeld1=>?_);clear hK K hHeld0;refine tp 9 (.slice (some ⟨i,0,none⟩) k k) rfl ?_
     (try simp only[Act.put,zA,zB,zC,zD,zE,zF])
     refine r1 13 rfl (fun K hK=>?_);go_simp;refine hK.out _ _ d (fun hHeld2=>?_);clear hK K hHeld1;refine tp 17 (.slice (if z=k+1 then some (⟨i,0,none⟩:Addr)else some ⟨i,(k+1)*4,none⟩) 0 (z - (k+1))) rfl ?_
     (try simp only[Act.put,zA,zB,zC,zD,zE,zF])
     refine r1 18 rfl (fun K hK=>?_);refine qeq _ rfl (.tmp 78) (.tmp 86) 25 57 rfl (.agg #[.int .i64 0,.slice none 0 0,.slice none 0 0,.slice none 0 0]) 80 4 zbz q17 (some ⟨i,0,none⟩) k k (zad _) (by rfl) ad (z - (k+1)) (by show Value.slice (if z=k+1 then some (⟨i,0,none⟩:Addr)else some ⟨i,(k+1)*4,none⟩) _ _=_;rw[W.out]) ?_;refine hK.out _ _ d (fun hHeld3=>?_);clear hK K hHeld2;refine tp 19 (.pointer (some ⟨g,0,none⟩)) rfl ?_;refine tp 20 (.pointer (some ⟨g,3,none⟩)) rfl ?_
     (try simp only[Act.put,zA,zB,zC,zD,zE,zF])
     refine r1 21 rfl (fun K hK=>?_);have cO:=l.cell 3;have fO:=l.frozen 3;simp at cO;go_simp;replace d:=(zb9 (w:=F) (w':=F.setCell ⟨g,3,none⟩ (.slice (some ⟨i,0,none⟩) k k)) (a:=⟨w.heap.size,7,none⟩) (zal _ ⟨g,3,none⟩ _ _ y)).trans d;refine hK.out _ _ d (fun hHeld4=>?_);clear hK K hHeld3
     (try simp only[Act.put,zA,zB,zC,zD,zE,zF])
     refine zbg (by kernel_rfl) ?_ _;go_wp2_with fail
     all_goals
      go_ret;exact HF0.out _ q
    .go_simp
     refine hK.out _ _ d (fun hHeld1=>?_);clear hK K hHeld0;refine tp 17 (.slice (if z=k+1 then some (⟨i,0,none⟩:Addr)else some ⟨i,(k+1)*4,none⟩) 0 (z - (k+1))) rfl ?_
     (try simp only[Act.put,zA,zB,zC,zD,zE,zF])
     refine r1 4 rfl (fun K hK=>?_);go_simp;refine hK.out _ _ d (fun hHeld2=>?_);clear hK K hHeld1;refine tp 9 (.slice (some ⟨i,0,none⟩) k k) rfl ?_
     (try simp only[Act.put,zA,zB,zC,zD,zE,zF])
     refine r1 18 rfl (fun K hK=>?_);refine qeq _ rfl (.tmp 78) (.tmp 86) 25 57 rfl (.agg #[.int .i64 0,.slice none 0 0,.slice none 0 0,.slice none 0 0]) 80 4 zbz q17 (some ⟨i,0,none⟩) k k (zad _) (by rfl) ad (z - (k+1)) (by show Value.slice (if z=k+1 then some (⟨i,0,none⟩:Addr)else some ⟨i,(k+1)*4,none⟩) _ _=_;rw[W.out]) ?_;refine hK.out _ _ d (fun hHeld3=>?_);clear hK K hHeld2;refine tp 19 (.pointer (some ⟨g,0,none⟩)) rfl ?_;refine tp 20 (.pointer (some ⟨g,3,none⟩)) rfl ?_
     (try simp only[Act.put,zA,zB,zC,zD,zE,zF])
     refine r1 21 rfl (fun K hK=>?_);have cO:=l.cell 3;have fO:=l.frozen 3;simp at cO;go_simp;replace d:=(zb9 (w:=F) (w':=F.setCell ⟨g,3,none⟩ (.slice (some ⟨i,0,none⟩) k k)) (a:=⟨w.heap.size,7,none⟩) (zal _ ⟨g,3,none⟩ _ _ y)).trans d;refine hK.out _ _ d (fun hHeld4=>?_);clear hK K hHeld3
     (try simp only[Act.put,zA,zB,zC,zD,zE,zF])
     refine zbg (by kernel_rfl) ?_ _;go_wp2_with fail
     all_goals
      go_ret;exact HF0.out _ q
   .have R:=Q (by omega)
    have ab:Hid (∀j v,(A.drop (k+1)).flatten[j]?=some v->D.cell? (ad.add j)=some v):=fun j v L=>by
     rw[<-qde (m:=4) C (by omega),zda]at L;have:=HCE.out _ v L;rw[R];have e:(⟨i,(k+1)*4,none⟩:Addr).add j=(⟨i,0,none⟩:Addr).add ((k+1)*4+j):=by
      unfold Addr.add;rw[zaj (by omega:¬(k+1)*4+j=0)]
      split
      .simp;omega
      .simp
     rw[e];exact this
    have HF1:Hid (∀U V Y,U.ownsRow D.heap.size 57 4 (.slice V (k+(x.2.2.1.length - (k+1))) Y) (k+(x.2.2.1.length - (k+1))) ((A.take k).flatten++(A.drop (k+1)).flatten)->Below D.heap.size D U->MkO B g x s w (.returned (.bool true)) (U.setCell ⟨g,3,none⟩ (.slice V (k+(x.2.2.1.length - (k+1))) Y))):=fun U V Y n M=>by
     have PD:=E.del q4i rfl hlt n M hB1;refine⟨(T1.trans (M.mono hB1)).setCell (p:=⟨g,3,none⟩) (by exact hg) _,ze1 ⟨(x.1,x.2.1,x.2.2.1.take k++x.2.2.1.drop (k+1),x.2.2.2),.slice A1 x.2.1.2.length c1,.slice V (k+(x.2.2.1.length - (k+1))) Y,X.out,rfl,by simpa using(o.next M).set_ 3 (.slice V (k+(x.2.2.1.length - (k+1))) Y),?_,hin,hin2⟩⟩;refine LabD.w ⟨css,bls,_,_,PO.setB (k:=3) (N.next M) (o.next M) (by decide) (by decide) _,PGf.setB (k:=3) PD (o.next M) (by decide) (by decide) _,fun b hb T=>?_⟩
     rcases zat.1 T with T|T
     .exact q5p (N.next M) n b hb T
     .refine HAP.out b hb (zay _ ?_)
      obtain⟨bk,h1,h2⟩:=zbp.1 T;refine zbp.2 ⟨bk,?_,h2⟩
      rcases zat.1 h1 with h1|h1
      .exact zbu h1
      .exact zdy h1
    clear C hl1 E N T1 Q R;go_upto_region 13 with fail;have q:Below D.heap.size D D:=zab _ _;have l:=aa.out;have y:w.heap.size≠g:=by omega
    go_upto_region 13 with fail;refine zb1 (S:=fun w'=>w'.cell? ⟨w.heap.size,7,none⟩=some (.int .i64 (k:Int))) (by kernel_rfl) d (fun hHeld0=>?_);obtain⟨F,G⟩:∃x,Hid (x=World.drew D):=⟨_,rfl⟩;have f:Below D.heap.size D F:=by rw[G.out];exact(zab _ _).drew
    rw[<-G.out]at hHeld0⊢;have ywt1:=f.size;replace H:=qe f H;replace q:=q9 q f rfl;replace l:=l.next f;replace d:=qe f d;refine tp 0 (.pointer (some ⟨g,0,none⟩)) rfl ?_;refine tp 1 (.pointer (some ⟨g,0,none⟩)) rfl ?_;refine tp 2 (.pointer (some ⟨g,0,none⟩)) rfl ?_;refine tp 3 (.pointer (some ⟨g,3,none⟩)) rfl ?_;refine tp 5 (.pointer (some ⟨w.heap.size,7,none⟩)) rfl ?_;refine tk 6 (.int .i64 (k:Int)) rfl (.inl ⟨by kernel_rfl,fun wv r=>by(have P:=r);go_simp⟩) ?_;refine tp 7 (.pointer (some ⟨w.heap.size,7,none⟩)) rfl ?_;refine tk 8 (.int .i64 (k:Int)) rfl (.inl ⟨by kernel_rfl,fun wv r=>by(have P:=r);go_simp⟩) ?_;refine tp 10 (.pointer (some ⟨g,0,none⟩)) rfl ?_;refine tp 11 (.pointer (some ⟨g,0,none⟩)) rfl ?_;refine tp 12 (.pointer (some ⟨g,3,none⟩)) rfl ?_;refine tp 14 (.pointer (some ⟨w.heap.size,7,none⟩)) rfl ?_;refine tk 15 (.int .i64 (k:Int)) rfl (.inl ⟨by kernel_rfl,fun wv r=>by(have P:=r);go_simp⟩) ?_;refine tp 16 (.int .i64 ((k:Int)+1)) rfl ?_
    (try simp only[Act.put,zA,zB,zC,zD,zE,zF])
    refine r2 4 13 rfl (fun K hK=>?_) rfl (fun K hK=>?_)
    .go_simp
     refine hK.out _ _ d (fun hHeld1=>?_);clear hK K hHeld0;refine tp 9 (.slice (some ⟨i,0,none⟩) k k) rfl ?_
     (try simp only[Act.put,zA,zB,zC,zD,zE,zF])
     refine r1 13 rfl (fun K hK=>?_);go_simp;refine hK.out _ _ d (fun hHeld2=>?_);clear hK K hHeld1;refine tp 17 (.slice (if z=k+1 then some (⟨i,0,none⟩:Addr)else some ⟨i,(k+1)*4,none⟩) (x.2.2.1.length - (k+1)) (z - (k+1))) rfl ?_
     (try simp only[Act.put,zA,zB,zC,zD,zE,zF])
     refine r1 18 rfl (fun K hK=>?_);refine qes F rfl (.tmp 78) (.tmp 86) 25 57 rfl (.agg #[.int .i64 0,.slice none 0 0,.slice none 0 0,.slice none 0 0]) 80 4 zbz q17 rfl (by decide) (some ⟨i,0,none⟩) k k (A.take k).flatten (by rfl) HOL.out (.inr ⟨_,rfl,fun j v L=>qe q (ac.out j v L)⟩) ad (x.2.2.1.length - (k+1)) (z - (k+1)) (A.drop (k+1)).flatten (by show Value.slice (if z=k+1 then some (⟨i,0,none⟩:Addr)else some ⟨i,(k+1)*4,none⟩) _ _=_;rw[W.out]) HNL.out (fun j v L=>qe q (ab.out j v L)) (by omega) (by omega) (by omega) ?_;intro V Y U n I;have J:=qh n q.size;replace q:=q9 q I rfl;replace l:=l.next I;replace d:=qe I d;refine hK.out _ _ d (fun hHeld3=>?_);clear hK K hHeld2;refine tp 19 (.pointer (some ⟨g,0,none⟩)) rfl ?_;refine tp 20 (.pointer (some ⟨g,3,none⟩)) rfl ?_
     (try simp only[Act.put,zA,zB,zC,zD,zE,zF])
     refine r1 21 rfl (fun K hK=>?_);have cO:=l.cell 3;have fO:=l.frozen 3;simp at cO;go_simp;replace d:=(zb9 (w:=U) (w':=U.setCell ⟨g,3,none⟩ (.slice V (k+(x.2.2.1.length - (k+1))) Y)) (a:=⟨w.heap.size,7,none⟩) (zal _ ⟨g,3,none⟩ _ _ y)).trans d;refine hK.out _ _ d (fun hHeld4=>?_);clear hK K hHeld3
     (try simp only[Act.put,zA,zB,zC,zD,zE,zF])
     refine zbg (by kernel_rfl) ?_ _;go_wp2_with fail
     all_goals
      go_ret;exact HF1.out _ _ _ J q
    .go_simp
     refine hK.out _ _ d (fun hHeld1=>?_);clear hK K hHeld0;refine tp 17 (.slice (if z=k+1 then some (⟨i,0,none⟩:Addr)else some ⟨i,(k+1)*4,none⟩) (x.2.2.1.length - (k+1)) (z - (k+1))) rfl ?_
     (try simp only[Act.put,zA,zB,zC,zD,zE,zF])
     refine r1 4 rfl (fun K hK=>?_);go_simp;refine hK.out _ _ d (fun hHeld2=>?_);clear hK K hHeld1;refine tp 9 (.slice (some ⟨i,0,none⟩) k k) rfl ?_
     (try simp only[Act.put,zA,zB,zC,zD,zE,zF])
     refine r1 18 rfl (fun K hK=>?_);refine qes F rfl (.tmp 78) (.tmp 86) 25 57 rfl (.agg #[.int .i64 0,.slice none 0 0,.slice none 0 0,.slice none 0 0]) 80 4 zbz q17 rfl (by decide) (some ⟨i,0,none⟩) k k (A.take k).flatten (by rfl) HOL.out (.inr ⟨_,rfl,fun j v L=>qe q (ac.out j v L)⟩) ad (x.2.2.1.length - (k+1)) (z - (k+1)) (A.drop (k+1)).flatten (by show Value.slice (if z=k+1 then some (⟨i,0,none⟩:Addr)else some ⟨i,(k+1)*4,none⟩) _ _=_;rw[W.out]) HNL.out (fun j v L=>qe q (ab.out j v L)) (by omega) (by omega) (by omega) ?_;intro V Y U n I;have J:=qh n q.size;replace q:=q9 q I rfl;replace l:=l.next I;replace d:=qe I d;refine hK.out _ _ d (fun hHeld3=>?_);clear hK K hHeld2;refine tp 19 (.pointer (some ⟨g,0,none⟩)) rfl ?_;refine tp 20 (.pointer (some ⟨g,3,none⟩)) rfl ?_
     (try simp only[Act.put,zA,zB,zC,zD,zE,zF])
     refine r1 21 rfl (fun K hK=>?_);have cO:=l.cell 3;have fO:=l.frozen 3;simp at cO;go_simp;replace d:=(zb9 (w:=U) (w':=U.setCell ⟨g,3,none⟩ (.slice V (k+(x.2.2.1.length - (k+1))) Y)) (a:=⟨w.heap.size,7,none⟩) (zal _ ⟨g,3,none⟩ _ _ y)).trans d;refine hK.out _ _ d (fun hHeld4=>?_);clear hK K hHeld3
     (try simp only[Act.put,zA,zB,zC,zD,zE,zF])
     refine zbg (by kernel_rfl) ?_ _;go_wp2_with fail
     all_goals
      go_ret;exact HF1.out _ _ _ J q
  .have hd:decide (x.2.2.1.length<=k)=true:=zbm (by omega)
   have X:Hid (makM x s=none):=HM.out.trans (by rw[zaj (by omega)]);have HT1:=zaa T1;go_wp2_with fail;go_ret;exact⟨HT1.out,Or.inl ⟨X.out,rfl⟩⟩
theorem qoa (B:Nat) (ds:List Value) (x:LabM) (s:qw) (S w:World) (g:Nat) (v u:Value) (hg:B<=g) (hBl:Blk w g 27 #[.bool x.1,.int .i64 x.2.1.1,v,u,.int .i64 x.2.2.2]) (hD:LabD B w x v u) (hwa:Below S.heap.size S w) (haB:S.heap.size<=B) (h':qn.rd S ds s) (hx:AlgP x.2.1) (hln:x.2.2.1.length<=12) (hr:0<=x.2.2.2/\x.2.2.2<=9999) (htr:∀f∈x.2.2.1,q1l x.2.1 f=true) (hcf:∀f∈x.2.2.1,qj.cnt f<=1048576) (hk:s.1=6):
  Calls Tryz.prog 45 #[.pointer (some ⟨g,0,none⟩),.agg ds.toArray] w (MkO B g x s w):=by
 have hrd':=h';obtain⟨AL,nL,cL,AR,nR,cR,AV,nV,cV,A,L,R,rfl,pK,pT,pF,pL,pR,pV,pS,pA,pB⟩:=q1f h';obtain⟨css,bls,dss,cls,hPO,hPG,hap⟩:=hD;obtain⟨A1,c1,rfl⟩:=qq hPO.2.1;obtain⟨A2,c2,rfl⟩:=qq hPG.2.1;obtain⟨r,hw0,T0,hsz0,BQ⟩:=q16 w #[.int .i64 s.1,.string s.2.1,.int .i64 s.2.2.1.1,.slice AL nL cL,.slice AR nR cR,.slice AV nV cV,.slice A L R,.int .i64 s.2.2.2.2.1,.int .i64 s.2.2.2.2.2] 59;have HW0:=zaa hw0;have hgw:=hBl.lt;have U:=hBl.next T0;have hPO0:=hPO.next T0;have hPG0:=hPG.next T0;have TB:Below B w r:=T0.mono (by omega);have HTB:=zaa TB;have hs0:r.heap.size=w.heap.size+1:=hsz0;have C:=U.cell 1;have D:=U.cell 2;have X:=U.cell 3;have cQ0:=BQ.cell 0;have E:=BQ.cell 6;simp at C D X cQ0 E;have hin:InR x.2.1.1:=⟨by have:=hx.1;omega,by have:=hx.2.1;omega⟩;have hin2:InR x.2.2.2:=⟨by omega,by omega⟩;have HTA:Hid (∀c,Below B r c->Below S.heap.size S c):=fun c m=>(hwa.trans (T0.mono hwa.size)).trans (m.mono haB)
 have HNM:Hid (∀c,Below S.heap.size S c->RdL RI c A L s.2.2.2.1):=fun c m=>pS.next qd m
 obtain⟨N,HN⟩:∃N:Nat,Hid (x.2.1.1.toNat=N):=⟨_,zaa rfl⟩;have hx1:=hx.1;have hx2:=hx.2.1;have HXN:Hid (x.2.1.1=(N:Int)):=by show x.2.1.1=_;rw[<-HN.out];omega
 obtain⟨pb,HPB⟩:∃b,Hid (q7f N s.2.2.2.1=b):=⟨_,zaa rfl⟩;have HIO:Hid (∀c,Below S.heap.size S c->Calls Tryz.prog 85 #[.slice A L R,.int .i64 x.2.1.1] c (Bl c (.bool pb))):=fun c m=>by
  have:=qfc A L R N s.2.2.2.1 c (HNM.out c m) (by have:=HN.out;omega);rw[<-HXN.out,HPB.out]at this;exact this
 have HM:Hid (makM x s=if pb=true then some (x.1,ren x.2.1 s.2.2.2.1,x.2.2.1.map fun f=>(f.1,f.2.1,rfL f.1 f.2.2 s.2.2.2.1),x.2.2.2)else none):=by
  show _=_
  unfold makM;rw[zaj (by rw[hk];decide),zaj (by rw[hk];decide),zaj (by rw[hk];decide),zao hk,HN.out,HPB.out]
 have HAX:=zaa hx;have HTR:=zaa htr;have HCF:=zaa hcf;have Z:=zaa hPO0;have HPG0:=zaa hPG0;have HAP:=zaa hap;rw[hk]at cQ0;have l:Below r.heap.size r r:=zab _ _;clear hk htr hcf hx1 hx2 hx;clear hw0 hsz0 h' hrd' hPO hPG hPO0 hPG0 hap TB T0 pK pT pF pL pR pV pS pA pB hBl hwa
 go_enter Tryz.func45,Tryz.ntmps45
 go_upto_region 1 with fail;rw[<-HW0.out];go_upto_region 16 with fail;obtain⟨qb,HQB⟩:∃q,Hid ((!pb)=q):=⟨_,zaa rfl⟩;have Y:Hid (∀c,Below r.heap.size r c->Calls Tryz.prog 85 #[.slice A L R,.int .i64 x.2.1.1] c (Bl c (.bool pb))):=fun c m=>HIO.out c (HTA.out c (m.mono (by omega)))
 go_cut [100] (fun t wx=>t=.bool qb/\Below r.heap.size r wx)
 case first=>
  first|(go_region_law (first
   |(go_simp;go_at_call 85;(with_reducible refine(Y.out _ ?_).mono ?_);(first|exact l|exact zai l);rintro e1 wn ⟨rfl,J⟩;replace l:=q9 (by first|exact l|exact zai l) J rfl)))|fail
  all_goals
   go_wp2_with fail;go_meet;exact⟨by rw[<-HQB.out],by first|exact l|exact zai l⟩
 case rest=>
  obtain⟨rfl,d⟩:=hcut;obtain⟨z,HWC⟩:∃wq:World,wq=wc:=⟨_,rfl⟩;subst HWC;have BG1:=U.next d;have zkk:=kk3 d C D E;clear C D E;obtain⟨C,D,E⟩:=zkk;have hP1:=Z.out.next d;have hG1:=HPG0.out.next d;have T1:=HTB.out.trans (d.mono (by omega:B<=r.heap.size));have hz1:=d.size;have hD1:LabD B z x (.slice A1 x.2.1.2.length c1) (.slice A2 x.2.2.1.length c2):=⟨css,bls,dss,cls,hP1,hG1,HAP.out⟩;have h01:Below B r z:=d.mono (by omega);clear l U hP1 hG1 Y
  rcases pb with _|_
  .obtain rfl:qb=true:=by rw[<-HQB.out];rfl
   have HM2:Hid (makM x s=none):=HM.out.trans (zaj (by decide));have HT1:=zaa T1;go_wp2_with fail;go_ret;exact⟨HT1.out,Or.inl ⟨HM2.out,rfl⟩⟩
  .obtain rfl:qb=false:=by rw[<-HQB.out];rfl
   have hpm:PermL N s.2.2.2.1:=q3p.1 HPB.out;have HPM:Hid (PermL x.2.1.1.toNat s.2.2.2.1):=by show PermL _ _;rw[HN.out];exact hpm
   have HM2:Hid (makM x s=some (x.1,ren x.2.1 s.2.2.2.1,x.2.2.1.map fun f=>(f.1,f.2.1,rfL f.1 f.2.2 s.2.2.2.1),x.2.2.2)):=HM.out.trans (zao rfl);have hB1:B<=z.heap.size:=by omega
   have l:Below z.heap.size z z:=zab _ _;have HRN:Hid (∀c,Below z.heap.size z c->Calls Tryz.prog 86 #[.agg #[.int .i64 x.2.1.1,.slice A1 x.2.1.2.length c1],.slice A L R] c (AlgE c (ren x.2.1 s.2.2.2.1))):=fun c m=>
    qg4 [.int .i64 x.2.1.1,.slice A1 x.2.1.2.length c1] x.2.1 A L R s.2.2.2.1 c (qf.ord (((Z.out.next d).next m).algO hin)) (HNM.out c (HTA.out c (h01.trans (m.mono hB1)))) HAX.out HPM.out
   have HD1:=zaa hD1;have HTB1:=zaa (zap T1 h01);have HIN:=zaa (zap hin hin2);clear T1 h01 hin hin2 hpm;go_upto_region 18 with fail
   go_cut []from 101 to 110 (fun wx=>∃T W,Blk wx g 27 #[.bool x.1,.int .i64 x.2.1.1,.slice T (ren x.2.1 s.2.2.2.1).2.length W,.slice A2 x.2.2.1.length c2,.int .i64 x.2.2.2]/\LabD B wx (x.1,ren x.2.1 s.2.2.2.1,x.2.2.1,x.2.2.2) (.slice T (ren x.2.1 s.2.2.2.1).2.length W) (.slice A2 x.2.2.1.length c2)/\Below B z wx/\Blk wx w.heap.size 59 #[.int .i64 s.1,.string s.2.1,.int .i64 s.2.2.1.1,.slice AL nL cL,.slice AR nR cR,.slice AV nV cV,.slice A L R,.int .i64 s.2.2.2.2.1,.int .i64 s.2.2.2.2.2])
   case first=>
    have BQ1:=BQ.next d
    first|(go_region_law (first
     |(go_simp;go_at_call 86;(with_reducible refine(HRN.out _ ?_).mono ?_);(first|exact l|exact zai l);rintro e1 w6 ⟨v4,css4,bls4,rfl,hPO4,J⟩;obtain⟨T,W,rfl⟩:=qq hPO4.2.1;have a:=q9 (zai (zab z.heap.size z)) J rfl;have hPO4':PO z.heap.size w6 (.slice T (ren x.2.1 s.2.2.2.1).2.length W) (ren x.2.1 s.2.2.2.1).2 css4 bls4:=hPO4;have j:=BG1.next a;have cO1:=j.cell 1;have fO1:=j.frozen 1;have cO2:=j.cell 2;have fO2:=j.frozen 2;simp at cO1 cO2)))|fail
    all_goals
     go_wp2_with fail;go_meet;have BQ6:=BQ1.next a;have BFF:=(j.set_ 1 (.int .i64 (ren x.2.1 s.2.2.2.1).1)).set_ 2 (.slice T (ren x.2.1 s.2.2.2.1).2.length W);simp at BFF;exact⟨T,W,BFF,((HD1.out.base a hPO4' hB1).setB j _).setB (j.set_ 1 _) _,((a.mono hB1).setCell (p:=⟨g,1,none⟩) (by exact hg) _).setCell (p:=⟨g,2,none⟩) (by exact hg) _,(BQ6.far (p:=⟨g,1,none⟩) (by show _≠g;omega) _).far (p:=⟨g,2,none⟩) (by show _≠g;omega) _⟩
   case rest=>
    obtain⟨T,W,BG2,hD2,T12,BQ2⟩:=hcut;obtain⟨w2,HWC⟩:∃wq:World,wq=wc:=⟨_,rfl⟩;subst HWC;have T02:Below B r w2:=HTB1.out.2.trans T12;have HT0:=zaa HTB.out;replace X:=BG2.cell 3;simp at X;clear C D cQ0 E BG1 hD1 l HRN;go_wp2_with fail
    go_loopw [116] (fun i wr=>∃k:Nat,k<=x.2.2.1.length/\i=.int .i64 (k:Int)/\Blk wr g 27 #[.bool x.1,.int .i64 x.2.1.1,.slice T (ren x.2.1 s.2.2.2.1).2.length W,.slice A2 x.2.2.1.length c2,.int .i64 x.2.2.2]/\LabD B wr (x.1,ren x.2.1 s.2.2.2.1,rnTo x.2.2.1 s.2.2.2.1 k,x.2.2.2) (.slice T (ren x.2.1 s.2.2.2.1).2.length W) (.slice A2 x.2.2.1.length c2)/\Below B r wr/\Blk wr w.heap.size 59 #[.int .i64 s.1,.string s.2.1,.int .i64 s.2.2.1.1,.slice AL nL cL,.slice AR nR cR,.slice AV nV cV,.slice A L R,.int .i64 s.2.2.2.2.1,.int .i64 s.2.2.2.2.2]) (fun i _=>x.2.2.1.length - (intOf i).toNat)
    case atStart=>exact⟨0,zah _,rfl,BG2,by rw[qek];exact hD2,T02,BQ2⟩
    case round=>
     clear BG2 hD2 T02 BQ2 T12 X;obtain⟨k,hk,rfl,U,hD,hT,BQr⟩:=hrel
     by_cases hlt:k<x.2.2.1.length
     .have hk0:(0:Int)<=(k:Int):=by omega
      have hk1:(k:Int)<(x.2.2.1.length:Int):=by omega
      have hD':=hD;obtain⟨css2,bls2,dss2,cls2,hPO2,I,hap2⟩:=hD';have hrl:(rnTo x.2.2.1 s.2.2.2.1 k).length=x.2.2.1.length:=qh7 _ _ hk;have hOW:wr.ownsRow B 57 4 (.slice A2 x.2.2.1.length c2) x.2.2.1.length dss2.flatten:=by
       have h:=I.2.1;rw[show((x.1,ren x.2.1 s.2.2.2.1,rnTo x.2.2.1 s.2.2.2.1 k,x.2.2.2):LabM).2.2.1.length=x.2.2.1.length from hrl]at h;exact h
      obtain⟨g2,rfl,hg2,hnc⟩:=q2b hOW (by omega);obtain⟨A',c',e',hrd⟩:=I.rd;injection e' with e1 e2 e3
      subst e1;obtain⟨b,o,vs,f,hA,-,hc,hrf,-,hfx⟩:=hrd.at (k:=k) (by show k<(rnTo x.2.2.1 s.2.2.2.1 k).length;omega);injection hA with hA
      injection hA with q1 q2
      subst q1;subst q2;obtain⟨fL,M,F,fR,O,G,fV,P,H,rfl,fk,pfL,pfR,pfV⟩:=q1u hrf;have cc0:wr.cell? ⟨g2,k*4,none⟩=some (.int .i64 f.1):=by have e:wr.cell? ⟨g2,0+k*4+0,none⟩=some _:=hc 0 _ rfl;simpa using e
      have cc1:wr.cell? ⟨g2,k*4+1,none⟩=some (.slice fL M F):=by have e:wr.cell? ⟨g2,0+k*4+1,none⟩=some _:=hc 1 _ rfl;simpa using e
      have cc2:wr.cell? ⟨g2,k*4+2,none⟩=some (.slice fR O G):=by have e:wr.cell? ⟨g2,0+k*4+2,none⟩=some _:=hc 2 _ rfl;simpa using e
      have cc3:wr.cell? ⟨g2,k*4+3,none⟩=some (.slice fV P H):=by have e:wr.cell? ⟨g2,0+k*4+3,none⟩=some _:=hc 3 _ rfl;simpa using e
      have K:x.2.2.1[k]?=some f:=(qh6 hlt).symm.trans hfx;have hfm:=zaf K;have HST:=zaa (qh8 (s:=s.2.2.2.1) K);obtain⟨Q,HW5⟩:∃wb,Hid (wb=wr.alloc (.cells #[.int .i64 f.1,.slice fL M F,.slice fR O G,.slice fV P H] 57)):=⟨_,rfl⟩;have y:Below wr.heap.size wr Q:=by rw[HW5.out];exact qm _ _
      have BY:Blk Q wr.heap.size 57 #[.int .i64 f.1,.slice fL M F,.slice fR O G,.slice fV P H]:=by rw[HW5.out];exact Blk.new _ _ _
      have hBr:B<=wr.heap.size:=by have:=U.lt;omega
      have hT5:=hT.trans (y.mono hBr);have hz5:=y.size;have hB5:B<=Q.heap.size:=by omega
      have HRF:Hid (∀c,Below Q.heap.size Q c->Calls Tryz.prog 87 #[.agg #[.int .i64 f.1,.slice fL M F,.slice fR O G,.slice fV P H],.slice A L R] c (FoE c (rnF s.2.2.2.1 f))):=fun c m=>
       qhv x.2.1 f s.2.2.2.1 HAX.out (HTR.out f hfm) HPM.out (HCF.out f hfm) fL M F fR O G fV P H A L R c fk (pfL.next qd (q9 y m rfl)) (pfR.next qd (q9 y m rfl)) (pfV.next qd (q9 y m rfl)) (HNM.out c (HTA.out c (hT5.trans (m.mono hB5))))
      have BG5:=U.next y;have hD5:=hD.next y;have BQ5:=BQr.next y;obtain⟨cY0,cY1,cY2,cY3⟩:=cl4 BY;have cO5:=BG5.cell 3;simp at cO5;have cN5:=BQ5.cell 6;simp at cN5;have V:=zaa (ql hOW y);have HD5:=zaa hD5;have HT5:=zaa hT5;have HKL:Hid (k<(rnTo x.2.2.1 s.2.2.2.1 k).length):=by show _<_;omega
      have xc0:=qe y cc0;have xc1:=qe y cc1;have xc2:=qe y cc2;have xc3:=qe y cc3;have l:Below Q.heap.size Q Q:=zab _ _;clear hOW hc hrf hfx K hfm hrd e2 e3 hD hD5 hPO2 I hap2 hT hT5 pfL pfR pfV fk;go_upto_region 22 with fail;rw[<-HW5.out];clear cc0 cc1 cc2 cc3
      first|(go_region_law (first
       |(go_simp;go_at_call 87;(with_reducible refine(HRF.out _ ?_).mono ?_);(first|exact l|exact zai l);rintro e1 w6 ⟨B1,d1,B2,d2,B3,d3,bk,rfl,hO6,hiv6,J⟩;have a:=q9 (zai (zab Q.heap.size Q)) J rfl;have hiv6':Iv Q.heap.size w6.heap.size bk:=hiv6;have yc0:=qe a xc0;have yc1:=qe a xc1;have yc2:=qe a xc2;have yc3:=qe a xc3;have yf0:=(ql V.out a).frozenAt (k*4);have yf1:=(ql V.out a).frozenAt (k*4+1);have yf2:=(ql V.out a).frozenAt (k*4+2);have yf3:=(ql V.out a).frozenAt (k*4+3);have zO:=qe a cO5;have zN:=qe a cN5)))|fail
      all_goals
       have PF:=HD5.out.putF a (k:=k) rfl HKL.out hO6 hiv6' hB5;have n:=zaa (zap (PF.2.2 (by decide) (BG5.next a)) (zap PF.1 (zap (HT5.out.trans PF.2.1) (PF.2.2 (by decide) (BQ5.next a)))));clear PF;go_wp2_with fail
       go_roundw
       case rel=>exact⟨k+1,by omega,by go_num,n.out.1,by rw[<-HST.out];exact n.out.2.1,n.out.2.2.1,n.out.2.2.2⟩
       case measure=>simp[intOf];omega
     .obtain rfl:k=x.2.2.1.length:=by omega
      have hk1:¬(x.2.2.1.length:Int)<(x.2.2.1.length:Int):=by omega
      have hTB:=HT0.out.trans hT;have HD:=zaa hD;have HBG:=zaa U;go_wp2_with fail;go_ret;exact⟨hTB,ze1 ⟨_,_,_,HM2.out,rfl,HBG.out,by rw[<-qh5];exact HD.out.w,HIN.out.1,HIN.out.2⟩⟩
theorem qgr (B:Nat) (ds:List Value) (x:LabM) (s:qw) (N w:World) (g:Nat) (v u:Value) (hg:B<=g) (k:Blk w g 27 #[.bool x.1,.int .i64 x.2.1.1,v,u,.int .i64 x.2.2.2]) (hD:LabD B w x v u) (aa:Below N.heap.size N w) (haB:N.heap.size<=B) (V:qn.rd N ds s) (hx:AlgP x.2.1) (Z:x.2.2.1.length<=12) (hr:0<=x.2.2.2/\x.2.2.2<=9999) (J:∀f∈x.2.2.1,q1l x.2.1 f=true) (Y:∀f∈x.2.2.1,qj.cnt f<=1048576) (hB:B<=w.heap.size) (a b:Nat) (o:s.2.2.2.2.1=(a:Int)) (p:s.2.2.2.2.2=(b:Int)) (c:s.1=3\/s.1=4):
  Calls Tryz.prog 45 #[.pointer (some ⟨g,0,none⟩),.agg ds.toArray] w (MkO B g x s w):=by
 obtain⟨j,L,G,H⟩:∃(j:Bool) (L:Int),s.1=L/\((L=3/\j=false)\/(L=4/\j=true)):=c.elim (fun h=>⟨false,3,h,.inl ⟨rfl,rfl⟩⟩) fun h=>⟨true,4,h,.inr ⟨rfl,rfl⟩⟩
 have r:=fun(i:World) (v u:Value) (h1:B<=i.heap.size) (h2:Blk i g 27 #[.bool x.1,.int .i64 x.2.1.1,v,u,.int .i64 x.2.2.2]) (h3:LabD B i x v u)=>qlm B x j L (by rcases H with⟨rfl,rfl⟩|⟨rfl,rfl⟩<;>decide) a b i g v u h1 hg h2 h3 hx Z hr J
 rcases H with⟨rfl,rfl⟩|⟨rfl,rfl⟩
 all_goals
  have z:=hD;have I:=V;obtain⟨AL,nL,cL,AR,nR,cR,AV,nV,cV,AS,nS,cS,rfl,pK,pT,pF,pL,pR,pV,pS,pA,pB⟩:=q1f V;obtain⟨css,bls,dss,cls,m,l,W⟩:=hD;obtain⟨A1,c1,rfl⟩:=qq m.2.1;obtain⟨A2,c2,rfl⟩:=qq l.2.1;obtain⟨i,K,q,d,BQ⟩:=q16 w #[.int .i64 s.1,.string s.2.1,.int .i64 s.2.2.1.1,.slice AL nL cL,.slice AR nR cR,.slice AV nV cV,.slice AS nS cS,.int .i64 s.2.2.2.2.1,.int .i64 s.2.2.2.2.2] 59;have R:=zaa K;have hgw:=k.lt;have BG:=k.next q;have D:=m.next q;have C:=l.next q;have TB:Below B w i:=q.mono (by omega);have Q:=zaa TB;have hs0:i.heap.size=w.heap.size+1:=d;obtain⟨cG0,cG1,cG2,cG3,cG4,fG0,fG1,fG2,fG3,fG4⟩:=cf5 BG;obtain⟨S,cQ1,cQ2,cQ3,cQ4,cQ5,cQ6,T,U⟩:=cl9 BQ;have O:Hid (makM x s=(twoF x s.1 (a:Int) (b:Int)).map (addF x)):=by
   show _=_
   unfold makM;rw[zaj (by rw[G];decide),zao (by rw[G];decide),o,p]
  have HC:=zaa (r i _ _ (by omega) BG (z.next q));rw[G]at S;rw[G]at O;rw[o]at T;rw[p]at U;clear G o p c r;clear K d V I m l D C W TB q pK pT pF pL pR pV pS pA pB k aa Y J hx z
  go_enter Tryz.func45,Tryz.ntmps45
  go_upto_region 1 with fail;rw[<-R.out];go_wp2_with fail;refine HC.out.mono ?_;rintro e w1 ⟨X,n⟩;have hT:=Q.out.trans X
  rcases n with⟨hn,rfl⟩|⟨y,v',u',hs,rfl,t,A,E,F⟩
  .have P:=zaa (O.out.trans hn)
   clear hn;go_wp2_with fail;go_ret;exact⟨hT,Or.inl ⟨P.out,rfl⟩⟩
  .have P:=zaa (O.out.trans hs)
   have M:=zaa (zap t (zap A (zap E F)));clear hs t A E F;go_wp2_with fail;go_ret;exact⟨hT,ze1 ⟨y,v',u',P.out,rfl,M.out.1,M.out.2.1,M.out.2.2.1,M.out.2.2.2⟩⟩
theorem qkv {s:qw} (h:q2j s=true):(s.1=3\/s.1=4->0<=s.2.2.2.2.1/\0<=s.2.2.2.2.2)/\(s.1=5->0<=s.2.2.2.2.1)/\1<=s.1/\s.1<=7:=by
 unfold q2j at h
 by_cases h1:s.1=1
 .exact⟨by omega,by omega,by omega,by omega⟩
 rw[zaj h1]at h
 by_cases h2:s.1=2
 .exact⟨by omega,by omega,by omega,by omega⟩
 rw[zaj h2]at h
 by_cases h3:s.1=3\/s.1=4
 .rw[zao h3,za4,za4,zbt,zbt]at h
  exact⟨fun _=>h.2,by omega,by omega,by omega⟩
 rw[zaj h3]at h
 by_cases h5:s.1=5
 .rw[zao h5,za4,zbt]at h
  exact⟨by omega,fun _=>h.2,by omega,by omega⟩
 rw[zaj h5]at h
 by_cases h6:s.1=6
 .exact⟨by omega,by omega,by omega,by omega⟩
 rw[zaj h6]at h
 by_cases h7:s.1=7
 .exact⟨by omega,by omega,by omega,by omega⟩
 rw[zaj h7]at h;cases h
theorem qdw (B:Nat) (l:List Value) (x:LabM) (s:qw) (q w:World) (g:Nat) (v u:Value) (I:B<=w.heap.size) (t:B<=g) (d:Blk w g 27 #[.bool x.1,.int .i64 x.2.1.1,v,u,.int .i64 x.2.2.2]) (r:LabD B w x v u) (k:Below q.heap.size q w) (n:q.heap.size<=B) (A:qn.rd q l s) (j:labB x=true) (N:x.1=true) (H:q2j s=true) (O:s.1≠1) (p:q19.cnt x<=1048576) (K:qn.cnt s<=1048576):
  Calls Tryz.prog 45 #[.pointer (some ⟨g,0,none⟩),.agg l.toArray] w (MkO B g x s w):=by
 obtain⟨h,i,f,F⟩:=q69 j;obtain⟨z,J,L,M⟩:=qkv H;have y:=F N;have m:=qn.stab A k.block;have o:qj.cnt s.2.2.1<=1048576:=by
  have e:qn.cnt s=0+(Sh.str.cnt s.2.1+(qj.cnt s.2.2.1+(s.2.2.2.1.length+(0+0)))):=rfl;omega
 rcases(by omega:s.1=2\/s.1=3\/s.1=4\/s.1=5\/s.1=6\/s.1=7)with c|c|c|c|c|c
 .exact qo8 B l x s w g v u t d r m y f ⟨h,i⟩ o c
 .obtain⟨C,D⟩:=z (.inl c)
  obtain⟨a,E⟩:=zam C;obtain⟨b,G⟩:=zam D;exact qgr B l x s q w g v u t d r k n A y f ⟨h,i⟩ (q5d j) (qc0 p) I a b E G (.inl c)
 .obtain⟨C,D⟩:=z (.inr c)
  obtain⟨a,E⟩:=zam C;obtain⟨b,G⟩:=zam D;exact qgr B l x s q w g v u t d r k n A y f ⟨h,i⟩ (q5d j) (qc0 p) I a b E G (.inr c)
 .exact qo9 B l x s w g v u t d r m y f ⟨h,i⟩ o c (J c)
 .exact qoa B l x s q w g v u t d r k n A y f ⟨h,i⟩ (q5d j) (qc0 p) c
 .exact qob B l x s w g v u t d r m y f ⟨h,i⟩ o c
theorem q4v (cs c:List Value) (x:LabM) (s:qw) (w:World) (h:q19.rd w cs x) (b:qge cs) (k:qn.rd w c s) (l:q19.cnt x<=1048576) (f:s.2.1.size<=1048576) (d:qn.cnt s<=1048576) (q:TabP w):
  Calls Tryz.prog 16 #[.agg cs.toArray,.agg c.toArray] w (OwA q2i w (slR x s) (slOk x s)):=
 qf9 cs c x s w h b k l f q fun m e i p B t g v u r j o a n=>qdw B c x s w t g v u (by have:=a.lt;omega) o a n r j k e p i m l d
theorem qm7 (B:Nat) (A:List Value) (x:LabM) (s:qw) (w:World) (q i:Option Addr) (z j:Nat) (W:B<=w.heap.size) (C:qn.rd w A s) (a:x.1=false) (D:s.1≠1):
  Calls Tryz.prog 28 #[.agg #[.bool x.1,.int .i64 x.2.1.1,.slice q x.2.1.2.length z,.slice i x.2.2.1.length j,.int .i64 x.2.2.2],.agg A.toArray] w (fun e w'=>BelO B (.slice i x.2.2.1.length j) w w'/\e=.returned (.tuple #[.agg #[.bool false,.int .i64 0,.slice none 0 0,.slice none 0 0,.int .i64 0],.bool false])):=by
 obtain⟨E,Z,I,F,nR,J,H,nV,L,G,nS,K,rfl,-,-,-,-,-,-,-,-,-⟩:=q1f C;obtain⟨w0,h,y,b,r,t,l⟩:=q41 w #[.bool x.1,.int .i64 x.2.1.1,.slice q x.2.1.2.length z,.slice i x.2.2.1.length j,.int .i64 x.2.2.2] #[.int .i64 s.1,.string s.2.1,.int .i64 s.2.2.1.1,.slice E Z I,.slice F nR J,.slice H nV L,.slice G nS K,.int .i64 s.2.2.2.2.1,.int .i64 s.2.2.2.2.2] #[.bool false,.int .i64 0,.slice none 0 0,.slice none 0 0,.int .i64 0] 27 59 27;have p:=zaa h;have n:=zaa y;have X:w0.heap.size=w.heap.size+3:=b;have d:=r.cell 0;have f:=t.cell 0;simp at d f;rw[a]at d;obtain⟨Y,c⟩:∃k,Hid (s.1=k):=⟨_,zaa rfl⟩;have hq:(Y==1)=false:=by rw[<-c.out];simp[D]
 rw[c.out]at f;have HM:Hid (True/\True):=⟨trivial,trivial⟩;clear D a h b C y
 go_enter Tryz.func28,zf8
 go_upto_region 1 with fail;rw[<-p.out];have m:=zaa (q18 l (.bool false) (.int .i64 0) (.slice none 0 0) (.slice none 0 0) (.int .i64 0));have o:=zaa (BelO.of (u:=.slice i x.2.2.1.length j) (q10 (n.out) (g:=w.heap.size+1+1) (by omega) (.bool false) (.int .i64 0) (.slice none 0 0) (.slice none 0 0) (.int .i64 0)) W);obtain⟨M,N,O,P,Q,R,S,T,U,V⟩:=cf5 l;clear l r t;go_wp2_with fail
 (try simp only[Exit.inBlock,Exit.then])
 refine zas (v:=.tuple #[.agg #[.bool false,.int .i64 0,.slice none 0 0,.slice none 0 0,.int .i64 0],.bool false]) ?hr rfl ?_
 case hr=>exact qp rfl _ _ (w.heap.size+1+1) 27 #[.bool false,.int .i64 0,.slice none 0 0,.slice none 0 0,.int .i64 0] (0,0) _ _ rfl m.out zbk rfl (by kernel_rfl) rfl
 exact⟨o.out,rfl⟩
noncomputable def fitO (y:LabM):Option LabM:=if y.2.2.1.length<=12/\y.2.2.2<=9999 then some y else none
noncomputable def spO (x:LabM) (s:qw):Option LabM:=if s.1=1 then ldO x s else if x.1=true then(makM x s).bind fitO else none
theorem qpe {x:LabM} {s:qw} (a:labB x=true) (b:q2j s=true):q96 x s=spO x s:=by
 unfold spO
 by_cases hk:s.1=1
 .rw[zao hk]
  unfold ldO
  by_cases ho:x.1=true
  .rw[zao ho]
   exact q3h fun h=>(h.2.2.1 ho) hk
  .rw[zaj ho]
   exact q8m ⟨a,b,fun h=>absurd h ho,fun h=>absurd hk h⟩ hk
 .rw[zaj hk]
  by_cases ho:x.1=true
  .rw[zao ho,q8n ⟨a,b,fun _=>hk,fun _=>ho⟩ hk]
   rfl
  .rw[zaj ho]
   exact q3h fun h=>ho (h.2.2.2 hk)
theorem qo5 {x y:LabM} {s:qw} (d:AlgP x.2.1) (k:0<=x.2.2.2/\x.2.2.2<=9999) (h:makM x s=some y):InR y.2.1.1/\InR y.2.2.2:=by
 have i:=d.1;have j:=d.2.1;have c:∀ {z:LabM},(z.2.1.1=x.2.1.1\/z.2.1.1=0)->(z.2.2.2=x.2.2.2\/z.2.2.2=x.2.2.2+1)->InR z.2.1.1/\InR z.2.2.2:=fun a b=>⟨⟨by omega,by omega⟩,⟨by omega,by omega⟩⟩
 unfold makM at h
 by_cases k2:s.1=2
 .rw[zao k2]at h
  injection h with h
  subst h
  split
  .exact c (.inl rfl) (.inl rfl)
  .exact c (.inl rfl) (.inr rfl)
 rw[zaj k2]at h
 by_cases k3:s.1=3\/s.1=4
 .rw[zao k3]at h
  obtain⟨f,-,rfl⟩:=zfb.1 h;obtain⟨-,e,g⟩:=qiu x f (.bool true);exact c (.inl (by rw[e])) (.inl g)
 rw[zaj k3]at h
 by_cases k5:s.1=5
 .rw[zao k5]at h
  split at h
  .injection h with h
   subst h;exact c (.inl rfl) (.inl rfl)
  .cases h
 rw[zaj k5]at h
 by_cases k6:s.1=6
 .rw[zao k6]at h
  split at h
  .injection h with h
   subst h;exact c (.inl rfl) (.inl rfl)
  .cases h
 rw[zaj k6]at h;injection h with h
 subst h;exact c (.inr rfl) (.inl rfl)
theorem LabPW.rdx {lo:Nat} {w:World} {x:LabM} {v u:Value} (h:LabPW lo w x v u) (t:InR x.2.1.1) (o:InR x.2.2.2) {g:Nat} (f:w.heap.size<=g\/∃cg,Blk w g 27 cg) {r:World} (p:∀b,lo<=b->b<w.heap.size->b≠g->r.heap[b]?=w.heap[b]?):
  q19.rd r [.bool x.1,.int .i64 x.2.1.1,v,u,.int .i64 x.2.2.2] x:=by
 obtain⟨s,bls,j,i,A,n,c,d,rfl,k,l,m,z⟩:=h;have y:q2i.own w [.bool x.1,.int .i64 x.2.1.1,v,.slice A n d,.int .i64 x.2.2.2] x ([]++((obl v++bls.flatten)++((obl (.slice A n c)++i.flatten)++ []))):=
  ⟨[_], [_,_,_,_], [],_,rfl,rfl,⟨_,rfl,rfl,rfl⟩,⟨[_,_], [_,_],_,_,rfl,rfl,l.algO t,⟨[_], [_],_, [],rfl,rfl,⟨A,n,c,d,j,i,rfl,k,m.1,rfl⟩,⟨_,rfl,⟨rfl,o.1,o.2⟩,rfl⟩⟩⟩⟩
 refine q2i.ord (q2i.osame y fun b a=>?_);rw[zch,zc3]at a
 rcases zat.1 a with a|a
 .have q:=l.2.2.2 b a
  refine p b q.1 q.2 fun e=>?_
  subst e
  rcases f with f|⟨cg,f⟩
  .omega
  .exact l.noB f (by decide) (by decide) a
 .have q:=m.2.2.2 b a
  refine p b q.1 q.2 fun e=>?_
  subst e
  rcases f with f|⟨cg,f⟩
  .omega
  .exact PGf.noB m f (by decide) (by decide) a
def SmE (B:Nat) (w:World) (x:LabM) (s:qw) (e:Ending) (w':World):Prop:=
 Below B w w'/\(∀g cg,Blk w g 27 cg->Blk w' g 27 cg)/\∃(b0:Bool) (z:Int) (A:Option Addr) (n c:Nat) (F:Option Addr) (m d:Nat) (r:Int),e=.returned (.tuple #[.agg #[.bool b0,.int .i64 z,.slice A n c,.slice F m d,.int .i64 r],.bool (spO x s).isSome])/\
  ∀y,spO x s=some y->∀w3 g,(w'.heap.size<=g\/∃cg,Blk w g 27 cg)->(∀b,B<=b->b<w'.heap.size->b≠g->w3.heap[b]?=w'.heap[b]?)->q19.rd w3 [.bool b0,.int .i64 z,.slice A n c,.slice F m d,.int .i64 r] y
theorem qgo {B:Nat} {A:Option Addr} {n c k:Nat} {xs:List Value} {w w':World} (d:w.ownsRow B 57 4 (.slice A n c) k xs) (h:BelO B (.slice A n c) w w') {g:Nat} {b:Array Value} (a:Blk w g 27 b):Blk w' g 27 b:=
 (h.2 g a.lt fun e=>q1q d a (by decide) (q1h.1 e)).trans a
theorem qpp {B:Nat} {w w':World} {x:LabM} {s:qw} {o:Option Addr} {p:Nat} {v:Value} {e:Ending} (G:LabD B w x v (.slice o x.2.2.1.length p)) (N:AlgP x.2.1) (M:0<=x.2.2.2/\x.2.2.2<=9999) (L:x.1=true) (K:s.1≠1) (h:LmE B (.slice o x.2.2.1.length p) w x s e w'):SmE B w x s e w':=by
 obtain⟨E,bls,F,D,H,k,I⟩:=G;obtain⟨l,J⟩:=h;have c:∀g d,Blk w g 27 d->Blk w' g 27 d:=fun g d i=>qgo k.2.1 l i
 have b:spO x s=(makM x s).bind fitO:=by unfold spO;rw[zaj K,zao L]
 rcases J with⟨q,rfl⟩|⟨y,R,Q,m,rfl,f⟩
 .refine⟨l.1,c,false,0,none,0,0,none,0,0,0,?_,fun y r=>?_⟩
  .rw[b,q];rfl
  .rw[b,q]at r;cases r
 .obtain⟨z,C,u,A,rfl,rfl,-⟩:=f.w.slices
  obtain⟨O,P⟩:=qo5 N M m;refine⟨l.1,c,y.1,y.2.1.1,z,y.2.1.2.length,C,u,y.2.2.1.length,A,y.2.2.2,?_,fun t j S g i n=>?_⟩
  .rw[b,m]
   have:((some y).bind fitO).isSome=(decide ((y.2.2.1.length:Int)<=12) &&decide (y.2.2.2<=9999)):=by
    show(fitO y).isSome=_;unfold fitO
    by_cases a:y.2.2.1.length<=12/\y.2.2.2<=9999
    .rw[zao a,zbm (by omega:(y.2.2.1.length:Int)<=12),zbm a.2];rfl
    .rw[zaj a]
     by_cases h12:y.2.2.1.length<=12
     .rw[zbn (fun h=>a ⟨h12,h⟩),zd9];rfl
     .rw[zbn (by omega:¬(y.2.2.1.length:Int)<=12)];rfl
   rw[this]
  .have e:y=t:=by
    rw[b,m]at j;have a:fitO y=some t:=j;unfold fitO at a
    split at a
    .injection a
    .cases a
   subst e;exact f.w.rdx O P (i.imp id fun⟨d,i⟩=>⟨d,c g d i⟩) n
theorem qjt (B:Nat) (i:List Value) (x:LabM) (s:qw) (S w:World) (v u:Value) (r:B<=w.heap.size) (p:LabD B w x v u) (Q:Below S.heap.size S w) (X:S.heap.size<=B) (h':qn.rd S i s) (l:labB x=true) (ad:q2j s=true) (Z:q19.cnt x<=1048576) (hcs:qn.cnt s<=1048576) (aa:s.2.1.size<=1048576):
  Calls Tryz.prog 28 #[.agg #[.bool x.1,.int .i64 x.2.1.1,v,u,.int .i64 x.2.2.2],.agg i.toArray] w (SmE B w x s):=by
 obtain⟨ab,ac,m,A⟩:=q69 l;obtain⟨M,h5,hk1,hk7⟩:=qkv ad;have f:=qn.stab h' Q.block;have Y:qj.cnt s.2.2.1<=1048576:=by
  have e:qn.cnt s=0+(Sh.str.cnt s.2.1+(qj.cnt s.2.2.1+(s.2.2.2.1.length+(0+0)))):=rfl;omega
 have i1:InR x.2.1.1:=by
  cases ho:x.1 with
  |true=>have:=(A ho).1;have:=(A ho).2.1;exact⟨by omega,by omega⟩
  |false=>rw[(qm6 l ho).1];exact⟨by decide,by decide⟩
 have i2:InR x.2.2.2:=⟨by omega,by omega⟩;obtain⟨H,I,D,E,rfl,rfl,-⟩:=p.w.slices
 by_cases hk:s.1=1
 .have z:∀ {wz:World},LabD B wz x (.slice H x.2.1.2.length I) (.slice D x.2.2.1.length E)->q19.rd wz [.bool x.1,.int .i64 x.2.1.1,.slice H x.2.1.2.length I,.slice D x.2.2.1.length E,.int .i64 x.2.2.2] x:=fun h=>h.w.rdx i1 i2 (g:=_) (.inl (zad _)) fun b _ _ _=>rfl
  refine(qeo _ i x s w (z p) f hk aa).mono ?_;rintro e w' ⟨cs,rfl,O,j⟩;have K:=p.next j;obtain⟨Bo,kk,d,F,n,c,N,-,-,-,-⟩:=q3j (O w' (z K) fun b _ _=>rfl);subst N;have o:spO x s=ldO x s:=by unfold spO;rw[zao hk]
  refine⟨j.mono r,fun g T k=>k.next j,(ldR x s).1,(ldR x s).2.1.1,Bo,kk,d,F,n,c,(ldR x s).2.2.2,by rw[o];rfl,fun y R w3 g k P=>?_⟩;rw[o]at R;have ae:=(qjs R).1;have t:=O w3 (K.w.rdx i1 i2 (k.imp id fun⟨T,k⟩=>⟨T,k.next j⟩) P) fun b h1 h2=>P b (by omega) h2 fun e=>by
   subst e
   rcases k with k|⟨T,k⟩
   .omega
   .have:=k.lt;omega
  rw[ae]at t⊢;exact t
 .cases ho:x.1 with
  | false =>
    have h := qm7 B i x s w H D I E r f ho hk;rw [ho] at h;refine h.mono ?_;rintro e w' ⟨j, rfl⟩;have o : spO x s = none := by unfold spO; rw [zaj hk, zaj (by rw [ho]; decide)]
    obtain ⟨css, bls, dss, cls, hPO, W, hap⟩ := p;exact ⟨j.1, fun g T k => qgo W.2.1 j k, false, 0, none, 0, 0, none, 0, 0, 0, by rw [o]; rfl, fun y R => by rw [o] at R; cases R⟩
  | true =>
    have G := A ho;have C : 0 <= x.2.2.2 /\ x.2.2.2 <= 9999 := ⟨ab, ac⟩;have J : Calls Tryz.prog 28 #[.agg #[.bool x.1, .int .i64 x.2.1.1, .slice H x.2.1.2.length I, .slice D x.2.2.1.length E, .int .i64 x.2.2.2], .agg i.toArray] w (LmE B (.slice D x.2.2.1.length E) w x s) := by
      rcases (by omega : s.1 = 2 \/ s.1 = 3 \/ s.1 = 4 \/ s.1 = 5 \/ s.1 = 6 \/ s.1 = 7) with q | q | q | q | q | q
      . exact qm8 B i x s w _ _ r p f ho G m C Y q
      . obtain ⟨U, V⟩ := M (.inl q)
        obtain ⟨a, L⟩ := zam U;obtain ⟨b, j⟩ := zam V;exact qdu B i x s w _ _ r p f ho G m C (q5d l) a b L j (.inl q)
      . obtain ⟨U, V⟩ := M (.inr q)
        obtain ⟨a, L⟩ := zam U;obtain ⟨b, j⟩ := zam V;exact qdu B i x s w _ _ r p f ho G m C (q5d l) a b L j (.inr q)
      . obtain ⟨a, L⟩ := zam (h5 q)
        exact qm9 B i x s w _ _ r p f ho G m C q a L
      . exact qma B i x s w _ _ r p S Q X h' ho G m C (q5d l) (qc0 Z) q
      . exact qmb B i x s w H D _ I _ E r f ho C q
    rw [ho] at J;exact J.mono fun e w' h => qpp p G C ho hk h
theorem q6y (cs ds:List Value) (x:LabM) (s:qw) (w:World) (h:q19.rd w cs x) (h':qn.rd w ds s) (hn:q19.cnt x<=1048576) (hn':s.2.1.size<=1048576) (hcs:qn.cnt s<=1048576):
  Calls Tryz.prog 13 #[.agg cs.toArray,.agg ds.toArray] w (RdK q19 (fun _=>True) w (slR x s) (slOk x s)):=by
 have hrd:=h;have hrd':=h';obtain⟨Bo,k,d,F,n,c,rfl,-,-,-,-⟩:=q3j h;obtain⟨AL,nL,cL,AR,nR,cR,AV,nV,cV,AS,nS,cS,rfl,-,-,-,-,-,-,-,-,-⟩:=q1f h';obtain⟨w0,hw0,T0,hsz0,j,l,BZ⟩:=q41 w #[.bool x.1,.int .i64 x.2.1.1,.slice Bo k d,.slice F n c,.int .i64 x.2.2.2] #[.int .i64 s.1,.string s.2.1,.int .i64 s.2.2.1.1,.slice AL nL cL,.slice AR nR cR,.slice AV nV cV,.slice AS nS cS,.int .i64 s.2.2.2.2.1,.int .i64 s.2.2.2.2.2] #[.bool false,.int .i64 0,.slice none 0 0,.slice none 0 0,.int .i64 0] 27 59 27;have HW0:=zaa hw0;have hs0:w0.heap.size=w.heap.size+3:=hsz0;have HT0:=zaa T0;have HIL:=zaa (qfh _ x w0 (q19.stab hrd T0.block));have HIS:Hid (∀wz,Below w0.heap.size w0 wz->Calls Tryz.prog 35 #[.agg #[.int .i64 s.1,.string s.2.1,.int .i64 s.2.2.1.1,.slice AL nL cL,.slice AR nR cR,.slice AV nV cV,.slice AS nS cS,.int .i64 s.2.2.2.2.1,.int .i64 s.2.2.2.2.2]] wz (Bl wz (.bool (q2j s)))):=fun wz hz=>qfj _ s wz (qn.stab (qn.stab hrd' T0.block) hz.block)
 have HOWN:Hid (∀wz,Below w0.heap.size w0 wz->Calls Tryz.prog 36 #[.agg #[.bool x.1,.int .i64 x.2.1.1,.slice Bo k d,.slice F n c,.int .i64 x.2.2.2]] wz (qot wz x)):=fun wz hz=>qi3 _ x wz (q19.stab (q19.stab hrd T0.block) hz.block) hn
 have HSD:=zaa hrd';have N:Hid (q19.cnt x<=1048576/\qn.cnt s<=1048576/\s.2.1.size<=1048576):=⟨hn,hcs,hn'⟩;obtain⟨cP0,cP1,cP2,cP3,cP4⟩:=cl5 j;obtain⟨cQ0,cQ1,cQ2,cQ3,cQ4,cQ5,cQ6,cQ7,cQ8⟩:=cl9 l;obtain⟨lb,ad⟩:∃b,Hid (labB x=b):=⟨_,zaa rfl⟩;obtain⟨sb,ae⟩:∃b,Hid (q2j s=b):=⟨_,zaa rfl⟩;rw[ad.out]at HIL;rw[ae.out]at HIS;clear hw0 hsz0 h h' hrd hrd' hn hn' hcs T0
 go_enter Tryz.func13,Tryz.ntmps13
 go_upto_region 1 with fail;rw[<-HW0.out];go_wp2_with fail;refine HIL.out.mono ?_;rintro e w1 ⟨rfl,ah⟩;have am:=BZ.next ah;have T1:=q9 HT0.out ah rfl
 rcases lb with _|_
 .have HE:=zaa (q4c (q3h (x:=x) (s:=s) (fun h=>by rw[ad.out]at h;exact absurd h.1 (by decide))))
  have Y:=zaa (q18 am (.bool false) (.int .i64 0) (.slice none 0 0) (.slice none 0 0) (.int .i64 0));have Z:=zaa (q10 (T1) (g:=w.heap.size+1+1) (by omega) (.bool false) (.int .i64 0) (.slice none 0 0) (.slice none 0 0) (.int .i64 0));obtain⟨cZ0,cZ1,cZ2,cZ3,cZ4,fZ0,fZ1,fZ2,fZ3,fZ4⟩:=cf5 am;clear am T1 j l BZ;go_wp2_with fail
  (try simp only[Exit.inBlock,Exit.then])
  refine zas (v:=.tuple #[.agg #[.bool false,.int .i64 0,.slice none 0 0,.slice none 0 0,.int .i64 0],.bool false]) ?hr rfl ?_
  case hr=>exact qp rfl _ _ (w.heap.size+1+1) 27 #[.bool false,.int .i64 0,.slice none 0 0,.slice none 0 0,.int .i64 0] (0,0) _ _ rfl Y.out zbk rfl (by kernel_rfl) rfl
  exact⟨_,by rw[HE.out.2],fun w4 _ _=>by rw[HE.out.1];exact qcl _,Z.out⟩
 .
  have zkk:=kk9 ah cQ0 cQ1 cQ2 cQ3 cQ4 cQ5 cQ6 cQ7 cQ8;clear cQ0 cQ1 cQ2 cQ3 cQ4 cQ5 cQ6 cQ7 cQ8;obtain⟨cQ0,cQ1,cQ2,cQ3,cQ4,cQ5,cQ6,cQ7,cQ8⟩:=zkk;go_wp2_with fail;refine(HIS.out w1 ah).mono ?_;rintro e X ⟨rfl,hb2⟩;have T2:=q9 T1 hb2 rfl;have W:=q9 ah hb2 rfl;have BZ2:=am.next hb2;clear am BZ
  rcases sb with _|_
  .have HE:=zaa (q4c (q3h (x:=x) (s:=s) (fun h=>by rw[ae.out]at h;exact absurd h.2.1 (by decide))))
   have Y:=zaa (q18 BZ2 (.bool false) (.int .i64 0) (.slice none 0 0) (.slice none 0 0) (.int .i64 0));have Z:=zaa (q10 (T2) (g:=w.heap.size+1+1) (by omega) (.bool false) (.int .i64 0) (.slice none 0 0) (.slice none 0 0) (.int .i64 0));obtain⟨cZ0,cZ1,cZ2,cZ3,cZ4,fZ0,fZ1,fZ2,fZ3,fZ4⟩:=cf5 BZ2;clear BZ2 T2 j l;go_wp2_with fail
   (try simp only[Exit.inBlock,Exit.then])
   refine zas (v:=.tuple #[.agg #[.bool false,.int .i64 0,.slice none 0 0,.slice none 0 0,.int .i64 0],.bool false]) ?hr rfl ?_
   case hr=>exact qp rfl _ _ (w.heap.size+1+1) 27 #[.bool false,.int .i64 0,.slice none 0 0,.slice none 0 0,.int .i64 0] (0,0) _ _ rfl Y.out zbk rfl (by kernel_rfl) rfl
   exact⟨_,by rw[HE.out.2],fun w4 _ _=>by rw[HE.out.1];exact qcl _,Z.out⟩
  .have HSP:=zaa (qpe ad.out ae.out)
   have HT2:=zaa T2;have HB12:=zaa W;have hz2:w0.heap.size<=X.heap.size:=W.size;replace j:=j.next W;replace l:=l.next W;have G:=zaa (zap j l);have i:Below X.heap.size X X:=zab _ _;clear T1 ah hb2 W T2;go_upto_region 3 with fail
   go_cut [6,7]from 6 to 23 (fun u6 u7 wx=>∃(g6:Nat) (o:Bool) (p:Int) (r:Option Addr) (t u:Nat) (z:Option Addr) (A B:Nat) (C:Int),u6=.pointer (some ⟨g6,0,none⟩)/\u7=.bool (spO x s).isSome/\Blk wx g6 27 #[.bool o,.int .i64 p,.slice r t u,.slice z A B,.int .i64 C]/\(∀y,spO x s=some y->∀w3,(∀b,X.heap.size<=b->b<wx.heap.size->w3.heap[b]?=wx.heap[b]?)->q19.rd w3 [.bool o,.int .i64 p,.slice r t u,.slice z A B,.int .i64 C] y)/\Below X.heap.size X wx)
   case first=>
    refine zb1 (S:=fun w'=>Blk w' w.heap.size 27 #[.bool x.1,.int .i64 x.2.1.1,.slice Bo k d,.slice F n c,.int .i64 x.2.2.2]/\Blk w' (w.heap.size+1) 59 #[.int .i64 s.1,.string s.2.1,.int .i64 s.2.2.1.1,.slice AL nL cL,.slice AR nR cR,.slice AV nV cV,.slice AS nS cS,.int .i64 s.2.2.2.2.1,.int .i64 s.2.2.2.2.2]) (by kernel_rfl) ⟨j,l⟩ (fun hHeld0=>?_);obtain⟨m,Hwt1⟩:∃x,Hid (x=World.drew X):=⟨_,rfl⟩;have O:Below X.heap.size X m:=by rw[Hwt1.out];exact(zab _ _).drew
    rw[<-Hwt1.out]at hHeld0⊢;have ywt1:=O.size;replace i:=q9 i O rfl;replace j:=j.next O;replace l:=l.next O;refine tk 0 (.agg #[.bool x.1,.int .i64 x.2.1.1,.slice Bo k d,.slice F n c,.int .i64 x.2.2.2]) rfl (.inl ⟨by kernel_rfl,fun wv hSw=>by(obtain⟨ag,L⟩:=hSw);have c0:=ag.cell 0;have c1:=ag.cell 1;have c2:=ag.cell 2;have c3:=ag.cell 3;have c4:=ag.cell 4;simp at c0 c1 c2 c3 c4;go_simp⟩) ?_;refine tk 2 (.agg #[.int .i64 s.1,.string s.2.1,.int .i64 s.2.2.1.1,.slice AL nL cL,.slice AR nR cR,.slice AV nV cV,.slice AS nS cS,.int .i64 s.2.2.2.2.1,.int .i64 s.2.2.2.2.2]) rfl (.inl ⟨by kernel_rfl,fun wv hSw=>by(obtain⟨ag,L⟩:=hSw);have c0:=L.cell 0;have c1:=L.cell 1;have c2:=L.cell 2;have c3:=L.cell 3;have c4:=L.cell 4;have c5:=L.cell 5;have c6:=L.cell 6;have c7:=L.cell 7;have c8:=L.cell 8;simp at c0 c1 c2 c3 c4 c5 c6 c7 c8;go_simp⟩) ?_
    (try simp only[Act.put,zA,zB,zC,zD,zE,zF])
    refine r2 1 7 rfl (fun K hK=>?_) rfl (fun K hK=>?_)
    .go_simp
     go_at_call 36
     refine(HOWN.out _ (q9 HB12.out i rfl)).mono ?_;rintro e E ⟨v4,u4,rfl,af,P⟩;go_wp2_with fail;have ywt2:=P.size;replace i:=q9 i P rfl;replace j:=j.next P;replace l:=l.next P;refine hK.out _ _ ⟨j,l⟩ (fun hHeld1=>?_);clear hK K hHeld0
     (try simp only[Act.put,zA,zB,zC,zD,zE,zF])
     refine r2 3 7 rfl (fun K hK=>?_) rfl (fun K hK=>?_)
     .go_simp
      go_at_call 28
      refine(qjt (m.heap.size) _ x s w _ v4 u4 (by omega) af (q9 HT2.out i rfl) (by omega) HSD.out ad.out ae.out N.out.1 N.out.2.1 N.out.2.2).mono ?_;rintro e f ⟨ai,hkp,o,p,r,t,u,z,A,B,C,rfl,J⟩;have ywt3:=ai.size;replace i:=i.trans (ai.mono (by omega));have TM:=zab f.heap.size f;replace j:=G.out.1.next i;replace l:=G.out.2.next i;go_wp2_with fail;refine hK.out _ _ ⟨j,l⟩ (fun hHeld2=>?_);clear hK K hHeld1;refine tp 4 (.tuple #[.agg #[.bool o,.int .i64 p,.slice r t u,.slice z A B,.int .i64 C],.bool (spO x s).isSome]) rfl ?_;refine tp 5 (.agg #[.bool o,.int .i64 p,.slice r t u,.slice z A B,.int .i64 C]) rfl ?_;refine tp 6 (.bool (spO x s).isSome) rfl ?_
      (try simp only[Act.put,zA,zB,zC,zD,zE,zF])
      refine r1 7 rfl (fun K hK=>?_);go_simp;obtain⟨wt4,Hwt4⟩:∃x,Hid (x=f.alloc (.cells #[.bool false,.int .i64 0,.slice none 0 0,.slice none 0 0,.int .i64 0] 27)):=⟨_,zaa rfl⟩;rw[<-Hwt4.out];have Q:Below f.heap.size f wt4:=by rw[Hwt4.out];exact qm _ _
      have Bwt4:Blk wt4 f.heap.size 27 #[.bool false,.int .i64 0,.slice none 0 0,.slice none 0 0,.int .i64 0]:=by rw[Hwt4.out];exact Blk.new _ _ _
      replace i:=q9 i Q rfl;replace TM:=q9 TM Q rfl;replace j:=j.next Q;replace l:=l.next Q;refine hK.out _ _ ⟨j,l⟩ (fun hHeld3=>?_);clear hK K hHeld2
      (try simp only[Act.put,zA,zB,zC,zD,zE,zF])
      refine r1 8 rfl (fun K hK=>?_);obtain⟨gC0,gC1,gC2,gC3,gC4,gF0,gF1,gF2,gF3,gF4⟩:=cf5 Bwt4;go_simp;obtain⟨wt5,U⟩:∃wq,Hid (wq=(((((wt4.setCell ⟨f.heap.size,0,none⟩ (.bool o)).setCell ⟨f.heap.size,1,none⟩ (.int .i64 p)).setCell ⟨f.heap.size,2,none⟩ (.slice r t u)).setCell ⟨f.heap.size,3,none⟩ (.slice z A B)).setCell ⟨f.heap.size,4,none⟩ (.int .i64 C))):=⟨_,zaa rfl⟩;rw[<-U.out];have ak:Blk wt5 (f.heap.size) 27 #[.bool o,.int .i64 p,.slice r t u,.slice z A B,.int .i64 C]:=by rw[U.out];exact q18 Bwt4 (.bool o) (.int .i64 p) (.slice r t u) (.slice z A B) (.int .i64 C)
      have Tf:Below X.heap.size X wt5:=by rw[U.out];exact q10 i (by omega) (.bool o) (.int .i64 p) (.slice r t u) (.slice z A B) (.int .i64 C)
      have hKx:∀b,b<f.heap.size->b≠f.heap.size->wt5.heap[b]?=f.heap[b]?:=fun b hb a=>by
       rw[U.out,zal _ ⟨f.heap.size,4,none⟩ _ b a,zal _ ⟨f.heap.size,3,none⟩ _ b a,zal _ ⟨f.heap.size,2,none⟩ _ b a,zal _ ⟨f.heap.size,1,none⟩ _ b a,zal _ ⟨f.heap.size,0,none⟩ _ b a]
       try exact TM.block b hb
      have hzx:f.heap.size<=wt5.heap.size:=by rw[U.out];first|(simp;done)|(simp;exact TM.size)
      replace i:=Tf;replace j:=G.out.1.next i;replace l:=G.out.2.next i;refine hK.out _ _ ⟨j,l⟩ (fun hHeld4=>?_);clear hK K hHeld3;refine tp 9 (.bool (spO x s).isSome) rfl ?_
      (try simp only[Act.put,zA,zB,zC,zD,zE,zF])
      refine zbg (by kernel_rfl) ?_ _;go_wp2_with fail;go_meet;exact⟨_,o,p,r,t,u,z,A,B,C,rfl,rfl,ak,fun y hy w3 hw3=>J y hy w3 (f.heap.size) (.inl (by omega)) (fun b h1 h2 a=>(hw3 b (by omega) (by omega)).trans (hKx b h2 a)),Tf⟩
     .go_simp
      obtain⟨wt6,Hwt6,R,T,zwt6⟩:=al E #[.bool false,.int .i64 0,.slice none 0 0,.slice none 0 0,.int .i64 0] 27;rw[<-Hwt6.out];replace i:=q9 i R rfl;replace af:=af.next R;replace j:=j.next R;replace l:=l.next R;refine hK.out _ _ ⟨j,l⟩ (fun hHeld2=>?_);clear hK K hHeld1
      (try simp only[Act.put,zA,zB,zC,zD,zE,zF])
      refine r1 3 rfl (fun K hK=>?_);go_simp;have BC:=T
      go_at_call 28
      refine(qjt (m.heap.size) _ x s w _ v4 u4 (by omega) af (q9 HT2.out i rfl) (by omega) HSD.out ad.out ae.out N.out.1 N.out.2.1 N.out.2.2).mono ?_;rintro e aj ⟨ai,hkp,o,p,r,t,u,z,A,B,C,rfl,J⟩;replace i:=i.trans (ai.mono (by omega));have TM:=zab aj.heap.size aj;replace j:=G.out.1.next i;replace l:=G.out.2.next i;replace T:=hkp _ _ T;go_wp2_with fail;refine hK.out _ _ ⟨j,l⟩ (fun hHeld3=>?_);clear hK K hHeld2;refine tp 4 (.tuple #[.agg #[.bool o,.int .i64 p,.slice r t u,.slice z A B,.int .i64 C],.bool (spO x s).isSome]) rfl ?_;refine tp 5 (.agg #[.bool o,.int .i64 p,.slice r t u,.slice z A B,.int .i64 C]) rfl ?_;refine tp 6 (.bool (spO x s).isSome) rfl ?_
      (try simp only[Act.put,zA,zB,zC,zD,zE,zF])
      refine r1 8 rfl (fun K hK=>?_);obtain⟨gC0,gC1,gC2,gC3,gC4,gF0,gF1,gF2,gF3,gF4⟩:=cf5 T;go_simp;obtain⟨wt8,V⟩:∃wq,Hid (wq=(((((aj.setCell ⟨E.heap.size,0,none⟩ (.bool o)).setCell ⟨E.heap.size,1,none⟩ (.int .i64 p)).setCell ⟨E.heap.size,2,none⟩ (.slice r t u)).setCell ⟨E.heap.size,3,none⟩ (.slice z A B)).setCell ⟨E.heap.size,4,none⟩ (.int .i64 C))):=⟨_,zaa rfl⟩;rw[<-V.out];have ak:Blk wt8 (E.heap.size) 27 #[.bool o,.int .i64 p,.slice r t u,.slice z A B,.int .i64 C]:=by rw[V.out];exact q18 T (.bool o) (.int .i64 p) (.slice r t u) (.slice z A B) (.int .i64 C)
      have Tf:Below X.heap.size X wt8:=by rw[V.out];exact q10 i (by omega) (.bool o) (.int .i64 p) (.slice r t u) (.slice z A B) (.int .i64 C)
      have hKx:∀b,b<aj.heap.size->b≠E.heap.size->wt8.heap[b]?=aj.heap[b]?:=fun b hb a=>by
       rw[V.out,zal _ ⟨E.heap.size,4,none⟩ _ b a,zal _ ⟨E.heap.size,3,none⟩ _ b a,zal _ ⟨E.heap.size,2,none⟩ _ b a,zal _ ⟨E.heap.size,1,none⟩ _ b a,zal _ ⟨E.heap.size,0,none⟩ _ b a]
       try exact TM.block b hb
      have hzx:aj.heap.size<=wt8.heap.size:=by rw[V.out];first|(simp;done)|(simp;exact TM.size)
      replace i:=Tf;replace j:=G.out.1.next i;replace l:=G.out.2.next i;refine hK.out _ _ ⟨j,l⟩ (fun hHeld4=>?_);clear hK K hHeld3;refine tp 9 (.bool (spO x s).isSome) rfl ?_
      (try simp only[Act.put,zA,zB,zC,zD,zE,zF])
      refine zbg (by kernel_rfl) ?_ _;go_wp2_with fail;go_meet;exact⟨_,o,p,r,t,u,z,A,B,C,rfl,rfl,ak,fun y hy w3 hw3=>J y hy w3 (E.heap.size) (.inr ⟨_,BC⟩) (fun b h1 h2 a=>(hw3 b (by omega) (by omega)).trans (hKx b h2 a)),Tf⟩
    .go_simp
     obtain⟨wt9,Hwt9,aa,H,zwt9⟩:=al m #[.bool false,.int .i64 0,.slice none 0 0,.slice none 0 0,.int .i64 0] 27;rw[<-Hwt9.out];replace i:=q9 i aa rfl;replace j:=j.next aa;replace l:=l.next aa;refine hK.out _ _ ⟨j,l⟩ (fun hHeld1=>?_);clear hK K hHeld0
     (try simp only[Act.put,zA,zB,zC,zD,zE,zF])
     refine r1 1 rfl (fun K hK=>?_);go_simp
     go_at_call 36
     refine(HOWN.out _ (q9 HB12.out i rfl)).mono ?_;rintro e wt10 ⟨v4,u4,rfl,af,D⟩;go_wp2_with fail;have ywt10:=D.size;replace i:=q9 i D rfl;replace H:=H.next D;replace j:=j.next D;replace l:=l.next D;refine hK.out _ _ ⟨j,l⟩ (fun hHeld2=>?_);clear hK K hHeld1
     (try simp only[Act.put,zA,zB,zC,zD,zE,zF])
     refine r1 3 rfl (fun K hK=>?_);go_simp;have BC:=H
     go_at_call 28
     refine(qjt (wt9.heap.size) _ x s w _ v4 u4 (by omega) af (q9 HT2.out i rfl) (by omega) HSD.out ad.out ae.out N.out.1 N.out.2.1 N.out.2.2).mono ?_;rintro e M ⟨ai,hkp,o,p,r,t,u,z,A,B,C,rfl,J⟩;replace i:=i.trans (ai.mono (by omega));have TM:=zab M.heap.size M;replace j:=G.out.1.next i;replace l:=G.out.2.next i;replace H:=hkp _ _ H;go_wp2_with fail;refine hK.out _ _ ⟨j,l⟩ (fun hHeld3=>?_);clear hK K hHeld2;refine tp 4 (.tuple #[.agg #[.bool o,.int .i64 p,.slice r t u,.slice z A B,.int .i64 C],.bool (spO x s).isSome]) rfl ?_;refine tp 5 (.agg #[.bool o,.int .i64 p,.slice r t u,.slice z A B,.int .i64 C]) rfl ?_;refine tp 6 (.bool (spO x s).isSome) rfl ?_
     (try simp only[Act.put,zA,zB,zC,zD,zE,zF])
     refine r1 8 rfl (fun K hK=>?_);obtain⟨gC0,gC1,gC2,gC3,gC4,gF0,gF1,gF2,gF3,gF4⟩:=cf5 H;go_simp;obtain⟨ab,I⟩:∃wq,Hid (wq=(((((M.setCell ⟨m.heap.size,0,none⟩ (.bool o)).setCell ⟨m.heap.size,1,none⟩ (.int .i64 p)).setCell ⟨m.heap.size,2,none⟩ (.slice r t u)).setCell ⟨m.heap.size,3,none⟩ (.slice z A B)).setCell ⟨m.heap.size,4,none⟩ (.int .i64 C))):=⟨_,zaa rfl⟩;rw[<-I.out];have ak:Blk ab (m.heap.size) 27 #[.bool o,.int .i64 p,.slice r t u,.slice z A B,.int .i64 C]:=by rw[I.out];exact q18 H (.bool o) (.int .i64 p) (.slice r t u) (.slice z A B) (.int .i64 C)
     have Tf:Below X.heap.size X ab:=by rw[I.out];exact q10 i (by omega) (.bool o) (.int .i64 p) (.slice r t u) (.slice z A B) (.int .i64 C)
     have hKx:∀b,b<M.heap.size->b≠m.heap.size->ab.heap[b]?=M.heap[b]?:=fun b hb a=>by
      rw[I.out,zal _ ⟨m.heap.size,4,none⟩ _ b a,zal _ ⟨m.heap.size,3,none⟩ _ b a,zal _ ⟨m.heap.size,2,none⟩ _ b a,zal _ ⟨m.heap.size,1,none⟩ _ b a,zal _ ⟨m.heap.size,0,none⟩ _ b a]
      try exact TM.block b hb
     have hzx:M.heap.size<=ab.heap.size:=by rw[I.out];first|(simp;done)|(simp;exact TM.size)
     replace i:=Tf;replace j:=G.out.1.next i;replace l:=G.out.2.next i;refine hK.out _ _ ⟨j,l⟩ (fun hHeld4=>?_);clear hK K hHeld3;refine tp 9 (.bool (spO x s).isSome) rfl ?_
     (try simp only[Act.put,zA,zB,zC,zD,zE,zF])
     refine zbg (by kernel_rfl) ?_ _;go_wp2_with fail;go_meet;exact⟨_,o,p,r,t,u,z,A,B,C,rfl,rfl,ak,fun y hy w3 hw3=>J y hy w3 (m.heap.size) (.inr ⟨_,BC⟩) (fun b h1 h2 a=>(hw3 b (by omega) (by omega)).trans (hKx b h2 a)),Tf⟩
   case rest=>
    obtain⟨g6,o,p,r,t,u,z,A,B,C,rfl,rfl,BX,J,hb3⟩:=hcut;obtain⟨w3,HWC⟩:∃wq:World,wq=wc:=⟨_,rfl⟩;subst HWC;have ac:=BZ2.next hb3;have T3:=q9 HT2.out hb3 rfl;obtain⟨cX0,cX1,cX2,cX3,cX4⟩:=cl5 BX;obtain⟨so,HSO⟩:∃q,Hid (spO x s=q):=⟨_,zaa rfl⟩;rw[HSO.out]at J HSP;cases so with
    | none =>
      have HE := zaa (q4c HSP.out);clear cP0 cP1 cP2 cP3 cP4 cQ0 cQ1 cQ2 cQ3 cQ4 cQ5 cQ6 cQ7 cQ8 j l;have Y := zaa (q18 ac (.bool false) (.int .i64 0) (.slice none 0 0) (.slice none 0 0) (.int .i64 0));have Z := zaa (q10 (T3) (g := w.heap.size + 1 + 1) (by omega) (.bool false) (.int .i64 0) (.slice none 0 0) (.slice none 0 0) (.int .i64 0));obtain ⟨cZ0, cZ1, cZ2, cZ3, cZ4, fZ0, fZ1, fZ2, fZ3, fZ4⟩ := cf5 ac;rw [HSO.out];clear ac T3 BX J;go_wp2_with fail
      (try simp only [Exit.inBlock, Exit.then])
      refine zas (v := .tuple #[.agg #[.bool false, .int .i64 0, .slice none 0 0, .slice none 0 0, .int .i64 0], .bool false]) ?hr rfl ?_
      case hr => exact qp rfl _ _ (w.heap.size + 1 + 1) 27 #[.bool false, .int .i64 0, .slice none 0 0, .slice none 0 0, .int .i64 0] (0, 0) _ _ rfl Y.out zbk rfl (by kernel_rfl) rfl
      exact ⟨_, by rw [HE.out.2], fun w4 _ _ => by rw [HE.out.1]; exact qcl _, Z.out⟩
    | some y =>
      have HE := zaa (qco HSP.out);have HRD := zaa (J y rfl);have Y := zaa (q18 ac (.bool o) (.int .i64 p) (.slice r t u) (.slice z A B) (.int .i64 C));have Z := zaa (q10 T3 (g := w.heap.size + 1 + 1) (by omega) (.bool o) (.int .i64 p) (.slice r t u) (.slice z A B) (.int .i64 C));clear cP0 cP1 cP2 cP3 cP4 cQ0 cQ1 cQ2 cQ3 cQ4 cQ5 cQ6 cQ7 cQ8 j l;obtain ⟨cZ0, cZ1, cZ2, cZ3, cZ4, fZ0, fZ1, fZ2, fZ3, fZ4⟩ := cf5 ac;rw [HSO.out];clear ac T3 BX J;go_wp2_with fail
      (try simp only [Exit.inBlock, Exit.then])
      refine zas (v := .tuple #[.agg #[.bool o, .int .i64 p, .slice r t u, .slice z A B, .int .i64 C], .bool true]) ?hr rfl ?_
      case hr => exact qp rfl _ _ (w.heap.size + 1 + 1) 27 #[.bool o, .int .i64 p, .slice r t u, .slice z A B, .int .i64 C] (0, 0) _ _ rfl Y.out zbk rfl (by kernel_rfl) rfl
      refine ⟨[.bool o, .int .i64 p, .slice r t u, .slice z A B, .int .i64 C], by rw [HE.out.2], fun w4 _ hw4 => ?_, Z.out⟩;rw [HE.out.1];refine HRD.out _ fun b h1 h2 => (hw4 b (by have := HT2.out.size; omega) (by simp; exact h2)).trans ?_
      have a : b ≠ w.heap.size + 1 + 1 := by omega
      rw [zal _ ⟨w.heap.size + 1 + 1, 4, none⟩ _ b a, zal _ ⟨w.heap.size + 1 + 1, 3, none⟩ _ b a, zal _ ⟨w.heap.size + 1 + 1, 2, none⟩ _ b a, zal _ ⟨w.heap.size + 1 + 1, 1, none⟩ _ b a, zal _ ⟨w.heap.size + 1 + 1, 0, none⟩ _ b a]
theorem qbs {α:Type} (f:α->Nat) (a b:List α):cntS f (a++b)=cntS f a+cntS f b:=by simp[cntS]
theorem qoy (l:List q12):cntS q1d l=l.length+cntS qj.cnt l:=by
 induction l with
 |nil=>rfl
 | cons y l ih =>
   rw [q1j, q1j, ih, za0];show (1 + y.2.1.1.length + y.2.1.2.length + y.2.2.length) + _ = _ + ((0 + ((y.2.1.1.length + y.2.1.2.length) + y.2.2.length)) + _)
   omega
theorem qn9 {a:qi} (h:AlgP a):q1g a<=20000:=by
 have b:∀l:List OpM,(∀o∈l,OpP a.1.toNat o)->cntS mcOp l<=l.length*4097:=by
  intro l
  induction l with
  |nil=>intro _;exact zah _
  | cons o l ih =>
    intro d;rw [q1j, za0, zel];have e := ih fun o f => d o (by simp [f])
    have c := qk9 (d o (by simp)) (by have := h.2.1; omega);have g : mcOp o = 1 + o.2.length := rfl;omega
 have e:=b a.2 h.2.2.2;have c:=h.2.2.1;have i:=zdw 4097 c;show cntS mcOp a.2<=20000
 omega
theorem qjv (n:Nat) (M:Nat->Bool):(q1n n M).length<=n:=by
 have h:=List.length_filter_le M (List.range n)
 simpa[q1n]using h
theorem qj0 {α:Type} (f:α->Nat) (l:List α) (k:Nat):cntS f (l.take k++l.drop (k+1))<=cntS f l:=by
 have h:cntS f l=cntS f (l.take k)+cntS f (l.drop k):=by rw[<-qbs,zcw]
 have a:cntS f (l.drop (k+1))<=cntS f (l.drop k):=by
  by_cases hk:k<l.length
  .rw[zbd hk,q1j]
   omega
  .rw[zbe (by omega),q6n]
   exact zah _
 rw[qbs];omega
theorem qpa {x:qi} {s:List Int} (h:AlgP x):q1g (ren x s)<=20000:=by
 have a:∀l:List OpM,(∀o∈l,OpP x.1.toNat o)->cntS mcOp (l.map (q51 x.1.toNat s))<=l.length*4097:=by
  intro l
  induction l with
  |nil=>intro _;exact zah _
  | cons o l ih =>
    intro c;rw [zcy, q1j, za0, zel];have d := ih fun o f => c o (by simp [f])
    have b := qk9 (c o (by simp)) (by have := h.2.1; omega);have g : mcOp (q51 x.1.toNat s o) = 1 + (q51 x.1.toNat s o).2.length := rfl;have e : (q51 x.1.toNat s o).2.length = o.2.length := by simp [q51, q2p]
    omega
 have d:=a x.2 h.2.2.2;have b:=h.2.2.1;have e:=zdw 4097 b;show cntS mcOp (x.2.map (q51 x.1.toNat s))<=20000
 omega
theorem qpk {x:LabM} {e a b:Int} {f:q12} (d:AlgP x.2.1) (i:∀f∈x.2.2.1,q1l x.2.1 f=true) (h:twoF x e a b=some f):q1d f<=1001:=by
 unfold twoF at h;cases ha:x.2.2.1[a.toNat]? with
 |none=>rw[ha]at h;cases h
 | some g =>
   cases hb : x.2.2.1[b.toNat]? with
   | none => rw [ha, hb] at h; cases h
   | some g2 =>
     rw [ha, hb] at h;have j := i g (zaf ha);have l := i g2 (zaf hb);have o := q4l d j;have r := q4l d l;have p := d.2.1;replace h : (if a = b \/ g.1 ≠ g2.1 then none else if g.1 = 3 then some ((3 : Int), (([] : List Int), ([] : List Int)), if e = 3 then q29 g2.2.2 g.2.2 else genL x.2.1.1.toNat x.2.1.2 (g.2.2 ++ g2.2.2)) else if g.1 = 4 then some (4, ([], []), if e = 3 then q48 g.2.2 g2.2.2 else q67 g.2.2 g2.2.2) else none) = some f := h
     by_cases c0 : a = b \/ g.1 ≠ g2.1
     . rw [zao c0] at h; cases h
     rw [zaj c0] at h;have m : g.1 = g2.1 := Classical.byContradiction fun n => c0 (.inr n)
     have c : ∀ (k : Int) (L : List Int), L.length <= 1000 -> q1d (k, ([], []), L) <= 1001 := fun k L q => by
       show 1 + 0 + 0 + L.length <= 1001
       omega
     by_cases c3 : g.1 = 3
     . rw [zao c3] at h
       injection h with h
       subst h
       split
       . exact c _ _ (zbb (qa3 _ _).length_le o)
       . exact c _ _ (zbb (qjv _ _) (by omega))
     rw [zaj c3] at h
     by_cases c4 : g.1 = 4
     . rw [zao c4] at h
       injection h with h
       subst h;have P := q4m j c4;have Q := q4m l (by omega)
       split
       . exact c _ _ (by rw [qe2 P]; omega)
       . exact c _ _ (by rw [(q7u P Q).1]; omega)
     . rw [zaj c4] at h; cases h
theorem qo6 {x y:LabM} {s:qw} (i:AlgP x.2.1) (m:∀f∈x.2.2.1,q1l x.2.1 f=true) (h:makM x s=some y):q1g y.2.1<=20000/\cntS q1d y.2.2.1<=cntS q1d x.2.2.1+q1d s.2.2.1+1001:=by
 have b:=qn9 i;have c:∀f:q12,cntS q1d (x.2.2.1++ [f])=cntS q1d x.2.2.1+q1d f:=fun f=>by rw[qbs,q1j,q6n];rfl
 unfold makM at h
 by_cases k2:s.1=2
 .rw[zao k2]at h
  injection h with h
  subst h
  split
  .exact⟨b,by show cntS q1d (x.2.2.1++ [s.2.2.1])<=_;rw[c];omega⟩
  .exact⟨b,by show cntS q1d x.2.2.1<=_;omega⟩
 rw[zaj k2]at h
 by_cases k3:s.1=3\/s.1=4
 .rw[zao k3]at h
  obtain⟨f,d,rfl⟩:=zfb.1 h;have n:=qpk i m d;unfold addF
  split
  .exact⟨b,by show cntS q1d (x.2.2.1++ [f])<=_;rw[c];omega⟩
  .exact⟨b,by omega⟩
 rw[zaj k3]at h
 by_cases k5:s.1=5
 .rw[zao k5]at h
  split at h
  .injection h with h
   subst h;exact⟨b,by have:=qj0 q1d x.2.2.1 s.2.2.2.2.1.toNat;show cntS q1d (_++_)<=_;omega⟩
  .cases h
 rw[zaj k5]at h
 by_cases k6:s.1=6
 .rw[zao k6]at h
  split at h
  .rename_i hp
   injection h with h
   subst h;have g:PermL x.2.1.1.toNat s.2.2.2.1:=q3p.1 hp;refine⟨qpa i,?_⟩;have j:∀l:List q12,(∀f∈l,q1l x.2.1 f=true)->cntS q1d (l.map fun f=>((f.1,f.2.1,rfL f.1 f.2.2 s.2.2.2.1):q12))=cntS q1d l:=by
    intro l
    induction l with
    |nil=>intro _;rfl
    | cons f l ih =>
      intro k;rw [zcy, q1j, q1j, ih fun f d => k f (by simp [d])];have a := q4s (k f (by simp));have e : q1d (f.1, f.2.1, rfL f.1 f.2.2 s.2.2.2.1) = q1d f := by
        show 1 + f.2.1.1.length + f.2.1.2.length + (rfL f.1 f.2.2 s.2.2.2.1).length = 1 + f.2.1.1.length + f.2.1.2.length + f.2.2.length
        rw [qkq g a.1 (fun h => q5s (a.2.2.1 h)) a.2.2.2.1]
      rw [e]
   show cntS q1d (x.2.2.1.map _)<=_
   rw[j _ m];omega
  .cases h
 rw[zaj k6]at h;injection h with h
 subst h;exact⟨zah _,by show cntS q1d []<=_;rw[q6n];exact zah _⟩
theorem qpd {x:LabM} {s:qw} (h:q19.cnt x<=1048576) (i:qn.cnt s<=1048576):q4z (slR x s)<=4194304:=by
 have g:=qjq h;have f:=qoy x.2.2.1;have k:qn.cnt s=0+(Sh.str.cnt s.2.1+(qj.cnt s.2.2.1+(s.2.2.2.1.length+(0+0)))):=rfl;have l:q1d s.2.2.1=1+qj.cnt s.2.2.1:=by
  show 1+s.2.2.1.2.1.1.length+s.2.2.1.2.1.2.length+s.2.2.1.2.2.length=1+(0+((s.2.2.1.2.1.1.length+s.2.2.1.2.1.2.length)+s.2.2.1.2.2.length))
  omega
 have d:q4z zLab<=4194304:=by show 0+0<=4194304;omega
 cases ho:q96 x s with
 |none=>rw[(q4c ho).1];exact d
 | some y =>
   rw [(qco ho).1]
   by_cases hok : labB x = true /\ q2j s = true /\ (x.1 = true ↔ s.1 ≠ 1)
   . by_cases h1 : s.1 = 1
     . rw [q8m hok h1] at ho
       obtain ⟨a, j, rfl⟩ := zfb.1 ho;have m := qn9 (qkg j).1.1;show q1g a + cntS q1d x.2.2.1 <= 4194304
       omega
     . rw [q8n hok h1] at ho
       obtain ⟨z, d, c⟩ := Option.bind_eq_some_iff.1 ho;have e : z = y := by
         split at c
         . injection c
         . cases c
       subst e;obtain ⟨-, -, -, b⟩ := q69 hok.1;obtain ⟨n, o⟩ := qo6 (b (hok.2.2.2 h1)) (q5d hok.1) d;show q1g z.2.1 + cntS q1d z.2.2.1 <= 4194304
       omega
   . rw [q3h hok] at ho; cases ho
theorem q84 {x:qw} (h:qn.cnt x<=1048576):x.2.1.size<=1048576:=by
 have a:qn.cnt x=0+(x.2.1.size+(qj.cnt x.2.2.1+(x.2.2.2.1.length+(0+0)))):=rfl;omega
def q32 (x:qw):Nat:=q4r x.2.2.1+x.2.2.2.1.length
def qk2 (k:Int) (x:qw):qw:=(x.1,x.2.1,qk1 k x.2.2.1,nums (k+q4r x.2.2.1) x.2.2.2.1.length,x.2.2.2.2.1,x.2.2.2.2.2)
theorem qat {x:qw} (h:qn.cnt x<=1048576):q32 x<=4194304:=by
 have a:qn.cnt x=0+(Sh.str.cnt x.2.1+(qj.cnt x.2.2.1+(x.2.2.2.1.length+(0+0)))):=rfl;have b:q4r x.2.2.1=(x.2.2.1.2.1.1.length+x.2.2.1.2.1.2.length)+x.2.2.1.2.2.length:=rfl;have c:qj.cnt x.2.2.1=0+((x.2.2.1.2.1.1.length+x.2.2.1.2.1.2.length)+x.2.2.1.2.2.length):=rfl;unfold q32;omega
theorem qa2 (cs:List Value) (x:qw) (z:List Nat) (c:Int) (w:World) (h:qn.own w cs x z) (H:z.Nodup) (h0:0<=c) (T:c+q32 x<=4611686018427387904):
  Calls Tryz.prog 20 #[.agg cs.toArray,.int .i64 c] w (MkE qn w cs (qk2 c x) z (c+q32 x)):=by
 obtain⟨cK,cX,bK,bX,rfl,rfl,OK,⟨cT,cY,bT,bY,rfl,rfl,OT,⟨cF,cZ,q,bZ,rfl,rfl,u,⟨cL,cU,y,bU,rfl,rfl,Q,⟨cA,cB,bA,bB,rfl,rfl,OA,OB⟩⟩⟩⟩⟩:=h;obtain⟨_,rfl,⟨rfl,J,D⟩,rfl⟩:=OK;obtain⟨_,rfl,⟨rfl,I⟩,rfl⟩:=OT;obtain⟨_,rfl,⟨rfl,K,E⟩,rfl⟩:=OA;obtain⟨_,rfl,⟨rfl,L,F⟩,rfl⟩:=OB;obtain⟨M,W,g,N,X,R,O,Y,S,rfl,-,-,-,-⟩:=q1u (qj.ord u);obtain⟨_,rfl,Z,nS,cS,rfl,-⟩:=(Sh.il 3).ord Q;obtain⟨w0,p,v,U,f⟩:=q16 w #[.int .i64 x.1,.string x.2.1,.int .i64 x.2.2.1.1,.slice M W g,.slice N X R,.slice O Y S,.slice Z nS cS,.int .i64 x.2.2.2.2.1,.int .i64 x.2.2.2.2.2] 59;have a:(q++y).Nodup:=by simpa using H
 have G:w.heap.size∉q:=q7j u rfl;have P0:=Sh.onext u v;have P1:=Sh.onext Q v;have hm:c+(q4r x.2.2.1:Int)+(x.2.2.2.1.length:Int)<=4611686018427387904:=by unfold q32 at T;push_cast at T;omega
 have t:=zaa p;have i:=f.cell 2;have j:=f.cell 3;have k:=f.cell 4;have l:=f.cell 5;have n:=f.cell 6;simp at i j k l n;have HX:=nd_x a;have HY:=nd_y a;have s:=nd_l a;clear p
 go_enter Tryz.func20,Tryz.ntmps20
 go_upto_region 1 with fail;rw[<-t.out];go_wp2_with fail;refine(qdx [.int .i64 x.2.2.1.1,.slice M W g,.slice N X R,.slice O Y S] x.2.2.1 q c w0 P0 s h0 (by omega)).mono ?_;rintro e w1 ⟨rfl,O2,C⟩;have P2:=Sh.ochg P1 C HY;have r:=f.chgB C G;have A:=r.cell 6;simp at A;clear i j k l n;obtain⟨V,d⟩:∃m:Nat,Hid (q4r x.2.2.1=m):=⟨_,rfl⟩;rw[d.out]at hm⊢;go_wp2_with fail;refine(q2c _ x.2.2.2.1 y (c+V) w1 P2 (by omega) (by omega)).mono ?_;rintro e w2 ⟨rfl,P,o⟩;have O4:=Sh.ochg O2 o HX;have HE:Hid (c+(V:Int)+(x.2.2.2.1.length:Int)=c+((q32 x:Nat):Int)):=by show _=_;unfold q32;rw[d.out];push_cast;omega
 rw[<-d.out]at P;go_wp2_with fail;go_ret;refine⟨q11 HE.out,⟨[_],_, [],_,rfl,rfl,⟨_,rfl,⟨rfl,J,D⟩,rfl⟩,⟨[_],_, [],_,rfl,rfl,⟨_,rfl,⟨rfl,I⟩,rfl⟩,⟨_,_,q,_,rfl,rfl,O4,⟨_,_,y,_,rfl,rfl,P,⟨[_], [_], [], [],rfl,rfl,⟨_,rfl,⟨rfl,K,E⟩,rfl⟩,⟨_,rfl,⟨rfl,L,F⟩,rfl⟩⟩⟩⟩⟩⟩,?_⟩;exact((ChgB.ofBelow v).trans (C.mono fun b B=>by simp[B])).trans (o.mono fun b B=>by simp[B])
end Go.Proofs.YtfnmkbpogbekpaaGreatDoor
