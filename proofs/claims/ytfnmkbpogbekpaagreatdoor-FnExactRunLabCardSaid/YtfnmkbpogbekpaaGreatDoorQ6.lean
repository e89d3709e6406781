import Derived.Test.YtfnmkbpogbekpaaGreatDoorQ5
import Derived.Deep.RegionHeld
import Derived.Sort.OwnSortedInts
set_option linter.unusedVariables false
set_option linter.unusedSimpArgs false
set_option maxRecDepth 100000
set_option maxHeartbeats 32000000
namespace Go.Proofs.YtfnmkbpogbekpaaGreatDoor
open Go.RowKit
def q29 (x:qy):Nat:=1+x.2.1.1.length+x.2.1.2.length+x.2.2.length
def q7f (k:Int) (x:qy):qy:=(k,(nums (k+1) x.2.1.1.length,nums (k+1+x.2.1.1.length) x.2.1.2.length),nums (k+1+x.2.1.1.length+x.2.1.2.length) x.2.2.length)
def q53 (x:LabM):Nat:=q1i x.2.1+cntS q29 x.2.2.1
def qjl (k:Int) (x:LabM):LabM:=(x.1,q6e k x.2.1,mkL q7f q29 (k+q1i x.2.1) x.2.2.1,x.2.2.2)
theorem qcx (v:Value) (xs:List qy) (bl:List Nat) (k0:Int) (w:World) (h:(Sh.rows qj 57).own w [v] xs bl) (hnd:bl.Nodup) (h0:0<=k0) (h1:k0+cntS q29 xs<=4611686018427387904):
  Calls Tryz.prog 51 #[v,.int .i64 k0] w (MkE (Sh.rows qj 57) w [v] (mkL q7f q29 k0 xs) bl (k0+cntS q29 xs)):=by
 obtain⟨v',css0,bls,e,R,rfl⟩:=h;injection e with e _
 subst e;obtain⟨A,c,rfl⟩:=qu R.row;have hnl:=q5b R.row;unfold maxLen at hnl;have aa:=zaa hnd;clear hnd
 go_enter Tryz.func51,Tryz.ntmps51
 go_wp2
 go_loopw [1,5] (fun q i wr=>∃(j:Nat) (k:Int) (ys:List qy) (d:List (List Value)),j<=xs.length/\i=.int .i64 j/\q=.int .i64 k/\MkAt q7f q29 k0 xs ys j k/\Parts qj 57 wr (.slice A xs.length c) ys d bls/\ChgB (obl (.slice A xs.length c)++bls.flatten) w wr) (fun _ i _=>xs.length - (intOf i).toNat)
 case atStart=>exact⟨0,k0,xs,css0,zah _,rfl,rfl,MkAt.start _ _,R,ChgB.refl _ _⟩
 case round=>
  clear R;obtain⟨j,k,ys,d,hj,rfl,rfl,HM,N,CH⟩:=hrel;have U:ys.length=xs.length:=HM.2.2.1
  by_cases hlt:j<xs.length
  .have hd:xs.drop j=xs[j]::xs.drop (j+1):=zbq hlt
   generalize xs[j]=x at hd
   obtain⟨hyj,hk0,hk1⟩:=HM.left hd;have HS:=zaa (HM.step hd);obtain⟨g,cap,hv⟩:=N.slice (by omega:j<ys.length);injection hv with hA hn2 l
   subst hA;clear hn2 l;have hl1:=N.l1;have hl2:=N.l2;have n:d[j]?=some (d[j]'(by omega)):=zae (by omega);have t:bls[j]?=some (bls[j]'(by omega)):=zae (by omega)
   generalize d[j]'(by omega)=cj at n
   generalize bls[j]'(by omega)=bk at t
   have ho:=N.el j cj x bk n hyj t;obtain⟨c0,c1,b0,b1,rfl,rfl,O0,⟨cE,cS,bE,y,rfl,rfl,⟨cL,cR,D,E,rfl,rfl,OL,OR⟩,W⟩⟩:=ho;obtain⟨_,rfl,⟨rfl,lo0,hi0⟩,rfl⟩:=O0;obtain⟨_,rfl,B,J,F,rfl,-⟩:=(Sh.il 3).ord OL;obtain⟨_,rfl,C,K,G,rfl,-⟩:=(Sh.il 3).ord OR;obtain⟨_,rfl,L,O,M,rfl,-⟩:=(Sh.il 3).ord W;have T:=qap aa.out (g:=g) rfl;have S:∀b∈(D++E)++y,b∈bls.flatten:=fun b f=>zbm.2 ⟨_,zaf t,by simpa using f⟩
   have Y:=qqr aa.out t;have V:((D++E)++y).Nodup:=by simpa using Y
   have gL:g∉D:=fun u=>T (S g (by simp[u]))
   have gR:g∉E:=fun u=>T (S g (by simp[u]))
   have gS:g∉y:=fun u=>T (S g (by simp[u]))
   have dLR:=nd_x (nd_l V);have dRL:=nd_y (nd_l V);have dLS:∀z∈D,z∉y:=fun z hz=>nd_x V z (zbb _ hz)
   have dRS:∀z∈E,z∉y:=fun z hz=>nd_x V z (zaz _ hz)
   have dSL:∀z∈y,z∉D:=fun z hz u=>dLS z u hz
   have dSR:∀z∈y,z∉E:=fun z hz u=>dRS z u hz
   have hmb:j*4+4<=xs.length*4:=by omega
   have s:=N.row;rw[U]at s;have r:=N.all;have q0:j*4<xs.length*qj.m:=by show _<_*4;omega
   have q1:j*4+1<xs.length*qj.m:=by show _<_*4;omega
   have q2:j*4+2<xs.length*qj.m:=by show _<_*4;omega
   have q3:j*4+3<xs.length*qj.m:=by show _<_*4;omega
   have F0:d.flatten[j*4]?=some (.int .i64 x.1):=by have:=q1j r j 0 (by decide);rw[n]at this;exact this
   have F1:d.flatten[j*4+1]?=some (.slice B J F):=by have:=q1j r j 1 (by decide);rw[n]at this;exact this
   have F2:d.flatten[j*4+2]?=some (.slice C K G):=by have:=q1j r j 2 (by decide);rw[n]at this;exact this
   have F3:d.flatten[j*4+3]?=some (.slice L O M):=by have:=q1j r j 3 (by decide);rw[n]at this;exact this
   have cc0:wr.cell? ⟨g,j*4,none⟩=some (.int .i64 x.1):=(s.cellAt _ q0).trans F0;have cc1:wr.cell? ⟨g,j*4+1,none⟩=some (.slice B J F):=(s.cellAt _ q1).trans F1;have ff0:wr.frozen? ⟨g,j*4,none⟩=false:=s.frozenAt _;obtain⟨w1,o⟩:∃wb,wb=wr.setCell ⟨g,j*4,none⟩ (.int .i64 k):=⟨_,rfl⟩;have a:w1.ownsRow 0 57 qj.m (.slice (some ⟨g,0,none⟩) xs.length c) xs.length (d.flatten.set (j*4) (.int .i64 k)):=by rw[o];exact(s.stored (j*4) (.int .i64 k)).1
   replace OL:(Sh.il 3).own w1 [.slice B J F] x.2.1.1 D:=by rw[o];exact Sh.oset' (p:=⟨g,j*4,none⟩) OL gL _
   replace OR:(Sh.il 3).own w1 [.slice C K G] x.2.1.2 E:=by rw[o];exact Sh.oset' (p:=⟨g,j*4,none⟩) OR gR _
   replace W:(Sh.il 3).own w1 [.slice L O M] x.2.2 y:=by rw[o];exact Sh.oset' (p:=⟨g,j*4,none⟩) W gS _
   have P:ChgB (g::((D++E)++y)) wr w1:=by rw[o];exact ChgB.set (p:=⟨g,j*4,none⟩) (zaq ..) _
   have E1:(d.flatten.set (j*4) (.int .i64 k))[j*4+1]?=some (.slice B J F):=q17 F1 (by omega);have E2:(d.flatten.set (j*4) (.int .i64 k))[j*4+2]?=some (.slice C K G):=q17 F2 (by omega);have E3:(d.flatten.set (j*4) (.int .i64 k))[j*4+3]?=some (.slice L O M):=q17 F3 (by omega);obtain⟨fl,HFL⟩:∃fl,Hid (d.flatten.set (j*4) (.int .i64 k)=fl):=⟨_,rfl⟩;rw[HFL.out]at a E1 E2 E3;have HE1:=zaa E1;have HE2:=zaa E2;have HE3:=zaa E3;have HBJ:=zaa t;have HP:=zaa N;have HYL:=zaa U;have hj0:(0:Int)<=(j:Int):=by omega
   have hj1:(j:Int)<(xs.length:Int):=by omega
   have hmc:q29 x=1+x.2.1.1.length+x.2.1.2.length+x.2.2.length:=rfl;clear hd HM N U n t hyj s F0 F1 F2 F3 E1 E2 E3 Y;go_wp2_with fail;rw[<-o];clear o cc0 cc1 ff0;refine(q2i _ x.2.1.1 D (k+1) w1 OL (by omega) (by omega)).mono ?_;rintro e w2 ⟨rfl,PL,l⟩;replace a:=q4n a l (fun b f=>by injection f with f;subst f;exact gL);replace P:=P.trans (l.mono fun b f=>zap _ (by simp[f]));replace OR:=Sh.ochg OR l dRL;replace W:=Sh.ochg W l dSL;have cc2:w2.cell? ⟨g,j*4+2,none⟩=some (.slice C K G):=(a.cellAt _ q2).trans HE2.out;clear l;go_wp2_with fail;clear cc2;refine(q2i _ x.2.1.2 E (k+1+x.2.1.1.length) w2 OR (by omega) (by omega)).mono ?_;rintro e w3 ⟨rfl,PR,H⟩;replace a:=q4n a H (fun b f=>by injection f with f;subst f;exact gR);replace P:=P.trans (H.mono fun b f=>zap _ (by simp[f]));replace PL:=Sh.ochg PL H dLR;replace W:=Sh.ochg W H dSR;have cc3:w3.cell? ⟨g,j*4+3,none⟩=some (.slice L O M):=(a.cellAt _ q3).trans HE3.out;clear H;go_wp2_with fail;clear cc3;refine(q2i _ x.2.2 y (k+1+x.2.1.1.length+x.2.1.2.length) w3 W (by omega) (by omega)).mono ?_;rintro e w4 ⟨rfl,PS,I⟩;replace a:=q4n a I (fun b f=>by injection f with f;subst f;exact gS);replace P:=P.trans (I.mono fun b f=>zap _ (by simp[f]));replace PL:=Sh.ochg PL I dLS;replace PR:=Sh.ochg PR I dRS;clear I;have Z:fl=q48 d.flatten (j*qj.m) [.int .i64 k,.slice B J F,.slice C K G,.slice L O M]:=by
    show _=(((d.flatten.set (j*4) (.int .i64 k)).set (j*4+1) (.slice B J F)).set (j*4+1+1) (.slice C K G)).set (j*4+1+1+1) (.slice L O M)
    rw[HFL.out,q4b HE1.out,q4b HE2.out,q4b HE3.out]
   rw[Z]at a;have X:w4.ownsRow 0 57 qj.m (.slice (some ⟨g,0,none⟩) xs.length c) ys.length (q48 d.flatten (j*qj.m) [.int .i64 k,.slice B J F,.slice C K G,.slice L O M]):=by rw[HYL.out];exact a
   have hkr:InR k:=⟨by omega,by omega⟩;have Q:=HP.out.put aa.out HBJ.out (c':= [.int .i64 k,.slice B J F,.slice C K G,.slice L O M]) (x':=q7f k x) X ⟨[.int .i64 k], [.slice B J F,.slice C K G,.slice L O M], [],(D++E)++y,rfl,rfl,⟨_,rfl,⟨rfl,hkr.1,hkr.2⟩,rfl⟩,⟨[.slice B J F,.slice C K G], [.slice L O M],D++E,y,rfl,rfl,⟨[.slice B J F], [.slice C K G],D,E,rfl,rfl,PL,PR⟩,PS⟩⟩
    (fun b f hn=>P.block b (HP.out.lt b (zaz _ f)) (fun u=>by
     rcases zbf.1 u with rfl|u
     .exact T f
     .exact hn (by simpa using u)))
   have CH2:=CH.trans (P.mono fun b f=>by
    rcases zbf.1 f with rfl|f
    .exact zbb _ (q1e.2 rfl)
    .exact zaz _ (S b f))
   clear Z a X P PL PR PS;have HPP':=zaa Q;clear Q;go_wp2_with fail
   go_roundw
   case rel=>exact⟨j+1,_,_,_,by omega,by go_num,rfl,by rw[show k+1+((x.2.1.1.length:Nat):Int)+((x.2.1.2.length:Nat):Int)+((x.2.2.length:Nat):Int)=k+q29 x from by rw[hmc];omega];exact HS.out,HPP'.out,CH2⟩
   case measure=>simp[intOf];omega
  .have hj':j=xs.length:=by omega
   obtain⟨rfl,hk⟩:=HM.done (zbk (by omega));have HK:=zaa hk;have Q:=zaa N;clear N hk U;have hlt':¬(j:Int)<(xs.length:Int):=by omega
   clear hj';go_wp2_with fail;go_ret;exact⟨q11 HK.out,⟨_,d,bls,rfl,Q.out,rfl⟩,CH⟩
theorem qcl (A:Option Addr) (n c:Nat) (xs:List qy) (g:Int) (w:World) (h:RdN qj.m qj.rd w A n (mkL q7f q29 g xs)) (h0:0<=g) (h1:g+cntS q29 xs<=4611686018427387904):
  Calls Tryz.prog 55 #[.slice A n c,.int .i64 g] w (Bl w (.int .i64 (g+cntS q29 xs))):=by
 have ad:=h.le;have u:xs.length=n:=by rw[<-qcz q7f q29 g xs];exact h.len
 have p:=zaa u;clear u
 go_enter Tryz.func55,Tryz.ntmps55
 go_wp2
 go_loopw [1,5] (fun q i wr=>∃(j:Nat) (k:Int),j<=n/\i=.int .i64 j/\q=.int .i64 k/\HkAt q7f q29 g xs j k/\Below w.heap.size w wr) (fun _ i _=>n - (intOf i).toNat)
 case atStart=>exact⟨0,g,zah _,rfl,rfl,HkAt.start _ _,zac _ _⟩
 case round=>
  obtain⟨j,k,hj,rfl,rfl,B,E⟩:=hrel;have Y:=h.next E
  by_cases hlt:j<n
  .have I:j<xs.length:=by rw[p.out];exact hlt
   have hd:xs.drop j=xs[j]::xs.drop (j+1):=zbq I
   generalize xs[j]=x at hd
   obtain⟨t,ab,ac⟩:=B.left hd;have X:=zaa (B.step hd);obtain⟨b,o,vs,y,rfl,-,s,S,-,z⟩:=Y.at hlt;rw[t]at z;injection z with z
   subst z;obtain⟨L,T,O,M,U,P,N,V,Q,rfl,q0,qL,K,v⟩:=q21 S;have C:wr.cell? ⟨b,o+j*4,none⟩=some (.int .i64 k):=s 0 _ rfl;have D:wr.cell? ⟨b,o+j*4+1,none⟩=some (.slice L T O):=s 1 _ rfl;have l:wr.cell? ⟨b,o+j*4+2,none⟩=some (.slice M U P):=s 2 _ rfl;have d:wr.cell? ⟨b,o+j*4+3,none⟩=some (.slice N V Q):=s 3 _ rfl;have J:q29 x=1+x.2.1.1.length+x.2.1.2.length+x.2.2.length:=rfl;have ae:(k !=k)=false:=by simp
   have Z:(0:Int)<=(j:Int):=by omega
   have aa:(j:Int)<(n:Int):=by omega
   clear s hd t S;go_wp2_with fail;refine(q6z L T O x.2.1.1 (k+1) wr qL (by omega) (by omega)).mono ?_;rintro e w1 ⟨rfl,a⟩;have n1:¬k+1+(x.2.1.1.length:Int)<0:=by omega
   replace l:=qe a l;replace d:=qe a d;have F:=q9 E a rfl;replace K:=K.next qd a;replace v:=v.next qd a;clear C D a;go_wp2_with fail;refine(q6z M U P x.2.1.2 (k+1+x.2.1.1.length) w1 K (by omega) (by omega)).mono ?_;rintro e w2 ⟨rfl,f⟩;have n2:¬k+1+(x.2.1.1.length:Int)+(x.2.1.2.length:Int)<0:=by omega
   replace d:=qe f d;have G:=q9 F f rfl;replace v:=v.next qd f;clear l f;go_wp2_with fail;refine(q6z N V Q x.2.2 (k+1+x.2.1.1.length+x.2.1.2.length) w2 v (by omega) (by omega)).mono ?_;rintro e w3 ⟨rfl,r⟩;have n3:¬k+1+(x.2.1.1.length:Int)+(x.2.1.2.length:Int)+(x.2.2.length:Int)<0:=by omega
   have H:=q9 G r rfl;clear d r;go_wp2_with fail
   go_roundw
   case rel=>exact⟨j+1,_,by omega,by go_num,rfl,by rw[show k+1+((x.2.1.1.length:Nat):Int)+((x.2.1.2.length:Nat):Int)+((x.2.2.length:Nat):Int)=k+q29 x from by rw[J];omega];exact X.out,H⟩
   case measure=>simp[intOf];omega
  .have W:=zaa (B.done (zbk (by rw[p.out];omega)))
   have R:¬(j:Int)<(n:Int):=by omega
   go_wp2_with fail;go_ret;exact⟨q11 W.out,E⟩
theorem qgf (cs:List Value) (x:LabM) (r:List Nat) (c:Int) (w:World) (h:q19.own w cs x r) (z:r.Nodup) (J:0<=c) (X:c+q53 x<=4611686018427387904):
  Calls Tryz.prog 19 #[.agg cs.toArray,.int .i64 c] w (MkE q19 w cs (qjl c x) r (c+q53 x)):=by
 obtain⟨R,S,N,O,rfl,rfl,F,⟨U,T,i,P,rfl,rfl,g,⟨V,W,j,Q,rfl,rfl,d,G⟩⟩⟩:=h;obtain⟨_,rfl,rfl,rfl⟩:=F;obtain⟨_,rfl,⟨rfl,A,y⟩,rfl⟩:=G;obtain⟨f,n,k,rfl,-⟩:=(Sh.rows qj 57).ord d;obtain⟨o,B,s,rfl,-⟩:=qv (qf.ord g);have L:q53 x=q1i x.2.1+cntS q29 x.2.2.1:=rfl;have a:(i++j).Nodup:=by simpa using z
 obtain⟨M,m,q,C,E⟩:=q15 w #[.bool x.1,.int .i64 x.2.1.1,.slice o B s,.slice f n k,.int .i64 x.2.2.2] 27;have t:∀b∈i,b<w.heap.size:=qf.olt g;replace g:=Sh.onext g q;replace d:=Sh.onext d q
 go_enter Tryz.func19,Tryz.ntmps19
 go_wp2_with fail;rw[<-m];clear m;refine(q6c _ x.2.1 i c M g (nd_l a) J (by omega)).mono ?_;rintro e D ⟨rfl,p,v⟩;replace d:=Sh.ochg d v (nd_y a);have I:D.cell? ⟨w.heap.size,3,none⟩=some (.slice f n k):=by
  rw[zb6 (v.block w.heap.size (by omega) (fun K=>by have:=t _ K;omega))];exact E.cell 3
 go_wp2_with fail;clear I;refine(qcx _ x.2.2.1 j (c+q1i x.2.1) D d (nd_r a) (by omega) (by omega)).mono ?_;rintro e Y ⟨rfl,H,l⟩;replace p:=Sh.ochg p l (nd_x a);go_wp2_with fail;go_ret;refine⟨q11 (by omega),⟨[.bool x.1], [.int .i64 x.2.1.1,.slice o B s,.slice f n k,.int .i64 x.2.2.2], [],i++(j++ []),rfl,rfl,⟨_,rfl,rfl,rfl⟩,⟨[.int .i64 x.2.1.1,.slice o B s], [.slice f n k,.int .i64 x.2.2.2],i,j++ [],rfl,rfl,p,⟨[.slice f n k], [.int .i64 x.2.2.2],j, [],rfl,rfl,H,⟨_,rfl,⟨rfl,A,y⟩,rfl⟩⟩⟩⟩,((ChgB.ofBelow q).trans (v.mono fun b u=>by simp[u])).trans (l.mono fun b u=>by simp[u])⟩
theorem qa9 (cs:List Value) (x:LabM) (a:Int) (w:World) (h:q19.rd w cs (qjl a x)) (u:0<=a) (D:a+q53 x<=4611686018427387904):
  Calls Tryz.prog 21 #[.agg cs.toArray,.int .i64 a] w (Bl w (.int .i64 (a+q53 x))):=by
 obtain⟨j,p,f,i,q,n,rfl,A,y,z,G⟩:=q42 h;have v:q53 x=q1i x.2.1+cntS q29 x.2.2.1:=rfl;obtain⟨r,d,k,o,s⟩:=q15 w #[.bool x.1,.int .i64 x.2.1.1,.slice j p f,.slice i q n,.int .i64 x.2.2.2] 27;have B:=q30 (x:=q6e a x.2.1) (cOps:=f) A (y.next k)
 go_enter Tryz.func21,Tryz.ntmps21
 go_wp2_with fail;have b:w.alloc (.cells #[.bool (qjl a x).1,.int .i64 (qjl a x).2.1.1,.slice j p f,.slice i q n,.int .i64 (qjl a x).2.2.2] 27)=r:=d.symm;rw[b];clear b d;refine(qa8 _ x.2.1 a r B u (by omega)).mono ?_;rintro e C ⟨rfl,c⟩;have l:=q9 k c rfl;have m:=(s.next c).cell 3;simp at m;have E:¬a+(q1i x.2.1:Int)<0:=by omega
 go_wp2_with fail;clear m;refine(qcl _ _ _ x.2.2.1 (a+q1i x.2.1) C (z.next l) (by omega) (by omega)).mono ?_;rintro e H ⟨rfl,g⟩;have t:=q9 l g rfl;have F:¬a+(q1i x.2.1:Int)+(cntS q29 x.2.2.1:Int)<0:=by omega
 go_wp2_with fail;go_ret;exact⟨q11 (by omega),t⟩
def Apart (v u:Value):Prop:=∀b,v.ownBlock=some b->u.ownBlock≠some b
theorem Apart.symm {v u:Value} (h:Apart v u):Apart u v:=fun b a c=>h b c a
theorem q13 {w w':World} {c a d e s1 s2 j k:Nat} {v u:Value} {xs l:List Value} (h:w.ownsRow c d s1 v j xs) (f:w'.ownsRow a e s2 u k l) (m:w.heap.size<=a):Apart v u:=fun b g i=>by
 have:=(h.lt b g).2;have:=(f.lt b i).1;omega
theorem qx {w:World} {base e size n:Nat} {v:Value} {xs:List Value} {p:Addr} {u:Value} (h:w.ownsRow base e size v n xs) (c:p.block<base):(w.setCell p u).ownsRow base e size v n xs:=
 q2p h fun b a=>za8 w p u b (by have:=(h.lt b a).1;omega)
def CeE (w:World) (L R:List Int) (e:Ending) (w':World):Prop:=∃A1 c1 A2 c2,e=.returned (.agg #[.slice A1 L.length c1,.slice A2 R.length c2])/\w'.ownsRow w.heap.size 3 1 (.slice A1 L.length c1) L.length (ints L)/\w'.ownsRow w.heap.size 3 1 (.slice A2 R.length c2) R.length (ints R)/\Apart (.slice A1 L.length c1) (.slice A2 R.length c2)/\Below w.heap.size w w'
theorem qfn (t:Option Addr) (b F:Nat) (x:Option Addr) (c G:Nat) (L R:List Int) (w:World) (H:RdL RI w t b L) (I:RdL RI w x c R) (h1:b<=1048576) (h2:c<=1048576):
  Calls Tryz.prog 136 #[.agg #[.slice t b F,.slice x c G]] w (CeE w L R):=by
 obtain rfl:L.length=b:=H.len;obtain rfl:R.length=c:=I.len;obtain⟨b,O⟩:∃n,Hid (L.length=n):=⟨_,rfl⟩;obtain⟨c,P⟩:∃n,Hid (R.length=n):=⟨_,rfl⟩;unfold CeE;rw[O.out]at H h1⊢;rw[P.out]at I h2⊢;obtain⟨i,E,V,D,BP,s⟩:=q1q w #[.slice t b F,.slice x c G] #[.slice none 0 0,.slice none 0 0] 55 55;have U:=zaa E;have M:Hid (∀h,Below i.heap.size i h->Calls Tryz.prog 137 #[.slice t b F] h fun e w'=>∃A' c',e=.returned (.slice A' b c')/\w'.ownsRow h.heap.size 3 1 (.slice A' b c') b (ints L)/\Below h.heap.size h w'):=fun h Y=>q4i t b F L h ((H.next qd V).next qd Y) h1
 have N:Hid (∀h,Below i.heap.size i h->Calls Tryz.prog 137 #[.slice x c G] h fun e w'=>∃A' c',e=.returned (.slice A' c c')/\w'.ownsRow h.heap.size 3 1 (.slice A' c c') c (ints R)/\Below h.heap.size h w'):=fun h Y=>q4i x c G R h ((I.next qd V).next qd Y) h2
 obtain⟨y,z⟩:=cl2 BP;obtain⟨A,B⟩:=cl2 s;have hne:w.heap.size+1≠w.heap.size:=by omega
 have a:Below i.heap.size i i:=zac _ _;have o:w.heap.size+1<i.heap.size:=by omega
 have q:=zaa V;clear E D H I
 go_enter Tryz.func136,Tryz.ntmps136
 go_upto_region 1 with fail;rw[<-U.out]
 first|(go_region_law (first|(go_simp;go_at_call 137;(with_reducible refine(M.out _ ?_).mono ?_);(first|exact a|exact zai a|exact qc (zac _ _) _|exact qc a _);rintro e wn ⟨j,l,rfl,d,g⟩;(try (have r:=(q13 f d (by first|exact zad _|(simp;omega))).symm));(try replace f:=qp f (by first|exact g|exact(qc (zac _ _) _).trans g));replace d:=ql (base':=i.heap.size) d (by exact a.size);replace a:=q9 (by first|exact a|exact zai a|exact qc (zac _ _) _|exact qc a _) g rfl;have Z:=qe a y;have aa:=qe a z;have ab:=qe a A;have ac:=qe a B;have W:=(s.next a).frozen 0;have X:=(s.next a).frozen 1)|(go_simp;go_at_call 137;(with_reducible refine(N.out _ ?_).mono ?_);(first|exact a|exact zai a|exact qc (zac _ _) _|exact qc a _);rintro e wn ⟨k,m,rfl,f,g⟩;(try (have r:=q13 d f (by first|exact zad _|(simp;omega))));(try replace d:=qp d (by first|exact g|exact(qc (zac _ _) _).trans g));replace f:=ql (base':=i.heap.size) f (by exact a.size);replace a:=q9 (by first|exact a|exact zai a|exact qc (zac _ _) _|exact qc a _) g rfl;have Z:=qe a y;have aa:=qe a z;have ab:=qe a A;have ac:=qe a B;have W:=(s.next a).frozen 0;have X:=(s.next a).frozen 1)))|fail
 all_goals
  have BR:=s.next a;have J:Blk ((wn.setCell ⟨w.heap.size+1,0,none⟩ (.slice j b l)).setCell ⟨w.heap.size+1,1,none⟩ (.slice k c m)) (w.heap.size+1) 55 #[.slice j b l,.slice k c m]:=by simpa using(BR.set_ 0 (.slice j b l)).set_ 1 (.slice k c m)
  have Q:=zaa (qx (qx (p:=⟨w.heap.size+1,0,none⟩) (u:=.slice j b l) d o) (p:=⟨w.heap.size+1,1,none⟩) (u:=.slice k c m) o);have S:=zaa (qx (qx (p:=⟨w.heap.size+1,0,none⟩) (u:=.slice j b l) f o) (p:=⟨w.heap.size+1,1,none⟩) (u:=.slice k c m) o);have C:=((q9 q.out a rfl).setCell (p:=⟨w.heap.size+1,0,none⟩) (show w.heap.size<=w.heap.size+1 by omega) (.slice j b l)).setCell (p:=⟨w.heap.size+1,1,none⟩) (show w.heap.size<=w.heap.size+1 by omega) (.slice k c m);have T:=zaa C;have K:=zaa r;clear C r d f BR;go_wp2_with fail
  (try simp only[Exit.inBlock,Exit.then])
  refine zat (v:=.agg #[.slice j b l,.slice k c m]) (zb0 rfl _ _ (w.heap.size+1) 55 #[.slice j b l,.slice k c m] (0,0) _ (by simp) J Tryz.underlying55 rfl (by kernel_rfl)) rfl ?_;exact⟨j,l,k,m,rfl,ql Q.out q.out.size,ql S.out q.out.size,K.out,T.out⟩
def CfE (w:World) (f:qy) (e:Ending) (w':World):Prop:=∃A1 c1 A2 c2 A3 c3,e=.returned (.agg #[.int .i64 f.1,.slice A1 f.2.1.1.length c1,.slice A2 f.2.1.2.length c2,.slice A3 f.2.2.length c3])/\w'.ownsRow w.heap.size 3 1 (.slice A1 f.2.1.1.length c1) f.2.1.1.length (ints f.2.1.1)/\w'.ownsRow w.heap.size 3 1 (.slice A2 f.2.1.2.length c2) f.2.1.2.length (ints f.2.1.2)/\w'.ownsRow w.heap.size 3 1 (.slice A3 f.2.2.length c3) f.2.2.length (ints f.2.2)/\
 Apart (.slice A1 f.2.1.1.length c1) (.slice A2 f.2.1.2.length c2)/\Apart (.slice A1 f.2.1.1.length c1) (.slice A3 f.2.2.length c3)/\Apart (.slice A2 f.2.1.2.length c2) (.slice A3 f.2.2.length c3)/\Below w.heap.size w w'
theorem qec (t:Option Addr) (b F:Nat) (x:Option Addr) (c G:Nat) (L R:List Int) (w:World) (H:RdL RI w t b L) (I:RdL RI w x c R) (h1:b<=1048576) (h2:c<=1048576):
  Calls Tryz.prog 109 #[.agg #[.slice t b F,.slice x c G]] w (CeE w L R):=by
 obtain rfl:L.length=b:=H.len;obtain rfl:R.length=c:=I.len;obtain⟨b,O⟩:∃n,Hid (L.length=n):=⟨_,rfl⟩;obtain⟨c,P⟩:∃n,Hid (R.length=n):=⟨_,rfl⟩;unfold CeE;rw[O.out]at H h1⊢;rw[P.out]at I h2⊢;obtain⟨i,E,V,D,BP,s⟩:=q1q w #[.slice t b F,.slice x c G] #[.slice none 0 0,.slice none 0 0] 55 55;have U:=zaa E;have M:Hid (∀h,Below i.heap.size i h->Calls Tryz.prog 110 #[.slice t b F] h fun e w'=>∃A' c',e=.returned (.slice A' b c')/\w'.ownsRow h.heap.size 3 1 (.slice A' b c') b (ints L)/\Below h.heap.size h w'):=fun h Y=>q2s t b F L h ((H.next qd V).next qd Y) h1
 have N:Hid (∀h,Below i.heap.size i h->Calls Tryz.prog 110 #[.slice x c G] h fun e w'=>∃A' c',e=.returned (.slice A' c c')/\w'.ownsRow h.heap.size 3 1 (.slice A' c c') c (ints R)/\Below h.heap.size h w'):=fun h Y=>q2s x c G R h ((I.next qd V).next qd Y) h2
 obtain⟨y,z⟩:=cl2 BP;obtain⟨A,B⟩:=cl2 s;have hne:w.heap.size+1≠w.heap.size:=by omega
 have a:Below i.heap.size i i:=zac _ _;have o:w.heap.size+1<i.heap.size:=by omega
 have q:=zaa V;clear E D H I
 go_enter Tryz.func109,Tryz.ntmps109
 go_upto_region 1 with fail;rw[<-U.out]
 first|(go_region_law (first|(go_simp;go_at_call 110;(with_reducible refine(M.out _ ?_).mono ?_);(first|exact a|exact zai a|exact qc (zac _ _) _|exact qc a _);rintro e wn ⟨j,l,rfl,d,g⟩;(try (have r:=(q13 f d (by first|exact zad _|(simp;omega))).symm));(try replace f:=qp f (by first|exact g|exact(qc (zac _ _) _).trans g));replace d:=ql (base':=i.heap.size) d (by exact a.size);replace a:=q9 (by first|exact a|exact zai a|exact qc (zac _ _) _|exact qc a _) g rfl;have Z:=qe a y;have aa:=qe a z;have ab:=qe a A;have ac:=qe a B;have W:=(s.next a).frozen 0;have X:=(s.next a).frozen 1)|(go_simp;go_at_call 110;(with_reducible refine(N.out _ ?_).mono ?_);(first|exact a|exact zai a|exact qc (zac _ _) _|exact qc a _);rintro e wn ⟨k,m,rfl,f,g⟩;(try (have r:=q13 d f (by first|exact zad _|(simp;omega))));(try replace d:=qp d (by first|exact g|exact(qc (zac _ _) _).trans g));replace f:=ql (base':=i.heap.size) f (by exact a.size);replace a:=q9 (by first|exact a|exact zai a|exact qc (zac _ _) _|exact qc a _) g rfl;have Z:=qe a y;have aa:=qe a z;have ab:=qe a A;have ac:=qe a B;have W:=(s.next a).frozen 0;have X:=(s.next a).frozen 1)))|fail
 all_goals
  have BR:=s.next a;have J:Blk ((wn.setCell ⟨w.heap.size+1,0,none⟩ (.slice j b l)).setCell ⟨w.heap.size+1,1,none⟩ (.slice k c m)) (w.heap.size+1) 55 #[.slice j b l,.slice k c m]:=by simpa using(BR.set_ 0 (.slice j b l)).set_ 1 (.slice k c m)
  have Q:=zaa (qx (qx (p:=⟨w.heap.size+1,0,none⟩) (u:=.slice j b l) d o) (p:=⟨w.heap.size+1,1,none⟩) (u:=.slice k c m) o);have S:=zaa (qx (qx (p:=⟨w.heap.size+1,0,none⟩) (u:=.slice j b l) f o) (p:=⟨w.heap.size+1,1,none⟩) (u:=.slice k c m) o);have C:=((q9 q.out a rfl).setCell (p:=⟨w.heap.size+1,0,none⟩) (show w.heap.size<=w.heap.size+1 by omega) (.slice j b l)).setCell (p:=⟨w.heap.size+1,1,none⟩) (show w.heap.size<=w.heap.size+1 by omega) (.slice k c m);have T:=zaa C;have K:=zaa r;clear C r d f BR;go_wp2_with fail
  (try simp only[Exit.inBlock,Exit.then])
  refine zat (v:=.agg #[.slice j b l,.slice k c m]) (zb0 rfl _ _ (w.heap.size+1) 55 #[.slice j b l,.slice k c m] (0,0) _ (by simp) J Tryz.underlying55 rfl (by kernel_rfl)) rfl ?_;exact⟨j,l,k,m,rfl,ql Q.out q.out.size,ql S.out q.out.size,K.out,T.out⟩
theorem q5l (k:Int) (G:Option Addr) (g cL:Nat) (H:Option Addr) (i cR:Nat) (I:Option Addr) (j cV:Nat) (L R V:List Int) (w:World) (hL:RdL RI w G g L) (hR:RdL RI w H i R) (hV:RdL RI w I j V) (h1:g<=1048576) (h2:i<=1048576) (h3:j<=1048576):
  Calls Tryz.prog 79 #[.agg #[.int .i64 k,.slice G g cL,.slice H i cR,.slice I j cV]] w (CfE w (k,(L,R),V)):=by
 obtain rfl:L.length=g:=hL.len;obtain rfl:R.length=i:=hR.len;obtain rfl:V.length=j:=hV.len;obtain⟨g,J⟩:∃n,Hid (L.length=n):=⟨_,rfl⟩;obtain⟨i,K⟩:∃n,Hid (R.length=n):=⟨_,rfl⟩;obtain⟨j,HNV⟩:∃n,Hid (V.length=n):=⟨_,rfl⟩;unfold CfE;simp only;rw[J.out]at hL h1⊢;rw[K.out]at hR h2⊢;rw[HNV.out]at hV h3⊢;obtain⟨m,X,Z,W,BP,t⟩:=q1q w #[.int .i64 k,.slice G g cL,.slice H i cR,.slice I j cV] #[.int .i64 0,.slice none 0 0,.slice none 0 0,.slice none 0 0] 57 57;have HW0:=zaa X;have HC1:Hid (∀l,Below m.heap.size m l->Calls Tryz.prog 136 #[.agg #[.slice G g cL,.slice H i cR]] l fun e w'=>∃r u s x,e=.returned (.agg #[.slice r g u,.slice s i x])/\w'.ownsRow l.heap.size 3 1 (.slice r g u) g (ints L)/\w'.ownsRow l.heap.size 3 1 (.slice s i x) i (ints R)/\Apart (.slice r g u) (.slice s i x)/\Below l.heap.size l w'):=fun l hz=>by
  have:=qfn G g cL H i cR L R l ((hL.next qd Z).next qd hz) ((hR.next qd Z).next qd hz) h1 h2;unfold CeE at this;rw[J.out,K.out]at this;exact this
 have HC2:Hid (∀l,Below m.heap.size m l->Calls Tryz.prog 137 #[.slice I j cV] l fun e w'=>∃A' c',e=.returned (.slice A' j c')/\w'.ownsRow l.heap.size 3 1 (.slice A' j c') j (ints V)/\Below l.heap.size l w'):=fun l hz=>q4i I j cV V l ((hV.next qd Z).next qd hz) h3
 obtain⟨M,N,O,P⟩:=cl4 BP;obtain⟨Q,S,T,U⟩:=cl4 t;have hne:w.heap.size+1≠w.heap.size:=by omega
 have a:Below m.heap.size m m:=zac _ _;have B:w.heap.size+1<m.heap.size:=by omega
 have y:=zaa Z;clear X W hL hR hV
 go_enter Tryz.func79,Tryz.ntmps79
 go_upto_region 1 with fail;rw[<-HW0.out]
 first|(go_region_law (first|(go_simp;go_at_call 136;(with_reducible refine(HC1.out _ ?_).mono ?_);(first|exact a|exact zai a|exact qc (zac _ _) _|exact qc a _);rintro e wn ⟨r,u,s,x,rfl,d,f,C,c⟩;(try (have o:=(q13 b d (by first|exact zad _|(simp;omega))).symm));(try (have q:=(q13 b f (by first|exact zad _|(simp;omega))).symm));(try replace b:=qp b (by first|exact c|exact(qc (zac _ _) _).trans c));replace d:=ql (base':=m.heap.size) d (by exact a.size);replace f:=ql (base':=m.heap.size) f (by exact a.size);replace a:=q9 (by first|exact a|exact zai a|exact qc (zac _ _) _|exact qc a _) c rfl;have xP0:=qe a M;have xP1:=qe a N;have xP2:=qe a O;have xP3:=qe a P;have xR0:=qe a Q;have xR1:=qe a S;have xR2:=qe a T;have xR3:=qe a U;have fR0:=(t.next a).frozen 0;have fR1:=(t.next a).frozen 1;have fR2:=(t.next a).frozen 2;have fR3:=(t.next a).frozen 3)|(go_simp;go_at_call 137;(with_reducible refine(HC2.out _ ?_).mono ?_);(first|exact a|exact zai a|exact qc (zac _ _) _|exact qc a _);rintro e wn ⟨E,F,rfl,b,c⟩;(try (have o:=q13 d b (by first|exact zad _|(simp;omega))));(try (have q:=q13 f b (by first|exact zad _|(simp;omega))));(try replace d:=qp d (by first|exact c|exact(qc (zac _ _) _).trans c));(try replace f:=qp f (by first|exact c|exact(qc (zac _ _) _).trans c));replace b:=ql (base':=m.heap.size) b (by exact a.size);replace a:=q9 (by first|exact a|exact zai a|exact qc (zac _ _) _|exact qc a _) c rfl;have xP0:=qe a M;have xP1:=qe a N;have xP2:=qe a O;have xP3:=qe a P;have xR0:=qe a Q;have xR1:=qe a S;have xR2:=qe a T;have xR3:=qe a U;have fR0:=(t.next a).frozen 0;have fR1:=(t.next a).frozen 1;have fR2:=(t.next a).frozen 2;have fR3:=(t.next a).frozen 3)))|fail
 all_goals
  have BR:=t.next a;obtain⟨Y,z⟩:∃Y,Hid (Y=(((wn.setCell ⟨w.heap.size+1,0,none⟩ (.int .i64 k)).setCell ⟨w.heap.size+1,1,none⟩ (.slice r g u)).setCell ⟨w.heap.size+1,2,none⟩ (.slice s i x)).setCell ⟨w.heap.size+1,3,none⟩ (.slice E j F)):=⟨_,rfl⟩;have BRR:Blk Y (w.heap.size+1) 57 #[.int .i64 k,.slice r g u,.slice s i x,.slice E j F]:=by rw[z.out];simpa using(((BR.set_ 0 (.int .i64 k)).set_ 1 (.slice r g u)).set_ 2 (.slice s i x)).set_ 3 (.slice E j F)
  have A:∀ {v:Value} {n:Nat} {xs:List Value},wn.ownsRow m.heap.size 3 1 v n xs->Y.ownsRow m.heap.size 3 1 v n xs:=fun h=>by
   rw[z.out];exact qx (qx (qx (qx h (by exact B)) (by exact B)) (by exact B)) (by exact B)
  have HO1:=zaa (A d);have HO2:=zaa (A f);have HO3:=zaa (A b);have HTT:Hid (Below w.heap.size w Y):=by
   show Below _ _ _
   rw[z.out];exact((((q9 y.out a rfl).setCell (p:=⟨w.heap.size+1,0,none⟩) (show w.heap.size<=w.heap.size+1 by omega) _).setCell (p:=⟨w.heap.size+1,1,none⟩) (show w.heap.size<=w.heap.size+1 by omega) _).setCell (p:=⟨w.heap.size+1,2,none⟩) (show w.heap.size<=w.heap.size+1 by omega) _).setCell (p:=⟨w.heap.size+1,3,none⟩) (show w.heap.size<=w.heap.size+1 by omega) _
  have D:=zaa (zao C (zao o q));clear d f b BR C o q A;go_wp2_with fail;rw[<-z.out]
  (try simp only[Exit.inBlock,Exit.then])
  refine zat (v:=.agg #[.int .i64 k,.slice r g u,.slice s i x,.slice E j F]) (zb0 rfl _ _ (w.heap.size+1) 57 #[.int .i64 k,.slice r g u,.slice s i x,.slice E j F] (0,0) _ (by simp) BRR zcp rfl (by kernel_rfl)) rfl ?_;exact⟨r,u,s,x,E,F,rfl,ql HO1.out y.out.size,ql HO2.out y.out.size,ql HO3.out y.out.size,D.out.1,D.out.2.1,D.out.2.2,HTT.out⟩
noncomputable def paA (s:ByteArray):qi:=(parA s).getD (0, [])
noncomputable def paB (s:ByteArray):Bool:=(parA s).isSome
theorem qd2 {s:ByteArray} {x:qi} (h:parA s=some x):paA s=x/\paB s=true:=by unfold paA paB;rw[h];exact⟨rfl,rfl⟩
theorem qgp {s:ByteArray} (h:parA s=none):paA s=(0, [])/\paB s=false:=by unfold paA paB;rw[h];exact⟨rfl,rfl⟩
theorem q7o {s:ByteArray} (h:∀x,GoodA x->s=mk (txA x)->False):paA s=(0, [])/\paB s=false:=qgp (qeu fun x a b=>h x a b)
theorem qn4 (w:World):qf.own w [.int .i64 0,.slice none 0 0] (0, []) []:=
 ⟨[.int .i64 0], [.slice none 0 0], [], [],rfl,rfl,⟨_,rfl,⟨rfl,by decide,by decide⟩,rfl⟩,⟨_, [], [],rfl,⟨⟨rfl,.inl ⟨rfl,rfl⟩⟩,rfl,rfl,fun k c x a h=>by simp at h⟩,rfl⟩⟩
theorem q63 {w w':World} {s:ByteArray} (h:paA s=(0, [])/\paB s=false) (a:Below w.heap.size w w'):OwA qf w (paA s) (paB s) (.returned (.tuple #[.agg #[.int .i64 0,.slice none 0 0],.bool false])) w':=by
 rw[h.1,h.2];exact⟨_, [],rfl,qn4 w',Iv.nil _ _,a⟩
theorem qqc {s:ByteArray} {x:qi} (h:GoodA x) (e:s=mk (txA x)):Lib.split (bs s) [59,32]=Lib.itoa x.1::(x.2.map fun o=>q1w [32] (wsT o.2))/\InD x.1/\OpsIs x.1.toNat (x.2.map fun o=>q1w [32] (wsT o.2)) x.2:=by
 rw[e,q9x];exact qj2 h
theorem qmi (s sep:Bs):0<(Lib.split s sep).length:=by
 unfold Lib.split;cases Lib.count s sep with
 |zero=>exact Nat.one_pos
 | succ k =>
   unfold Lib.splitK
   split
   . exact Nat.one_pos
   . simp
theorem qoi {α:Type} {R:World->Value->α->Prop} {w:World} {g o n:Nat} {x:α} {xs:List α} (h:RdL R w (some ⟨g,o,none⟩) (n+1) (x::xs)):RdL R w (some ⟨g,o+1,none⟩) n xs:=by
 obtain⟨a,j,c⟩:=h;refine⟨by simpa using a,by omega,fun k y f=>?_⟩;obtain⟨b,l,v,e,d,i⟩:=c (k+1) y f;injection e with e
 injection e with e1 e2
 subst e1;subst e2;exact⟨_,_,v,rfl,by rw[<-d];congr 2;omega,i⟩
theorem q9d {sep:Bs}:∀(k:Nat) (l:Bs),∀p∈Lib.splitK sep 0 k l,p.length<=l.length
 | 0, l, p, h => by
   rw [Lib.splitK] at h;rw [zb2.1 h];exact zad _
 | k + 1, l, p, h => by
   rw [Lib.splitK] at h
   split at h
   . rw [zb2.1 h]
     exact zad _
   . rcases zbf.1 h with rfl | h
     . rw [za9]; omega
     . have := q9d k _ p h
       rw [zct] at this;omega
theorem qaw {l sep:Bs}:∀p∈Lib.split l sep,p.length<=l.length:=fun p h=>q9d _ _ p h
theorem qop (l sep:Bs) (h:1<=sep.length):(Lib.split l sep).length<=l.length+2:=by
 have a:=q76 (mk l) (mk sep);rw[q9x,q9x]at a;rw[<-a,zbz,q8j (mk l) (mk sep) h];have b:Lib.countB (mk l) (mk sep)<=(bs (mk l)).length+1:=Lib.count_le _ _;rw[q9x]at b;omega
theorem qru {w w':World} {g o n:Nat} {xs:List Bs} (h:RdL RSb w (some ⟨g,o,none⟩) n xs) (f:w'.heap[g]?=w.heap[g]?):RdL RSb w' (some ⟨g,o,none⟩) n xs:=by
 refine⟨h.1,h.2.1,fun k x c=>?_⟩;obtain⟨b,i,v,e,a,d⟩:=h.2.2 k x c;injection e with e
 injection e with e1 e2
 subst e1;subst e2;exact⟨_,_,v,rfl,(zb6 (w:=w) f).trans a,d⟩
theorem OpsIs.nil (n:Nat):OpsIs n [] []:=⟨rfl,fun k p o h=>by simp at h⟩
theorem OpsIs.snoc {n:Nat} {c:List Bs} {ops:List OpM} (h:OpsIs n c ops) {p:Bs} {T:List Int} (f:WsIs (Lib.split p [32]) T):OpsIs n (c++ [p]) (ops++ [(arL n T.length,T)]):=by
 refine⟨by simp[h.1],fun k q o a b=>?_⟩
 by_cases hk:k<c.length
 .rw[zbv hk]at a
  rw[zbv (by rw[<-h.1];exact hk)]at b;exact h.2 k q o a b
 .have d:=(zag.1 a).1
  rw[zbs,List.length_singleton]at d;have e:k=c.length:=by omega
  subst e;rw[zbc (zad _),zda]at a;rw[h.1,zbc (zad _),zda]at b;simp at a b;subst a;subst b;exact⟨f,rfl⟩
theorem OpsIs.unique {n:Nat} {d:List Bs} {a b:List OpM} (h:OpsIs n d a) (c:OpsIs n d b):a=b:=by
 apply zcl;intro k
 by_cases hk:k<d.length
 .have f:a[k]?=some (a[k]'(by rw[<-h.1];exact hk)):=zae _
  have g:b[k]?=some (b[k]'(by rw[<-c.1];exact hk)):=zae _;obtain⟨⟨i,-⟩,j⟩:=h.2 k _ _ (zae hk) f;obtain⟨⟨l,-⟩,m⟩:=c.2 k _ _ (zae hk) g;have e:=qdq (i.symm.trans l);rw[f,g]
  congr 1
  refine Prod.ext ?_ e;rw[j,m,e]
 .rw[zbl (by rw[<-h.1];omega),zbl (by rw[<-c.1];omega)]
theorem WsIs.bad {b:List Bs} {j:Nat} {p:Bs} (a:b[j]?=some p) (e:q3l (mk p)=none):∀T,¬WsIs b T:=fun T h=>by
 obtain⟨c,d⟩:=h;rw[c]at a;unfold wsT at a;rw[za2]at a;cases hv:T[j]? with
 |none=>rw[hv]at a;cases a
 | some v =>
   rw [hv] at a;injection a with a
   have := q3t (d v (zaf hv)) (show mk p = mk (Lib.itoa v) by rw [<- a]);rw [e] at this;cases this
theorem qd7 {P:Program} (t e:TypeId) (i:TypeInfo) (A:Option Addr) (n c:Nat) (b:P.underlying t=some (.slice e)) (hi:P.info? e=some i) (d:1<=n) (w:World):
  (Instr.slice t (.slice A n c) (some (.int .i64 1)) none none).run P w=.ok (.slice (if c=1 then A else A.map (·.add (1*i.size))) (n - 1) (c - 1)) w:=by
 have a:(1:Int)<=(n:Int):=by omega
 simp[Instr.slice,run_underlying b,Instr.sliceBounds,run_sliceBound,sizeOf,typeInfo,hi,a]
theorem q9h (s:ByteArray) (w:World) (hs:s.size<=1048576) (ht:TabP w):
  Calls Tryz.prog 44 #[.string s] w (OwA qf w (paA s) (paB s)):=by
 obtain⟨U,hw0,T0,hsz0,BR⟩:=q15 w #[.int .i64 0,.slice none 0 0] 24;have HW0:=zaa hw0;obtain⟨P,HP⟩:∃P,Hid (Lib.split (bs s) [59,32]=P):=⟨_,zaa rfl⟩;have hp0:0<P.length:=by rw[<-HP.out];exact qmi _ _
 have HSP:Hid (Calls Tryz.prog 80 #[.string s,.string ⟨#[59,32]⟩] U fun e w'=>e=.returned (.slice (some ⟨U.heap.size,0,none⟩) P.length P.length)/\RdL RSb w' (some ⟨U.heap.size,0,none⟩) P.length P/\Below U.heap.size U w'):=by
  have:=q8f s ⟨#[59,32]⟩ U (by omega) (by decide) (ht.next T0);rw[show bs (⟨#[59,32]⟩:ByteArray)= [59,32]from rfl,HP.out]at this;exact this
 have HTB:Hid (∀F,Below U.heap.size U F->TabP F):=fun F Z=>(ht.next T0).next Z
 have HT0:=zaa T0;obtain⟨p0,f,rfl⟩:∃p f,P=p::f:=by
  rcases P with _|⟨p,f⟩
  .simp at hp0
  .exact⟨p,f,rfl⟩
 rw[za0]at HSP;have hpl:f.length+1<=1048578:=by
  have B:=zav List.length HP.out;rw[za0]at B;have C:(Lib.split (bs s) [59,32]).length=Lib.countB s ⟨#[59,32]⟩+1:=by
   have:=q76 s ⟨#[59,32]⟩;rw[show bs (⟨#[59,32]⟩:ByteArray)= [59,32]from rfl]at this;rw[<-this,zbz,q8j _ _ (by decide)]
  have J:Lib.countB s ⟨#[59,32]⟩<=s.size+1:=Lib.count_le _ _;omega
 have HPS:Hid (∀p∈p0::f,p.length<=1048576):=fun p hp=>by
  rw[<-HP.out]at hp;have B:=qaw p hp;have C:(bs s).length=s.size:=rfl;omega
 have HG:Hid (∀x,GoodA x->s=mk (txA x)->p0=Lib.itoa x.1/\f=(x.2.map fun o=>q1w [32] (wsT o.2))/\InD x.1/\OpsIs x.1.toNat f x.2):=fun x B C=>by
  obtain⟨J,h4,R⟩:=qqc B C;rw[HP.out]at J;injection J with J h6
  exact⟨J,h6,h4,by rw[h6];exact R⟩
 clear hw0 hsz0 ht T0 hp0
 go_enter Tryz.func44,Tryz.ntmps44
 go_upto_region 1 with fail;rw[<-HW0.out];go_wp2_with fail;refine HSP.out.mono ?_;rintro e w1 ⟨rfl,hRP,hb1⟩;have BR1:=BR.next hb1;have hc0:w1.cell? ⟨U.heap.size,0,none⟩=some (.string (mk p0)):=by
  obtain⟨b,o,v,e,hc,Q⟩:=hRP.2.2 0 p0 rfl;injection e with e
  injection e with e1 e2
  subst e1;subst e2;rw[show v=.string (mk p0)from Q]at hc;exact hc
 have hRT:=qoi hRP;have hRPl:(0:Int)<((f.length+1:Nat):Int):=by omega
 have HPI:=zaa (q99 (mk p0) w1 (by have:=HPS.out p0 (zaq ..);rw[q60];omega) (HTB.out w1 hb1));clear hRP;go_wp2_with fail;refine HPI.out.mono ?_;rintro e g ⟨rfl,hb2⟩;have hb12:=q9 hb1 hb2 rfl;have BR2:=BR1.next hb2;have T2:=q9 HT0.out hb12 rfl;have m:Blk ((g.setCell ⟨w.heap.size,0,none⟩ (.int .i64 0)).setCell ⟨w.heap.size,1,none⟩ (.slice none 0 0)) w.heap.size 24 #[.int .i64 0,.slice none 0 0]:=by simpa using(BR2.set_ 0 (.int .i64 0)).set_ 1 (.slice none 0 0)
 have HNO:Hid ((paA s=(0, [])/\paB s=false)->OwA qf w (paA s) (paB s) (.returned (.tuple #[.agg #[.int .i64 0,.slice none 0 0],.bool false])) ((g.setCell ⟨w.heap.size,0,none⟩ (.int .i64 0)).setCell ⟨w.heap.size,1,none⟩ (.slice none 0 0))):=fun h=>q63 h ((T2.setCell (p:=⟨w.heap.size,0,none⟩) (zad _) _).setCell (p:=⟨w.heap.size,1,none⟩) (zad _) _)
 obtain⟨cR0,cR1,fR0,fR1⟩:=cf2 BR2;have y:=zaa m;clear m;cases Q:q3l (mk p0)with
 | none =>
   have HR := zaa (q45 Q);have V : Hid (paA s = (0, []) /\ paB s = false) := q7o fun x B C => by
     obtain ⟨J, -, h4, -⟩ := HG.out x B C;have := q3t h4 (show mk p0 = mk (Lib.itoa x.1) by rw [J]);rw [Q] at this;cases this
   rw [HR.out.1, HR.out.2];clear Q;go_wp2_with fail
   (try simp only [Exit.inBlock, Exit.then])
   refine zat (v := .tuple #[.agg #[.int .i64 0, .slice none 0 0], .bool false]) (qn rfl _ _ w.heap.size 24 #[.int .i64 0, .slice none 0 0] (0, 0) _ _ (by simp) y.out zb4 rfl (by kernel_rfl) (by simp)) rfl ?_;exact HNO.out V.out
 | some z =>
   have HR := zaa (q7q Q);have Z := q6j.1 Q;have hpz : p0 = Lib.itoa z := q87 Z.2;have HZ : Hid (∀ x, GoodA x -> s = mk (txA x) -> x.1 = z /\ f = (x.2.map fun o => q1w [32] (wsT o.2)) /\ OpsIs z.toNat f x.2 /\ AlgP x) := fun x B C => by
     obtain ⟨J, h4, -, R⟩ := HG.out x B C;rw [hpz] at J;have e := q80 J;subst e;exact ⟨rfl, h4, R, B.1⟩
   have hzb := Z.1;unfold InD at hzb;rw [HR.out.1, HR.out.2];clear Q Z hpz
   by_cases hn1 : z < 1
   . have V : Hid (paA s = (0, []) /\ paB s = false) := q7o fun x B C => by
       obtain ⟨J, -, -, R⟩ := HZ.out x B C;have := R.1;omega
     go_wp2_with fail
     (try simp only [Exit.inBlock, Exit.then])
     refine zat (v := .tuple #[.agg #[.int .i64 0, .slice none 0 0], .bool false]) (qn rfl _ _ w.heap.size 24 #[.int .i64 0, .slice none 0 0] (0, 0) _ _ (by simp) y.out zb4 rfl (by kernel_rfl) (by simp)) rfl ?_;exact HNO.out V.out
   by_cases hn8 : 8 < z
   . have V : Hid (paA s = (0, []) /\ paB s = false) := q7o fun x B C => by
       obtain ⟨J, -, -, R⟩ := HZ.out x B C;have := R.2.1;omega
     go_wp2_with fail
     (try simp only [Exit.inBlock, Exit.then])
     refine zat (v := .tuple #[.agg #[.int .i64 0, .slice none 0 0], .bool false]) (qn rfl _ _ w.heap.size 24 #[.int .i64 0, .slice none 0 0] (0, 0) _ _ (by simp) y.out zb4 rfl (by kernel_rfl) (by simp)) rfl ?_;exact HNO.out V.out
   by_cases hl5 : (5 : Int) < ((f.length + 1 : Nat) : Int)
   . have V : Hid (paA s = (0, []) /\ paB s = false) := q7o fun x B C => by
       obtain ⟨J, h4, -, R⟩ := HZ.out x B C;have := R.2.2.1;have := zav List.length h4;rw [zbz] at this;omega
     go_wp2_with fail
     (try simp only [Exit.inBlock, Exit.then])
     refine zat (v := .tuple #[.agg #[.int .i64 0, .slice none 0 0], .bool false]) (qn rfl _ _ w.heap.size 24 #[.int .i64 0, .slice none 0 0] (0, 0) _ _ (by simp) y.out zb4 rfl (by kernel_rfl) (by simp)) rfl ?_;exact HNO.out V.out
   obtain ⟨n, rfl⟩ : ∃ n : Nat, z = (n : Int) := ⟨z.toNat, by omega⟩;have hn1' : 1 <= n := by omega
   have hn8' : n <= 8 := by omega
   have h1l : (1 : Int) <= ((f.length + 1 : Nat) : Int) := by omega
   go_upto_region 6 with fail;obtain ⟨w3, HW3⟩ : ∃ x, Hid (x = g.alloc (.cells #[.int .i64 n, .slice none 0 0] 24)) := ⟨_, zaa rfl⟩;rw [<- HW3.out];have hb3 : Below g.heap.size g w3 := by rw [HW3.out]; exact qm _ _
   have BA3 : Blk w3 g.heap.size 24 #[.int .i64 n, .slice none 0 0] := by rw [HW3.out]; exact Blk.new _ _ _
   have HRT3 : Hid (RdL RSb g (some ⟨U.heap.size, 1, none⟩) f.length f) := hRT.next q9q hb2;obtain ⟨i0, hi0, -, hi1, -⟩ := info_parts q8o;obtain ⟨A43, HA43⟩ : ∃ A, Hid (A = if f.length + 1 = 1 then some (⟨U.heap.size, 0, none⟩ : Addr) else (some (⟨U.heap.size, 0, none⟩ : Addr)).map (·.add (1 * i0.size))) := ⟨_, zaa rfl⟩;have hsl : ∀ F, (Instr.slice 117 (.slice (some ⟨U.heap.size, 0, none⟩) (f.length + 1) (f.length + 1)) (some (.int .i64 1)) none none).run Tryz.prog F = .ok (.slice A43 f.length f.length) F := fun F => by
     have := qd7 (P := Tryz.prog) 117 9 i0 (some ⟨U.heap.size, 0, none⟩) (f.length + 1) (f.length + 1) Tryz.underlying117 hi0 (by omega) F;rw [this, HA43.out];rfl
   have HA : Hid (RdL RSb g A43 f.length f) := by
     show RdL _ _ _ _ _
     rw [HA43.out]
     by_cases h0 : f = []
     . subst h0
       exact RdL.nil _ _ _
     . have : ¬ f.length + 1 = 1 := by have := List.length_pos_iff.2 h0; omega
       rw [zaj this, hi1];exact HRT3.out
   clear hi0 hi1
   go_cut [43, 44, 45] from 42 to 45 (fun u43 u44 u45 wx => w3 = wx /\ u44 = .int .i64 (f.length : Int) /\ u45 = .int .i64 0 /\ ∃ A c, u43 = .slice A f.length c /\ RdL RSb g A f.length f)
   case first =>
     go_wp2_with fail;go_meet;exact ⟨rfl, rfl, rfl, A43, f.length, rfl, HA.out⟩
   case rest =>
     obtain ⟨rfl, rfl, rfl, A, c, rfl, hrA⟩ := hcut;have HRA := zaa hrA;have HBR := zaa BR2;have HT2 := zaa T2;have HB12 := zaa hb12;have HPB : Hid (∀ p ∈ f, p.length <= 1048576) := fun p hp => HPS.out p (zap _ hp)
     have hwz : w.heap.size < g.heap.size := BR2.lt;clear hRT HRT3 hb2 hb12 hb1 BR1 cR0 cR1 fR0 fR1 y HNO HPI HSP hl5 h1l hsl HA HA43 hrA BR2 T2 hRPl hc0;go_wp2_with fail
     go_loopw [45] (fun i wr => ∃ (k : Nat) (d : List OpM) (v : Value) (css : List (List Value)) (bls : List (List Nat)), k <= f.length /\ i = .int .i64 (k : Int) /\ Blk wr g.heap.size 24 #[.int .i64 n, v] /\ PO (g.heap.size + 1) wr v d css bls /\ Hid (OpsIs n (f.take k) d) /\ Below g.heap.size g wr) (fun i _ => f.length - (intOf i).toNat)
     case atStart => exact ⟨0, [], _, [], [], zah _, rfl, BA3, PO.nil _ _, zaa (by rw [zcw]; exact OpsIs.nil _), hb3⟩
     case round =>
       clear BA3 hb3 HW3;obtain ⟨k, d, v, css, bls, hk, rfl, BA, M, HOI, H⟩ := hrel;obtain ⟨l, rfl⟩ : ∃ x : World, x = wr := ⟨_, rfl⟩;have hlo : g.heap.size + 1 <= l.heap.size := BA.lt
       by_cases hlt : k < f.length
       . have hk0 : (0 : Int) <= (k : Int) := by omega
         have hk1 : (k : Int) < (f.length : Int) := by omega
         obtain ⟨bp, op, vp, p, rfl, hcp, hvp, -, hxp⟩ := (HRA.out.next q9q H).at hlt;have hvp' : vp = .string (mk p) := hvp;subst hvp';have hpz := HPB.out p (zaf hxp);have HXP := zaa hxp;obtain ⟨W, HW⟩ : ∃ W, Hid (Lib.split p [32] = W) := ⟨_, zaa rfl⟩;have hWl : W.length <= 1048578 := by rw [<- HW.out]; have := qop p [32] (by decide); omega
         have HWP : Hid (∀ t ∈ W, t.length <= 1048576) := fun t ht => by
           rw [<- HW.out] at ht;have := qaw t ht;omega
         obtain ⟨K, hw5, T5, hsz5, BX5⟩ := q15 l #[.int .i64 0, .slice none 0 0] 122;have HW5 := zaa hw5;have hz5 : l.heap.size < K.heap.size := BX5.lt;have HSW : Hid (Calls Tryz.prog 80 #[.string (mk p), .string ⟨#[32]⟩] K fun e w' => e = .returned (.slice (some ⟨K.heap.size, 0, none⟩) W.length W.length) /\ RdL RSb w' (some ⟨K.heap.size, 0, none⟩) W.length W /\ Below K.heap.size K w') := by
           have := q8f (mk p) ⟨#[32]⟩ K (by rw [q60]; omega) (by decide) (HTB.out K (q9 HB12.out (H.trans (T5.mono (by omega))) rfl));rw [q9x, show bs (⟨#[32]⟩ : ByteArray) = [32] from rfl, HW.out] at this;exact this
         clear hw5 hxp hvp hsz5;go_upto_region 10 with fail;rw [<- HW5.out];go_wp2_with fail;refine HSW.out.mono ?_;rintro e w6 ⟨rfl, hRW, hb6⟩;have BX6 := BX5.next hb6;have hT6 := q9 T5 hb6 rfl;have HRW := zaa hRW;have hz6 := hb6.size;clear T5 hb6 BX5 HSW hRW;go_wp2_with fail
         go_loopw [53] (fun i wr => ∃ (j : Nat) (T : List Int) (A : Option Addr) (c : Nat), j <= W.length /\ i = .int .i64 (j : Int) /\ Blk wr l.heap.size 122 #[.int .i64 0, .slice A j c] /\ wr.ownsRow w6.heap.size 3 1 (.slice A j c) j (ints T) /\ Hid (WsIs (W.take j) T) /\ wr.heap[K.heap.size]? = w6.heap[K.heap.size]? /\ Below l.heap.size l wr /\ w6.heap.size <= wr.heap.size) (fun i _ => W.length - (intOf i).toNat)
         case atStart => exact ⟨0, [], none, 0, zah _, rfl, BX6, World.ownsRow_nil _ _ _ _, zaa ⟨by rw [zcw]; rfl, fun v hv => by cases hv⟩, rfl, hT6, zad _⟩
         case round =>
           clear BX6 hT6;obtain ⟨j, T, At, ct, hj, rfl, BX, S, HWT, hgk, hT, hz7⟩ := hrel
           by_cases hjl : j < W.length
           . have hj0 : (0 : Int) <= (j : Int) := by omega
             have hj1 : (j : Int) < (W.length : Int) := by omega
             obtain ⟨bq, oq, vq, q, e1, hcq, hvq, -, hxq⟩ := (qru HRW.out hgk).at hjl;injection e1 with e1
             injection e1 with e1 e2
             subst e1;subst e2;have hvq' : vq = .string (mk q) := hvq;subst hvq';rw [zcn] at hcq;have hqz := HWP.out q (zaf hxq);have HXQ := zaa hxq;have hgo : K.heap.size < w6.heap.size := by
               have := HRW.out.2.2 0 W[0] (zae (by omega));obtain ⟨b, o, v, e, hc, -⟩ := this;injection e with e
               injection e with e1 e2
               subst e1;exact q50 hc
             have HPI2 := zaa (q99 (mk q) wr (by rw [q60]; omega) (HTB.out wr (q9 HB12.out (H.trans (hT.mono (by omega))) rfl)));clear hxq hvq;go_wp2_with fail;refine HPI2.out.mono ?_;rintro e w7 ⟨rfl, r⟩;have BX7 := BX.next r;have hT7 := q9 hT r rfl;have hown7 := qp S r;have hgk7 : w7.heap[K.heap.size]? = w6.heap[K.heap.size]? := (r.block _ (by omega)).trans hgk;have hz77 := r.size;cases Q : q3l (mk q) with
             | none =>
               have HR := zaa (q45 Q);have V : Hid (paA s = (0, []) /\ paB s = false) := q7o fun x B C => by
                 obtain ⟨J, h4, R, -⟩ := HZ.out x B C;obtain ⟨o, ho⟩ : ∃ o, x.2[k]? = some o := ⟨x.2[k]'(by rw [<- R.1]; exact hlt), zae _⟩;obtain ⟨h6, -⟩ := R.2 k p o HXP.out ho;rw [HW.out] at h6;exact WsIs.bad HXQ.out Q _ h6
               have E : Below g.heap.size g w7 := H.trans (hT7.mono (by omega));have BR7 := HBR.out.below E hwz;obtain ⟨cR0, cR1, fR0, fR1⟩ := cf2 BR7;have m : Blk ((w7.setCell ⟨w.heap.size, 0, none⟩ (.int .i64 0)).setCell ⟨w.heap.size, 1, none⟩ (.slice none 0 0)) w.heap.size 24 #[.int .i64 0, .slice none 0 0] := by simpa using (BR7.set_ 0 (.int .i64 0)).set_ 1 (.slice none 0 0)
               have y := zaa m;have L : Hid (Below w.heap.size w ((w7.setCell ⟨w.heap.size, 0, none⟩ (.int .i64 0)).setCell ⟨w.heap.size, 1, none⟩ (.slice none 0 0))) := ((q9 HT2.out E rfl).setCell (p := ⟨w.heap.size, 0, none⟩) (zad _) _).setCell (p := ⟨w.heap.size, 1, none⟩) (zad _) _;rw [HR.out.1, HR.out.2];clear Q m BR7 hgk hgk7;go_wp2_with fail
               (try simp only [Exit.inBlock, Exit.then])
               refine zat (v := .tuple #[.agg #[.int .i64 0, .slice none 0 0], .bool false]) (qn rfl _ _ w.heap.size 24 #[.int .i64 0, .slice none 0 0] (0, 0) _ _ (by simp) y.out zb4 rfl (by kernel_rfl) (by simp)) rfl ?_;exact q63 V.out L.out
             | some z =>
               have HR := zaa (q7q Q);have Z := q6j.1 Q;have hqz2 : q = Lib.itoa z := q87 Z.2;have hzb := Z.1;unfold InD at hzb;have HWN : Hid (WsIs (W.take (j + 1)) (T ++ [z])) := by
                 refine ⟨?_, fun u hu => ?_⟩
                 . rw [zbp, HXQ.out, HWT.out.1, hqz2]
                   simp [wsT]
                 . rcases zau.1 hu with hu | hu
                   . exact HWT.out.2 u hu
                   . rw [zb2.1 hu]; exact Z.1
               rw [HR.out.1, HR.out.2];obtain ⟨cX0, cX1⟩ := cl2 BX7;have hbase : w6.heap.size <= w7.heap.size := by omega
               clear Q Z hqz2 hgk BX S hT r
               go_wp2_with (at_builtin; refine app1 w7 rfl _ _ 43 3 rfl (.int .i64 0) 8 za1 q14 rfl (by decide) w6.heap.size j ct At (ints T) rfl hown7 (.int .i64 z) rfl rfl (by omega) hbase ?_; intro A8 c8 D I hg8 N; have BX8 := BX7.grown hg8 (fun e => q1s hown7 BX7 (by decide) e.symm); have cX81 := BX8.cell 1; have fX81 := BX8.frozen 1; simp at cX81)
               have hgk8 : (D.setCell ⟨l.heap.size, 1, none⟩ (.slice A8 (j + 1) c8)).heap[K.heap.size]? = w6.heap[K.heap.size]? := by
                 rw [za8 D ⟨l.heap.size, 1, none⟩ _ K.heap.size (by show _ ≠ l.heap.size; omega)];exact (N.block _ hgo).trans hgk7
               have Y : Below l.heap.size l (D.setCell ⟨l.heap.size, 1, none⟩ (.slice A8 (j + 1) c8)) := (hT7.trans (N.mono (by omega))).setCell (p := ⟨l.heap.size, 1, none⟩) (zad _) _;have BX9 : Blk (D.setCell ⟨l.heap.size, 1, none⟩ (.slice A8 (j + 1) c8)) l.heap.size 122 #[.int .i64 0, .slice A8 (j + 1) c8] := by simpa using BX8.set_ 1 (.slice A8 (j + 1) c8)
               have O := qx (p := ⟨l.heap.size, 1, none⟩) (u := .slice A8 (j + 1) c8) I (by show l.heap.size < w6.heap.size; omega);have hz9 : w6.heap.size <= (D.setCell ⟨l.heap.size, 1, none⟩ (.slice A8 (j + 1) c8)).heap.size := by simp; have := N.size; omega
               go_roundw
               case rel => exact ⟨j + 1, T ++ [z], A8, c8, by omega, by go_num, BX9, by simpa [ints] using O, HWN, hgk8, Y, hz9⟩
               case measure => simp [intOf]; omega
           . obtain rfl : j = W.length := by omega
             have hj1 : ¬ (W.length : Int) < (W.length : Int) := by omega
             have HWF : Hid (WsIs (Lib.split p [32]) T) := by
               show WsIs _ _
               rw [HW.out];have := HWT.out
               rwa [zar (zad _)] at this
             have htl : T.length = W.length := by
               have := zav List.length HWT.out.1;rw [zar (zad _), q62] at this;exact this.symm
             obtain ⟨ar, HAR⟩ : ∃ a, Hid (arL n W.length = a) := ⟨_, zaa rfl⟩;have HAO : Hid (∀ F, Calls Tryz.prog 82 #[.int .i64 (W.length : Int), .int .i64 (n : Int)] F fun e w' => e = .returned (.int .i64 ar) /\ F = w') := fun F => by
               have := qfl W.length n F hn8'
               rwa [HAR.out] at this
             have har : -1 <= ar /\ ar <= 3 := by
               rw [<- HAR.out];unfold arL
               split
               . omega
               . split
                 . omega
                 . split
                   . omega
                   . split <;> omega
             have cX0 := BX.cell 0;have cX1 := BX.cell 1;have fX0 := BX.frozen 0;simp at cX0 cX1;obtain ⟨Ao, co, rfl⟩ := qu M.2.1;obtain ⟨D, HW8⟩ : ∃ x, Hid (x = wr.setCell ⟨l.heap.size, 0, none⟩ (.int .i64 ar)) := ⟨_, zaa rfl⟩;have Y : Below l.heap.size l D := by rw [HW8.out]; exact hT.setCell (p := ⟨l.heap.size, 0, none⟩) (zad _) _
             have BX8 : Blk D l.heap.size 122 #[.int .i64 ar, .slice At W.length ct] := by rw [HW8.out]; simpa using BX.set_ 0 (.int .i64 ar)
             have I : D.ownsRow w6.heap.size 3 1 (.slice At W.length ct) W.length (ints T) := by rw [HW8.out]; exact qx (p := ⟨l.heap.size, 0, none⟩) S (by show l.heap.size < w6.heap.size; omega)
             have hsz8 : D.heap.size = wr.heap.size := by rw [HW8.out]; simp
             have BAr := BA.next hT;have cAr := BAr.cell 1;simp at cAr;have BA8 := BA.next Y;have cA1 := BA8.cell 1;have cX81 := BX8.cell 1;simp at cA1 cX81;have hO8 : shOp.own D [.int .i64 ar, .slice At W.length ct] (ar, T) (obl (.slice At W.length ct)) := by
               refine ⟨[.int .i64 ar], [.slice At W.length ct], [], obl (.slice At W.length ct), rfl, rfl, ⟨_, rfl, ⟨rfl, by omega, by omega⟩, rfl⟩, ⟨_, rfl, ?_, ?_, rfl⟩⟩
               . show D.ownsRow 0 3 1 _ T.length _
                 rw [htl];exact ql I (zah _)
               . intro u hu
                 have := HWF.out.2 u hu;unfold InD at this;exact ⟨by omega, by omega⟩
             have hiv8 : Iv l.heap.size D.heap.size (obl (.slice At W.length ct)) := (q7g I).mono (by omega) (zad _);obtain ⟨hvs, HPU⟩ := M.push Y hlo hO8 hiv8;have hol : d.length <= 4 := by
               have := HOI.out.1;rw [za9] at this;omega
             have hl8 : g.heap.size + 1 <= D.heap.size := by have := Y.size; omega
             have HON : Hid (OpsIs n (f.take (k + 1)) (d ++ [(ar, T)])) := by
               show OpsIs _ _ _
               rw [zbp, HXP.out, <- HAR.out, <- htl];exact HOI.out.snoc HWF.out
             have hB28 : Below g.heap.size g D := H.trans (Y.mono (by omega));clear hgk S M BA hO8 hiv8 cA1
             go_wp2_with (first
               | (go_at_call 82; refine (HAO.out _).mono ?_; rintro e w' ⟨rfl, rfl⟩)
               | (at_builtin; go_loud (rw [<- HW8.out]; refine app2 D rfl _ _ 22 122 rfl (.agg #[.int .i64 0, .slice none 0 0]) 32 ze7 q70 rfl (by decide) (g.heap.size + 1) d.length co Ao css.flatten rfl hvs (.int .i64 ar) (.slice At W.length ct) rfl rfl (by rw [hsz8]; rfl) (by omega) hl8 ?_; intro A9 c9 w9 O hg9 hb9; have BA9 := BA8.grown hg9 (fun e => q1s hvs BA8 (by decide) e.symm); have cA91 := BA9.cell 1; have fA91 := BA9.frozen 1; simp at cA91)))
             have PN := (HPU O hg9).far (p := ⟨g.heap.size, 1, none⟩) (by show g.heap.size < g.heap.size + 1; omega) (.slice A9 (d.length + 1) c9);have BA10 : Blk (w9.setCell ⟨g.heap.size, 1, none⟩ (.slice A9 (d.length + 1) c9)) g.heap.size 24 #[.int .i64 n, .slice A9 (d.length + 1) c9] := by simpa using BA9.set_ 1 (.slice A9 (d.length + 1) c9)
             have hB10 : Below g.heap.size g (w9.setCell ⟨g.heap.size, 1, none⟩ (.slice A9 (d.length + 1) c9)) := (hB28.trans (hb9.mono (by omega))).setCell (p := ⟨g.heap.size, 1, none⟩) (zad _) _
             go_roundw
             case rel => exact ⟨k + 1, _, _, _, _, by omega, by go_num, BA10, PN, HON, hB10⟩
             case measure => simp [intOf]; omega
       . obtain rfl : k = f.length := by omega
         have hk1 : ¬ (f.length : Int) < (f.length : Int) := by omega
         have HOF : Hid (OpsIs n f d) := by
           have := HOI.out
           rwa [zar (zad _)] at this
         obtain ⟨cA0, cA1⟩ := cl2 BA;obtain ⟨Ao, co, rfl⟩ := qu M.2.1;have hral : qf.rd l [.int .i64 (n : Int), .slice Ao d.length co] ((n : Int), d) := qf.ord (M.algO (a := (n : Int)) ⟨by omega, by omega⟩);have HIA := zaa (q5t _ _ l hral);obtain ⟨ab, HAB⟩ : ∃ b, Hid (algB ((n : Int), d) = b) := ⟨_, zaa rfl⟩;rw [HAB.out] at HIA;have HUX : Hid (∀ x, GoodA x -> s = mk (txA x) -> x = ((n : Int), d)) := fun x B C => by
           obtain ⟨J, -, R, -⟩ := HZ.out x B C;exact Prod.ext J ((OpsIs.unique HOF.out R).symm)
         have HARP : Hid (ArP ((n : Int), d)) := fun o ho => by
           obtain ⟨i, hi⟩ := zbo ho;have hil := (zag.1 hi).1;have := HOF.out.2 i _ o (zae (by rw [HOF.out.1]; exact hil)) hi;exact this.2
         rcases ab with _ | _
         . have V : Hid (paA s = (0, []) /\ paB s = false) := q7o fun x B C => by
             have e := HUX.out x B C;have := q43.2 B.1;rw [e, HAB.out] at this;cases this
           go_wp2_with fail;refine HIA.out.mono ?_;rintro e w7 ⟨rfl, r⟩;have E := H.trans (r.mono (by omega));have G := HBR.out.below E hwz;obtain ⟨cR0, cR1, fR0, fR1⟩ := cf2 G;have m : Blk ((w7.setCell ⟨w.heap.size, 0, none⟩ (.int .i64 0)).setCell ⟨w.heap.size, 1, none⟩ (.slice none 0 0)) w.heap.size 24 #[.int .i64 0, .slice none 0 0] := by simpa using (G.set_ 0 (.int .i64 0)).set_ 1 (.slice none 0 0)
           have y := zaa m;have L : Hid (Below w.heap.size w ((w7.setCell ⟨w.heap.size, 0, none⟩ (.int .i64 0)).setCell ⟨w.heap.size, 1, none⟩ (.slice none 0 0))) := ((q9 HT2.out E rfl).setCell (p := ⟨w.heap.size, 0, none⟩) (zad _) _).setCell (p := ⟨w.heap.size, 1, none⟩) (zad _) _;clear m G;go_wp2_with fail
           (try simp only [Exit.inBlock, Exit.then])
           refine zat (v := .tuple #[.agg #[.int .i64 0, .slice none 0 0], .bool false]) (qn rfl _ _ w.heap.size 24 #[.int .i64 0, .slice none 0 0] (0, 0) _ _ (by simp) y.out zb4 rfl (by kernel_rfl) (by simp)) rfl ?_;exact q63 V.out L.out
         . have hAP := q43.1 HAB.out
           have HAP := zaa hAP;have HRAL := zaa hral;obtain ⟨X, HXT⟩ : ∃ X, Hid (mk (txA ((n : Int), d)) = X) := ⟨_, zaa rfl⟩;have HAT : Hid (∀ F, Below l.heap.size l F -> Calls Tryz.prog 83 #[.agg #[.int .i64 (n : Int), .slice Ao d.length co]] F (Bl F (.string X))) := fun F Z => by
             have := q9v [.int .i64 (n : Int), .slice Ao d.length co] ((n : Int), d) F (qf.stab HRAL.out Z.block) HAP.out (HTB.out F (q9 HB12.out (H.trans (Z.mono (by omega))) rfl)).1
             rwa [HXT.out] at this
           clear hAP hral;go_wp2_with fail;refine HIA.out.mono ?_;rintro e w7 ⟨rfl, r⟩;have E := H.trans (r.mono (by omega));have dA0 := qe r cA0;have dA1 := qe r cA1;go_wp2_with fail;refine (HAT.out w7 r).mono ?_;rintro e D ⟨rfl, N⟩;have hb78 := q9 r N rfl;have hT28 : Below g.heap.size g D := H.trans (hb78.mono (by omega));have G := HBR.out.below hT28 hwz;obtain ⟨cR0, cR1, fR0, fR1⟩ := cf2 G
           by_cases he : X = s
           . have hd : (X.toList == s.toList) = true := q3p (q2f.2 he)
             have HGO : Hid (paA s = ((n : Int), d) /\ paB s = true) := qd2 (qas ⟨HAP.out, HARP.out⟩ (by rw [HXT.out]; exact he.symm));have eA0 := qe N dA0;have eA1 := qe N dA1;have m : Blk ((D.setCell ⟨w.heap.size, 0, none⟩ (.int .i64 n)).setCell ⟨w.heap.size, 1, none⟩ (.slice Ao d.length co)) w.heap.size 24 #[.int .i64 n, .slice Ao d.length co] := by simpa using (G.set_ 0 (.int .i64 n)).set_ 1 (.slice Ao d.length co)
             have y := zaa m;have L : Hid (Below w.heap.size w ((D.setCell ⟨w.heap.size, 0, none⟩ (.int .i64 n)).setCell ⟨w.heap.size, 1, none⟩ (.slice Ao d.length co))) := ((q9 HT2.out hT28 rfl).setCell (p := ⟨w.heap.size, 0, none⟩) (zad _) _).setCell (p := ⟨w.heap.size, 1, none⟩) (zad _) _;have HPO := zaa (((M.next hb78).far (p := ⟨w.heap.size, 0, none⟩) (by show w.heap.size < g.heap.size + 1; omega) (.int .i64 n)).far (p := ⟨w.heap.size, 1, none⟩) (by show w.heap.size < g.heap.size + 1; omega) (.slice Ao d.length co));clear he m G M;go_wp2_with fail
             (try simp only [Exit.inBlock, Exit.then])
             refine zat (v := .tuple #[.agg #[.int .i64 n, .slice Ao d.length co], .bool true]) (qn rfl _ _ w.heap.size 24 #[.int .i64 n, .slice Ao d.length co] (0, 0) _ _ (by simp) y.out zb4 rfl (by kernel_rfl) (by simp)) rfl ?_;rw [HGO.out.1, HGO.out.2];exact ⟨_, _, rfl, HPO.out.algO ⟨by omega, by omega⟩, HPO.out.2.2.mono (by omega) (zad _), L.out⟩
           . have hd : (X.toList == s.toList) = false := q3p (q7a.2 he)
             have V : Hid (paA s = (0, []) /\ paB s = false) := q7o fun x B C => by
               have e := HUX.out x B C;rw [e, HXT.out] at C;exact he C.symm
             have m : Blk ((D.setCell ⟨w.heap.size, 0, none⟩ (.int .i64 0)).setCell ⟨w.heap.size, 1, none⟩ (.slice none 0 0)) w.heap.size 24 #[.int .i64 0, .slice none 0 0] := by simpa using (G.set_ 0 (.int .i64 0)).set_ 1 (.slice none 0 0)
             have y := zaa m;have L : Hid (Below w.heap.size w ((D.setCell ⟨w.heap.size, 0, none⟩ (.int .i64 0)).setCell ⟨w.heap.size, 1, none⟩ (.slice none 0 0))) := ((q9 HT2.out hT28 rfl).setCell (p := ⟨w.heap.size, 0, none⟩) (zad _) _).setCell (p := ⟨w.heap.size, 1, none⟩) (zad _) _;clear he m G;go_wp2_with fail
             (try simp only [Exit.inBlock, Exit.then])
             refine zat (v := .tuple #[.agg #[.int .i64 0, .slice none 0 0], .bool false]) (qn rfl _ _ w.heap.size 24 #[.int .i64 0, .slice none 0 0] (0, 0) _ _ (by simp) y.out zb4 rfl (by kernel_rfl) (by simp)) rfl ?_;exact q63 V.out L.out
theorem tk {P:Program} {e:Region.Mode} {ops:Array Oper} {Q:Exit->Act->World->Prop} {S:World->Prop} (i:Nat) (v:Value) {f:Oper} {d:Nat} {b:Array Bool} {a:Act} {w:World} (hi:ops[i]?=some f) (m:YieldsIf P ops S f v a)
  (h:wpAnyH P e ops Q S d (b.setIfInBounds i true) (a.put f.dst v) w) (l:Region.noSelect ops=true:=by kernel_rfl) (j:Region.free e ops b i=true:=by kernel_rfl) (k:(Region.ready e ops b).contains i=true:=by kernel_rfl)
  (g:∀c a w,Q (.panic c) (a.put f.dst v) w->Q (.panic c) a w:=by exact fun _ _ _ h=>h) (hS:S w:=by assumption):wpAnyH P e ops Q S (d+1) b a w:=wpAnyH_take hi l j k g m hS h
theorem tp {P:Program} {f:Region.Mode} {ops:Array Oper} {Q:Exit->Act->World->Prop} {S:World->Prop} (i:Nat) (v:Value) {e:Oper} {d:Nat} {b:Array Bool} {a:Act} {w:World} (hi:ops[i]?=some e)
  (h:wpAnyH P f ops Q S d (b.setIfInBounds i true) (a.put e.dst v) w) (l:Region.wanted e (yielded ops a.tmps)=true:=by kernel_rfl) (j:∀w,S w->(execOp a.eval e).run P w=.ok (.value v) w:=by intro _ _;go_simp) (n:Region.noSelect ops=true:=by kernel_rfl) (k:Region.free f ops b i=true:=by kernel_rfl) (m:(Region.ready f ops b).contains i=true:=by kernel_rfl)
  (g:∀c a w,Q (.panic c) (a.put e.dst v) w->Q (.panic c) a w:=by exact fun _ _ _ h=>h) (hS:S w:=by assumption):wpAnyH P f ops Q S (d+1) b a w:=tk i v hi (.inl ⟨l,j⟩) h n k m g hS
theorem tu {P:Program} {e:Region.Mode} {ops:Array Oper} {Q:Exit->Act->World->Prop} {S:World->Prop} (i:Nat) {f:Oper} {d:Nat} {b:Array Bool} {a:Act} {w:World} (hi:ops[i]?=some f)
  (h:wpAnyH P e ops Q S d (b.setIfInBounds i true) (a.put f.dst undef) w) (k:Region.wanted f (yielded ops a.tmps)=false:=by kernel_rfl) (m:Region.noSelect ops=true:=by kernel_rfl) (j:Region.free e ops b i=true:=by kernel_rfl) (l:(Region.ready e ops b).contains i=true:=by kernel_rfl)
  (g:∀c a w,Q (.panic c) (a.put f.dst undef) w->Q (.panic c) a w:=by exact fun _ _ _ h=>h) (hS:S w:=by assumption):wpAnyH P e ops Q S (d+1) b a w:=tk i undef hi (.inr ⟨k,rfl⟩) h m j l g hS
section
variable {P:Program} {md:Region.Mode} {ops:Array Oper} {Q:Exit->Act->World->Prop} {S:World->Prop} {fuel:Nat} {listed:Array Bool} {a:Act} {w:World}
theorem r1 (i:Nat) {o:Oper} (b:ops[i]?=some o) (h:∀K':Act->World->Prop,Shut (∀a w,S w->(S w->wpAnyH P md ops Q S fuel (listed.setIfInBounds i true) a w)->K' a w)->if Region.wanted o (yielded ops a.tmps)=true then Oper.wp P o a w K' Q else K' (a.put o.dst undef) w)
  (c:Region.ready md ops listed= [i]:=by kernel_rfl):wpAnyH P md ops Q S (fuel+1) listed a w:=ze5 c (by simp) (.cons b h .nil)
theorem r2 (i j:Nat) {o b:Oper} (e:ops[i]?=some o) (h:∀K':Act->World->Prop,Shut (∀a w,S w->(S w->wpAnyH P md ops Q S fuel (listed.setIfInBounds i true) a w)->K' a w)->if Region.wanted o (yielded ops a.tmps)=true then Oper.wp P o a w K' Q else K' (a.put o.dst undef) w)
  (c:ops[j]?=some b) (d:∀K':Act->World->Prop,Shut (∀a w,S w->(S w->wpAnyH P md ops Q S fuel (listed.setIfInBounds j true) a w)->K' a w)->if Region.wanted b (yielded ops a.tmps)=true then Oper.wp P b a w K' Q else K' (a.put b.dst undef) w)
  (f:Region.ready md ops listed= [i,j]:=by kernel_rfl):wpAnyH P md ops Q S (fuel+1) listed a w:=ze5 f (by simp) (.cons e h (.cons c d .nil))
end
theorem al (w:World) (cs:Array Value) (t:TypeId):∃x,Hid (x=w.alloc (.cells cs t))/\Below w.heap.size w x/\Blk x w.heap.size t cs/\w.heap.size<x.heap.size:=
 ⟨_,zaa rfl,qm _ _,Blk.new _ _ _,(Blk.new w t cs).lt⟩
theorem zA {α:Type _} {xs:List α} {i:Nat} (h:i<xs.toArray.size):xs.toArray[i]=xs[i]'(by simpa using h):=List.getElem_toArray h
theorem zB {α:Type _} {a:α} {l:List α} {h:0<(a::l).length}:(a::l)[0]=a:=rfl
theorem zC {α:Type _} {a:α} {l:List α} {i:Nat} {h:i+1<(a::l).length}:(a::l)[i+1]=l[i]'(Nat.lt_of_succ_lt_succ h):=rfl
theorem zD {α:Type _} (l:List α) (i:Nat) (a:α):l.toArray.setIfInBounds i a=(l.set i a).toArray:=List.setIfInBounds_toArray l i a
theorem zE {α:Type _} {x:α} {l:List α} {a:α}:(x::l).set 0 a=a::l:=rfl
theorem zF {α:Type _} {x:α} {l:List α} {n:Nat} {a:α}:(x::l).set (n+1) a=x::l.set n a:=rfl
theorem qb9 {P:Program} (w:World) (t J e:TypeId) (i:TypeInfo) (z:Value) (size bytes:Nat) (K:P.underlying t=some (.slice e)) (hi:P.info? e=some i) (L:i.zero=some z)
  (x:i.size=size) (D:i.bytes=bytes) (I:z.cells.size=size) (A:Option Addr) (n c:Nat) (g:List Value) (q:g.length=n*size)
  (M:(A=none/\n=0/\c=0)\/∃b,A=some b/\∀j v,g[j]?=some v->w.cell? (b.add j)=some v)
  (a:Addr) (m d:Nat) (f:List Value) (B:f.length=m*size) (p:∀j u,f[j]?=some u->w.cell? (a.add j)=some u) (Q:0<m) (E:c<n+m)
  (y:n+m<=maxLen) (k:(n+m)*bytes<=140737488355328):
  ∃v' w',(Builtin.append_ #[t,t] J #[.slice A n c,.slice (some a) m d]).run P w=.ok v' w'/\w'.ownsRow w.heap.size e size v' (n+m) (g++f)/\Below w.heap.size w w':=by
 subst x;subst D;have C:n+m<=9223372036854775807:=by simp only[maxLen]at y;omega
 have r:(g++f).length=(n+m)*i.size:=by rw[zbs,q,B,Nat.add_mul]
 have o:∀(h:Nat),h<n+m->
   (w.drew.alloc (.cells (g.toArray ++ f.toArray ++ Builtin.zeroCells z.cells (grownCap w (n + m) h e - (n + m))) e)).ownsRow w.heap.size e i.size
     (.slice (some ⟨w.heap.size, 0, none⟩) (n + m) (grownCap w (n + m) h e)) (n + m) (g ++ f) /\
   Below w.heap.size w (w.drew.alloc (.cells (g.toArray++f.toArray++Builtin.zeroCells z.cells (grownCap w (n+m) h e - (n+m))) e)):=by
  intro h R;have G:=grownCap_ge w (n+m) h e;have F:grownCap w (n+m) h e<=maxLen:=grownCap_le_maxLen w (n+m) h e y;refine⟨⟨r,.inr ⟨w.heap.size,_,_,rfl,zad _,heap_alloc_new w.drew _,G,F,?_,?_⟩⟩,(zai (zac _ _)).alloc (zad _) _⟩
  .simp only[Array.size_append,List.size_toArray,size_zeroCells,I,q,B,<-Nat.add_mul]
   congr 1
   omega
  .simp only[Array.toList_append,zeb]
   rw[<-zeb,<-r];exact List.take_left
 rcases M with⟨rfl,rfl,rfl⟩|⟨b,rfl,s⟩
 .have O:g= []:=zdi (by simpa using q)
  subst O;have H:=run_append_nil (P:=P) w t J e i z K hi L a m d f B p (by omega) (by omega) (by have N:=k;simp only[zcn]at N;omega);have l:=o 0 (by omega);simp only[zcn,zch,Array.empty_append]at l⊢;exact⟨_,_,H,l.1,l.2⟩
 .have H:=run_append_grow (P:=P) w t J e i z K hi L b n c g q s a m d f B p E (by omega) (growslice_fits E k)
  have l:=o c E;exact⟨_,_,H,l.1,l.2⟩
theorem qn3 {P:Program} (w0:World) {o:Oper} {a:Act} {K:Act->World->Prop} {Q:Exit->Act->World->Prop} (s x:Operand) (t e:TypeId)
  (I:o.op=.call { callee:=.builtin .append,args:= #[s,x],argTypes:= #[t,t] }) (z:Value) (size bytes:Nat)
  (L:P.underlying t=some (.slice e)) (hi:(P.info? e).map (fun i=>(i.zero,i.size,i.bytes))=some (some z,size,bytes)) (D:z.cells.size=size) (r:bytes<=256) (B:0<size)
  (base n c:Nat) (A:Option Addr) (xs:List Value) (J:a.eval s=.slice A n c) (h:w0.ownsRow base e size (.slice A n c) n xs) (g:List Value) (C:g.length=size) (G:∀u∈g,u.oneCell'=true) (M:a.eval x=.slice (some ⟨w0.heap.size,0,none⟩) 1 1)
  (O:n<=1099511627) (l:base<=w0.heap.size)
  (hK:∀A' c' w',w'.ownsRow base e size (.slice A' (n+1) c') (n+1) (xs++g)->w0.grownBy w' (Value.slice A n c).ownBlock->Below base w0 w'->K (a.put o.dst (.slice A' (n+1) c')) w'):
  o.wp P a (w0.alloc (.cells g.toArray e)) K Q:=by
 obtain⟨i,hi,N,p,v⟩:=info_parts hi;have f:(n+1)*bytes<=140737488355328:=za7 (zem (n+1) r) (by omega);refine wp_append_own (w0.alloc (.cells g.toArray e)) s x t I base e i z size bytes L hi N p v D B (.slice A n c) n xs J (h.alloc _) ⟨w0.heap.size,0,none⟩ 1 1 g M (by rw[C];omega) ?_ G (by unfold maxLen;omega) f (by simp;omega) ?_
 .intro j q H
  have m:(w0.alloc (.cells g.toArray e)).cell? ⟨w0.heap.size,j,none⟩=g.toArray[j]?:=(Blk.new w0 e g.toArray).cell j;have F:(⟨w0.heap.size,0,none⟩:Addr).add j=⟨w0.heap.size,j,none⟩:=by
   unfold Addr.add
   split
   .rename_i h0
    rw[h0]
   .simp
  rw[F,m]
  simpa using H
 .intro R w' d b _
  obtain⟨A',c',rfl⟩:=qu d;have E:w0.grownBy w' (Value.slice A n c).ownBlock:=
   ⟨b.os,b.tape,b.output,za7 (by simp) b.size,fun k w y=>(b.block k (by simp;omega) y).trans (Below.heap_alloc w0 _ k w)⟩
  exact hK A' c' w' d E ((zac base w0).grown E l (fun k w=>(h.lt k w).1))
theorem appU {P:Program} (w0:World) {ops:Array Oper} {b:List Oper} {o:Oper} {a:Act} {Q:Exit->Act->World->Prop} (k:o.guard=none) (s x:Operand) (t e:TypeId)
  (v:o.op=.call { callee:=.builtin .append,args:= #[s,x],argTypes:= #[t,t] }) (z:Value) (size bytes:Nat)
  (y:P.underlying t=some (.slice e)) (hi:(P.info? e).map (fun i=>(i.zero,i.size,i.bytes))=some (some z,size,bytes)) (p:z.cells.size=size) (j:bytes<=256) (l:0<size)
  (base n c:Nat) (A:Option Addr) (xs:List Value) (w:a.eval s=.slice A n c) (f:w0.ownsRow base e size (.slice A n c) n xs) (g:List Value) (m:g.length=size) (q:∀u∈g,u.oneCell'=true) (B:a.eval x=.slice (some ⟨w0.heap.size,0,none⟩) 1 1)
  (r:n<=1099511627) (d:base<=w0.heap.size)
  (hK:∀A' c' w',w'.ownsRow base e size (.slice A' (n+1) c') (n+1) (xs++g)->w0.grownBy w' (Value.slice A n c).ownBlock->Below base w0 w'->wpList P ops Q b (a.put o.dst (.slice A' (n+1) c')) w'):
  wpList P ops Q (o::b) a (w0.alloc (.cells g.toArray e)):=
 wpList_plain k fun _ h=>qn3 w0 s x t e v z size bytes y hi p j l base n c A xs w f g m q B r d fun A' c' w' C D E=>h _ _ (hK A' c' w' C D E)
theorem q8g {P:Program} (w0:World) {ops:Array Oper} {o:Oper} {a:Act} {K:Act->World->Prop} {Q:Exit->Act->World->Prop} {E:Prop} (h:o.guard=none) (s x:Operand) (t e:TypeId)
  (q:o.op=.call { callee:=.builtin .append,args:= #[s,x],argTypes:= #[t,t] }) (z:Value) (size bytes:Nat)
  (v:P.underlying t=some (.slice e)) (hi:(P.info? e).map (fun i=>(i.zero,i.size,i.bytes))=some (some z,size,bytes)) (l:z.cells.size=size) (g:bytes<=256) (j:0<size)
  (base n c:Nat) (A:Option Addr) (xs:List Value) (r:a.eval s=.slice A n c) (d:w0.ownsRow base e size (.slice A n c) n xs) (f:List Value) (k:f.length=size) (m:∀u∈f,u.oneCell'=true) (y:a.eval x=.slice (some ⟨w0.heap.size,0,none⟩) 1 1)
  (p:n<=1099511627) (b:base<=w0.heap.size)
  (hK:∀A' c' w',w'.ownsRow base e size (.slice A' (n+1) c') (n+1) (xs++f)->w0.grownBy w' (Value.slice A n c).ownBlock->Below base w0 w'->K (a.put o.dst (.slice A' (n+1) c')) w'):
  if Region.wanted o (yielded ops a.tmps)=true then Oper.wp P o a (w0.alloc (.cells f.toArray e)) K Q else E:=by
 have w:Region.wanted o (yielded ops a.tmps)=true:=by simp[Region.wanted,h]
 rw[zam w];exact qn3 w0 s x t e q z size bytes v hi l g j base n c A xs r d f k m y p b hK
def NoE {α:Type} (S:Sh α) (E:TypeId):Prop:=∀ {w:World} {c:List Value} {x:α} {bk:List Nat},S.own w c x bk->∀ {b:Nat},b∈bk->∃cur t fr,w.heap[b]?=some (.cells cur t fr)/\t≠E
def PG {α:Type} (S:Sh α) (m:Nat) (E:TypeId) (lo:Nat) (w:World) (v:Value) (xs:List α) (css:List (List Value)) (bls:List (List Nat)):Prop:=
 Parts S E w v xs css bls/\w.ownsRow lo E m v xs.length css.flatten/\Iv lo w.heap.size (obl v++bls.flatten)
section
variable {α:Type} {S:Sh α} {m:Nat} {E:TypeId} {lo:Nat} {w:World} {v:Value} {xs:List α} {css:List (List Value)} {bls:List (List Nat)}
theorem PG.nil (S:Sh α) (m:Nat) (E:TypeId) (lo:Nat) (w:World):PG S m E lo w (.slice none 0 0) [] [] []:=
 ⟨⟨⟨by simp,.inl ⟨rfl,rfl⟩⟩,rfl,rfl,fun k c x a h=>by simp at h⟩,⟨by simp,.inl ⟨rfl,rfl⟩⟩,Iv.nil _ _⟩
theorem PG.next {w':World} (h:PG S m E lo w v xs css bls) (a:Below w.heap.size w w'):PG S m E lo w' v xs css bls:=
 ⟨h.1.same fun b c=>a.block b (h.1.lt b c),qp h.2.1 a,h.2.2.mono (zad _) a.size⟩
theorem PG.same {w':World} (h:PG S m E lo w v xs css bls) (d:w.heap.size<=w'.heap.size) (a:∀b∈obl v++bls.flatten,w'.heap[b]?=w.heap[b]?):PG S m E lo w' v xs css bls:=
 ⟨h.1.same a,q2p h.2.1 fun b c=>a b (zbb _ (q1e.2 c)),h.2.2.mono (zad _) d⟩
theorem PG.far (h:PG S m E lo w v xs css bls) {p:Addr} (c:p.block<lo) (u:Value):PG S m E lo (w.setCell p u) v xs css bls:=
 h.same (by simp) fun b a=>za8 w p u b (fun e=>by have:=(h.2.2.2 b a).1;omega)
theorem PG.mono {lo':Nat} (h:PG S m E lo w v xs css bls) (a:lo'<=lo):PG S m E lo' w v xs css bls:=⟨h.1,ql h.2.1 a,h.2.2.mono a (zad _)⟩
theorem PG.rd (h:PG S m E lo w v xs css bls):∃B c,v=.slice B xs.length c/\RdN S.m S.rd w B xs.length xs:=h.1.rd
theorem PG.fresh (h:PG S m E lo w v xs css bls) {n:World} (L:w.heap.size<=n.heap.size) {y:Value} {i:List α} {d:List (List Value)} {c:List (List Nat)} (o:NoE S E) (f:n.ownsRow lo E m y i.length d.flatten) (l:Parts S E n y i d c) (t:c.flatten.Nodup)
  (s:∀b∈c.flatten,lo<=b):PG S m E lo n y i d c:=by
 refine⟨l,f,?_,fun b j=>?_⟩
 .rw[zbd]
  refine⟨qlv _,t,fun a F b q e=>?_⟩;subst e;obtain⟨C,K,G⟩:=q5z f F;obtain⟨B,r,p⟩:=zbm.1 q;obtain⟨k,A⟩:=zbo r;have H:=(zag.1 A).1;have I:=l.l1;have J:=l.l2;have x:=l.el k _ _ B (zae (by omega)) (zae (by omega)) A;obtain⟨z,M,D,g,u⟩:=o x p;rw[G]at g;injection g with g
  injection g with _ h5
  exact absurd h5.symm u
 .rcases zau.1 j with j|j
  .exact f.lt b (q1e.1 j)
  .exact⟨s b j,l.lt b (zaz _ j)⟩
theorem PG.push (h:PG S m E lo w v xs css bls) (z:NoE S E) (K:S.m=m) {i:World} (I:Below w.heap.size w i) (J:lo<=w.heap.size) {c:List Value} {x:α} {n:List Nat} (L:S.own i c x n) (f:Iv w.heap.size i.heap.size n):
  i.ownsRow lo E m v xs.length css.flatten/\∀ {w2:World} {v':Value},w2.ownsRow lo E m v' (xs.length+1) (css.flatten++c)->i.grownBy w2 v.ownBlock->PG S m E lo w2 v' (xs++ [x]) (css++ [c]) (bls++ [n]):=by
 subst K;have t:=h.next I;refine⟨t.2.1,fun {w2 v'} g A=>?_⟩;have s:=zbd.1 h.2.2.1;have y:∀b,b∈bls.flatten->w2.heap[b]?=i.heap[b]?:=fun b d=>A.block b (t.2.2.2 b (zaz _ d)).2 fun e=>s.2.2 b (q1e.2 e.symm) b d rfl
 have p:∀b,b∈n->w2.heap[b]?=i.heap[b]?:=fun b d=>A.block b (f.2 b d).2 fun e=>by
  have D:=(h.2.2.2 b (zbb _ (q1e.2 e.symm))).2;have F:=(f.2 b d).1;omega
 have q:=h.1.l1;have r:=h.1.l2;have G:Parts S E w2 v' (xs++ [x]) (css++ [c]) (bls++ [n]):=by
  refine⟨?_,by simp[q],by simp[r],fun k C M u o j l=>?_⟩
  .rw[zbs,zbu,List.flatten_singleton]
   exact ql g (zah _)
  .by_cases hk:k<xs.length
   .rw[zbv (by omega)]at o j l
    exact S.osame (t.1.el k C M u o j l) fun b d=>y b (zbm.2 ⟨_,zaf l,d⟩)
   .have B:k=xs.length:=by
     have:=(zag.1 j).1;simp at this;omega
    subst B;rw[zbc (by omega)]at o j l;simp[q,r]at o j l;subst o;subst j;subst l;exact S.osame L p
 refine t.fresh A.size z (by rw[zbs,zbu];simpa using g) G ?_ fun b d=>?_
 .rw[zbu,zbd]
  refine⟨s.2.1,by simpa using f.1,fun a H b d e=>?_⟩;simp at d;subst e;have D:=(h.2.2.2 a (zaz _ H)).2;have F:=(f.2 a d).1;omega
 .rw[zbu,zau]at d
  rcases d with d|d
  .exact(h.2.2.2 b (zaz _ d)).1
  .have:=f.2 b (by simpa using d)
   omega
theorem q4d {β:Type} {l:List (List β)} {k:Nat} (a:k<l.length):l.flatten=(l.take k).flatten++(l[k]++(l.drop (k+1)).flatten):=by
 conv=>lhs;rw[<-zcv k l,zbu,zbq a,zc6]
theorem qau {β:Type} {l:List β} {k:Nat} (a:k<l.length) (x:β):l.set k x=l.take k++x::l.drop (k+1):=by
 rw[List.set_eq_take_append_cons_drop,zam a]
theorem qnh {l:List (List Value)} {k m:Nat} (a:∀c∈l,c.length=m) (d:k<l.length) {c:List Value} (f:c.length=m):q48 l.flatten (k*m) c=(l.set k c).flatten:=by
 have g:(l.take k).flatten.length=k*m:=by
  rw[q3b fun e b=>a e (zbt b),za9,zef (by omega)]
 rw[q4d d,qau d,zbu,zc6,<-g];exact qbz _ _ _ _ (by rw[f,a _ (zce d)])
theorem PG.put (h:PG S m E lo w v xs css bls) (G:NoE S E) (D:S.m=m) {l:World} (V:Below w.heap.size w l) {k g n s:Nat} (R:v=.slice (some ⟨g,0,none⟩) n s) (hk:k<xs.length) {c:List Value} {x:α} {A:List Nat} (Q:S.own l c x A) (f:Iv w.heap.size l.heap.size A) (X:lo<=w.heap.size):
  PG S m E lo (q3u l g (k*m) c) v (xs.set k x) (css.set k c) (bls.set k A):=by
 subst D;have t:=h.next V;have J:=h.1.l1;have K:=h.1.l2;have H:=S.rd_len (S.ord Q);have N:n=xs.length:=by
  obtain⟨B,P,e⟩:=qu h.2.1;rw[R]at e;injection e
 subst N;subst R;obtain⟨p,u⟩:=q41 c (k*S.m) t.2.1;rw[qnh t.1.all (by omega) H]at p;have W:=(h.2.2.2 g (zbb _ (q1e.2 rfl))).2;have I:=qap h.2.2.1 (g:=g) rfl;have y:=(zbd.1 h.2.2.1).2.1;have i:∀b,b≠g->b<l.heap.size->(q3u l g (k*S.m) c).heap[b]?=l.heap[b]?:=fun b M L=>u.block b L (by simpa using M)
 have U:Parts S E (q3u l g (k*S.m) c) (.slice (some ⟨g,0,none⟩) xs.length s) (xs.set k x) (css.set k c) (bls.set k A):=by
  refine⟨by rw[zcg];exact ql p (zah _),by simp[J],by simp[K],fun j P Z F q r o=>?_⟩
  by_cases hj:k=j
  .subst hj
   rw[zeu (by omega)]at q r o;injection q with q
   injection r with r
   injection o with o
   subst q;subst r;subst o;exact S.osame Q fun b d=>i b (fun e=>by have:=(f.2 b d).1;omega) (f.2 b d).2
  .rw[zdr hj]at q r o
   refine S.osame (t.1.el j P Z F q r o) fun b d=>?_
   have D:b∈bls.flatten:=zbm.2 ⟨_,zaf o,d⟩;exact i b (fun e=>I (e ▸ D)) (t.2.2.2 b (zaz _ D)).2
 refine t.fresh u.size G (by rw[zcg];exact p) U ?_ fun b d=>?_
 .rw[qau (by omega),zbu,zc6]
  rw[q4d (show k<bls.length by omega)]at y;have O:=zbd.1 y;have Y:=zbd.1 O.2.1;have z:∀b,b∈(bls.take k).flatten\/b∈(bls.drop (k+1)).flatten->b<w.heap.size:=fun b d=>by
   have:b∈bls.flatten:=by
    rw[q4d (show k<bls.length by omega),zau,zau]
    rcases d with d|d
    .exact .inl d
    .exact .inr (.inr d)
   exact(h.2.2.2 b (zaz _ this)).2
  rw[zbd,zbd];refine⟨O.1,⟨f.1,Y.2.1,fun a C b d e=>?_⟩,fun a C b d e=>?_⟩
  .subst e
   have:=(f.2 a C).1;have:=z a (.inr d);omega
  .subst e
   rcases zau.1 d with d|d
   .have:=(f.2 a d).1
    have:=z a (.inl C);omega
   .exact O.2.2 a C a (zaz _ d) rfl
 .rw[qau (by omega),zbu,zc6,zau,zau]at d
  have T:∀b,b∈bls.flatten->lo<=b:=fun b d=>(h.2.2.2 b (zaz _ d)).1
  rcases d with d|d|d
  .exact T b (by rw[q4d (show k<bls.length by omega)];exact zbb _ d)
  .have:=(f.2 b d).1;omega
  .exact T b (by rw[q4d (show k<bls.length by omega)];exact zaz _ (zaz _ d))
theorem qm0 {base size:Nat} {e:TypeId} {A:Option Addr} {n c k:Nat} {i:List Value} (h:w.ownsRow base e size (.slice A n c) n i) (p:k<=n):w.ownsRow base e size (.slice A k c) k (i.take (k*size)):=by
 obtain⟨l,b⟩:=h;have q:=zd7 size p;refine⟨by rw[za9,l];omega,?_⟩
 rcases b with⟨b,u⟩|⟨g,j,a,t,m,o,r,d,f,s⟩
 .left
  injection b with e1 e2 e3
  subst e1;subst e3;obtain rfl:k=0:=by omega
  exact⟨rfl,rfl⟩
 .right
  injection t with e1 e2 e3
  subst e1;subst e3;refine⟨g,_,a,rfl,m,o,by omega,d,f,?_⟩;rw[<-s,List.take_take]
  congr 1
  omega
theorem qa6 {l:List (List Value)} {k m:Nat} (a:∀c∈l,c.length=m) (f:k<=l.length):l.flatten.take (k*m)=(l.take k).flatten:=by
 have e:(l.take k).flatten.length=k*m:=by
  rw[q3b fun d b=>a d (zbt b),za9,zef (by omega)]
 conv=>lhs;rw[<-zcv k l,zbu]
 rw[<-e,List.take_left]
theorem qe0 {l:List (List Value)} {k m:Nat} (a:∀c∈l,c.length=m) (f:k<=l.length):l.flatten.drop (k*m)=(l.drop k).flatten:=by
 have e:(l.take k).flatten.length=k*m:=by
  rw[q3b fun d b=>a d (zbt b),za9,zef (by omega)]
 conv=>lhs;rw[<-zcv k l,zbu]
 rw[<-e,List.drop_left]
theorem PG.take {A:Option Addr} {n c k:Nat} (h:PG S m E lo w (.slice A n c) xs css bls) (G:S.m=m) (F:k<=xs.length):PG S m E lo w (.slice A k c) (xs.take k) (css.take k) (bls.take k):=by
 subst G;have u:=h.1.l1;have v:=h.1.l2;have y:n=xs.length:=by
  obtain⟨B,z,e⟩:=qu h.2.1;injection e
 subst y;have x:=qm0 h.2.1 F;rw[qa6 h.1.all (by omega)]at x;have l:∀b,b∈(bls.take k).flatten->b∈bls.flatten:=fun b d=>by
  obtain⟨C,t,s⟩:=zbm.1 d;exact zbm.2 ⟨C,zbt t,s⟩
 have g:(xs.take k).length=k:=by rw[za9];omega
 have i:∀b,b∈obl (Value.slice A k c)->b∈obl (Value.slice A xs.length c):=fun b d=>by
  rw[q1e]at d⊢;cases A with
  |none=>simp[Value.ownBlock]at d
  |some a=>exact d
 refine⟨⟨by rw[g];exact ql x (zah _),by simp[u],by simp[v],fun j z H p o q r=>?_⟩,by rw[g];exact x,?_,fun b d=>?_⟩
 .rw[zd3]at o q r
  split at o
  .rename_i hj
   rw[zam hj]at q r;exact h.1.el j z H p o q r
  .cases o
 .have f:=h.2.2.1
  rw[<-zcv k bls,zbu,zbd]at f;rw[zbd];exact⟨qlv _,(zbd.1 f.2.1).1,fun a D b d e=>f.2.2 a (i a D) b (zbb _ d) e⟩
 .rcases zau.1 d with d|d
  .exact h.2.2.2 b (zbb _ (i b d))
  .exact h.2.2.2 b (zaz _ (l b d))
theorem PG.del (h:PG S m E lo w v xs css bls) (y:NoE S E) (N:S.m=m) {k:Nat} (Q:k<xs.length) {s:World} {H:Value} (c:s.ownsRow w.heap.size E m H (k+(xs.length - (k+1))) ((css.take k).flatten++(css.drop (k+1)).flatten)) (i:Below w.heap.size w s) (F:lo<=w.heap.size):
  PG S m E lo s H (xs.take k++xs.drop (k+1)) (css.take k++css.drop (k+1)) (bls.take k++bls.drop (k+1)):=by
 subst N;have x:=h.next i;have C:=h.1.l1;have D:=h.1.l2;have o:(xs.take k++xs.drop (k+1)).length=k+(xs.length - (k+1)):=by simp;omega
 have n:(css.take k++css.drop (k+1)).flatten=(css.take k).flatten++(css.drop (k+1)).flatten:=zbu;have t:∀ {β:Type} {l:List β} {j:Nat},k<l.length->(l.take k++l.drop (k+1))[j]?=if j<k then l[j]? else l[j+1]?:=fun {β l j} R=>by
  have O:(l.take k).length=k:=by rw[za9];omega
  split
  .rename_i hj
   rw[zbv (by omega),zd3,zam hj]
  .rename_i hj
   rw[zbc (by omega),O,zds]
   congr 1
   omega
 have L:Parts S E s H (xs.take k++xs.drop (k+1)) (css.take k++css.drop (k+1)) (bls.take k++bls.drop (k+1)):=by
  refine⟨by rw[o,n];exact ql c (zah _),by simp[C],by simp[D],fun j I J d r f g=>?_⟩;rw[t (by omega)]at r f g
  split at r
  .rename_i hj
   rw[zam hj]at f g;exact x.1.el j I J d r f g
  .rename_i hj
   rw[zaj hj]at f g;exact x.1.el (j+1) I J d r f g
 have q:∀b,b∈(bls.take k++bls.drop (k+1)).flatten->b∈bls.flatten:=fun b i=>by
  obtain⟨K,B,z⟩:=zbm.1 i;refine zbm.2 ⟨K,?_,z⟩
  rcases zau.1 B with u|u
  .exact zbt u
  .exact zdt u
 refine x.fresh (zad _) y (by rw[o,n];exact ql c F) L ?_ fun b A=>(h.2.2.2 b (zaz _ (q b A))).1
 have p:=(zbd.1 h.2.2.1).2.1;rw[q4d (show k<bls.length by omega)]at p;have G:=zbd.1 p;have P:=zbd.1 G.2.1;rw[zbu,zbd];exact⟨G.1,P.2.1,fun a M b i e=>G.2.2 a M b (zaz _ i) e⟩
end
def Sh.rowsW {α:Type} (A:Sh α) (E:TypeId):Sh (List α) where
 m:=1
 rd:=(Sh.rows A E).rd
 own:=fun w cs xs bl=>∃B n c d css bls,cs= [.slice B n d]/\n<=d/\Parts A E w (.slice B n c) xs css bls/\bl=obl (.slice B n c)++bls.flatten
 cnt:=(Sh.rows A E).cnt
 rd_len:=(Sh.rows A E).rd_len
 stab:=(Sh.rows A E).stab
 ord:=fun {w} {cs} {xs} {bl} ⟨B,n,c,d,css,bls,e,_,h,_⟩=>by
  obtain⟨B',c',hv,hr⟩:=h.rd;injection hv with e1 e2 e3
  subst e1;subst e2;exact⟨B,xs.length,d,e,hr⟩
 olt:=fun {w} {cs} {xs} {bl} ⟨B,n,c,d,css,bls,_,_,h,e⟩ b hb=>by rw[e]at hb;exact h.lt b hb
 osame:=fun {w} {w'} {cs} {xs} {bl} ⟨B,n,c,d,css,bls,e,hd,h,e'⟩ hs=>⟨B,n,c,d,css,bls,e,hd,h.same fun b hb=>hs b (by rw[e'];exact hb),e'⟩
structure Tg (i:Nat) (p:Prop):Prop where
 out:p
section
variable {P:Program} {md:Region.Mode} {ops:Array Oper} {Q:Exit->Act->World->Prop} {S:World->Prop} {fuel:Nat} {listed:Array Bool} {a:Act} {w:World}
theorem ul (i:Nat) (f:(Region.ready md ops listed).contains i=true) (v:Value) {b:Oper} (hi:ops[i]?=some b) (j:YieldsIf P ops S b v a)
  (h:wpAnyH P md ops Q S fuel (listed.setIfInBounds i true) (a.put b.dst v) w) (g:Region.noSelect ops=true:=by kernel_rfl) (e:Region.free md ops listed i=true:=by kernel_rfl)
  (d:∀c a w,Q (.panic c) (a.put b.dst v) w->Q (.panic c) a w:=by exact fun _ _ _ h=>h) (hS:S w:=by assumption):wpAnyH P md ops Q S (fuel+1) listed a w:=wpAnyH_take hi g e f d j hS h
theorem pl (i:Nat) (j:(Region.ready md ops listed).contains i=true) (v:Value) {b:Oper} (hi:ops[i]?=some b)
  (h:wpAnyH P md ops Q S fuel (listed.setIfInBounds i true) (a.put b.dst v) w) (g:Region.wanted b (yielded ops a.tmps)=true:=by kernel_rfl) (e:∀w,S w->(execOp a.eval b).run P w=.ok (.value v) w:=by intro _ _;go_simp) (k:Region.noSelect ops=true:=by kernel_rfl) (f:Region.free md ops listed i=true:=by kernel_rfl)
  (d:∀c a w,Q (.panic c) (a.put b.dst v) w->Q (.panic c) a w:=by exact fun _ _ _ h=>h) (hS:S w:=by assumption):wpAnyH P md ops Q S (fuel+1) listed a w:=ul i j v hi (.inl ⟨g,e⟩) h k f d hS
theorem nl (i:Nat) (g:(Region.ready md ops listed).contains i=true) {b:Oper} (hi:ops[i]?=some b)
  (h:wpAnyH P md ops Q S fuel (listed.setIfInBounds i true) (a.put b.dst undef) w) (f:Region.wanted b (yielded ops a.tmps)=false:=by kernel_rfl) (j:Region.noSelect ops=true:=by kernel_rfl) (e:Region.free md ops listed i=true:=by kernel_rfl)
  (d:∀c a w,Q (.panic c) (a.put b.dst undef) w->Q (.panic c) a w:=by exact fun _ _ _ h=>h) (hS:S w:=by assumption):wpAnyH P md ops Q S (fuel+1) listed a w:=ul i g undef hi (.inr ⟨f,rfl⟩) h j e d hS
abbrev Up (P:Program) (md:Region.Mode) (ops:Array Oper) (Q:Exit->Act->World->Prop) (S:World->Prop) (fuel:Nat) (listed:Array Bool) (a:Act) (w:World) (i:Nat) (o:Oper):Prop:=
 Tg i (∀K':Act->World->Prop,Shut (∀a w,S w->(S w->wpAnyH P md ops Q S fuel (listed.setIfInBounds i true) a w)->K' a w)->if Region.wanted o (yielded ops a.tmps)=true then Oper.wp P o a w K' Q else K' (a.put o.dst undef) w)
theorem s1 (i:Nat) (c:Region.ready md ops listed= [i]) {o:Oper} (b:ops[i]?=some o) (h:Up P md ops Q S fuel listed a w i o):wpAnyH P md ops Q S (fuel+1) listed a w:=ze5 c (by simp) (.cons b h.out .nil)
theorem s2 (i j:Nat) (f:Region.ready md ops listed= [i,j]) {o c:Oper} (e:ops[i]?=some o) (h:Up P md ops Q S fuel listed a w i o) (b:ops[j]?=some c) (d:Up P md ops Q S fuel listed a w j c):
  wpAnyH P md ops Q S (fuel+1) listed a w:=ze5 f (by simp) (.cons e h.out (.cons b d.out .nil))
theorem s3 (i j k:Nat) (m:Region.ready md ops listed= [i,j,k]) {o d e:Oper} (l:ops[i]?=some o) (h:Up P md ops Q S fuel listed a w i o) (b:ops[j]?=some d) (f:Up P md ops Q S fuel listed a w j d) (c:ops[k]?=some e) (g:Up P md ops Q S fuel listed a w k e):
  wpAnyH P md ops Q S (fuel+1) listed a w:=ze5 m (by simp) (.cons l h.out (.cons b f.out (.cons c g.out .nil)))
theorem s4 (i j k l:Nat) (r:Region.ready md ops listed= [i,j,k,l]) {o e f g:Oper} (q:ops[i]?=some o) (h:Up P md ops Q S fuel listed a w i o) (b:ops[j]?=some e) (m:Up P md ops Q S fuel listed a w j e) (c:ops[k]?=some f) (n:Up P md ops Q S fuel listed a w k f) (d:ops[l]?=some g) (p:Up P md ops Q S fuel listed a w l g):
  wpAnyH P md ops Q S (fuel+1) listed a w:=ze5 r (by simp) (.cons q h.out (.cons b m.out (.cons c n.out (.cons d p.out .nil))))
end
theorem al2 (w:World) (cs:Array Value) (t:TypeId):∃x g,Hid (x=w.alloc (.cells cs t))/\Hid (g=w.heap.size)/\Below w.heap.size w x/\Blk x g t cs/\w.heap.size<=g/\g<x.heap.size:=
 ⟨_,_,zaa rfl,zaa rfl,qm _ _,Blk.new _ _ _,zad _,(Blk.new w t cs).lt⟩
theorem dr0 (w:World):∃x,Hid (x=World.drew w)/\Below w.heap.size w x:=⟨_,zaa rfl,(zac _ _).drew⟩
def srt (xs:List Int):List Int:=xs.mergeSort fun x y=>decide (x<=y)
theorem qgz (xs:List Int):(srt xs).length=xs.length:=List.length_mergeSort _
theorem q9c (base n c:Nat) (A:Option Addr) (xs:List Int) (w:World) (h:w.ownsRow base 3 1 (.slice A n c) n (ints xs)) (v:n<=1000):
  Calls Tryz.prog 153 #[.slice A n c] w fun e w'=>e=.returned (.tuple #[])/\w'.ownsRow base 3 1 (.slice A n c) n (ints (srt xs))/\w.grownBy w' (Value.slice A n c).ownBlock:=by
 have o:=h;obtain⟨p,a⟩:=h;rw[q4t]at p
 rcases a with⟨a,u⟩|⟨g,k,l,s,q,f,i,b,d,j⟩
 .injection a with e1 e2 e3
  subst e1;subst e2;have t:xs= []:=zco.1 (by omega);subst t;refine(Tryz.sort_Ints_none none c w).mono ?_;rintro e w' ⟨rfl,rfl⟩;exact⟨rfl,by rw[show srt []= []by simp[srt]];exact o,⟨rfl,rfl,rfl,zad _,fun _ _ _=>rfl⟩⟩
 .injection s with e1 e2 e3
  subst e1;subst e3;have r:xs.length=n:=by omega
  subst r;refine(Tryz.sort_Ints g 0 c xs w (holds_of_blockI f (by rw[Nat.mul_one]at j;exact j)) (zd8.1 f).1 (by omega)).mono ?_;rintro e w' ⟨rfl,m,x,rfl⟩;exact⟨rfl,ownsRow_sortedI (qgz xs) q f i b d,grownBy_sortedI _⟩
theorem qb8 (k:Int) (AL:Option Addr) (l cL:Nat) (AR:Option Addr) (m cR:Nat) (AV:Option Addr) (E cV:Nat) (AS:Option Addr) (n cS:Nat) (L R V s:List Int) (w:World) (hL:RdL RI w AL l L) (hR:RdL RI w AR m R) (hV:RdL RI w AV E V) (hS:RdL RI w AS n s)
  (hp:PermL n s) (hn:n<=1000) (h1:l<=1048576) (h2:m<=1048576) (h3:E<=1000) (hVi:InL n V) (hk:1<=k/\k<=6) (hk1:k=1->V= []) (h35:k=3\/k=5->V.Nodup) (h46:k=4\/k=6->V.length=n):
  Calls Tryz.prog 87 #[.agg #[.int .i64 k,.slice AL l cL,.slice AR m cR,.slice AV E cV],.slice AS n cS] w (CfE w (k,(L,R),rfL k V s)):=by
 obtain rfl:L.length=l:=hL.len;obtain rfl:R.length=m:=hR.len;obtain⟨l,HNL⟩:∃n,Hid (L.length=n):=⟨_,rfl⟩;obtain⟨m,HNR⟩:∃n,Hid (R.length=n):=⟨_,rfl⟩;obtain⟨X,HX⟩:∃X,Hid (rfL k V s=X):=⟨_,rfl⟩;obtain⟨c,ac⟩:∃q,Hid (X.length=q):=⟨_,rfl⟩;rw[HX.out];unfold CfE;simp only;rw[ac.out];rw[HNL.out]at hL h1⊢;rw[HNR.out]at hR h2⊢;have hsl:s.length=n:=hp.1;obtain⟨I,hw0,T0,hsz0,BP,BQ⟩:=q1q w #[.int .i64 k,.slice AL l cL,.slice AR m cR,.slice AV E cV] #[.int .i64 0,.slice none 0 0,.slice none 0 0,.slice none 0 0] 57 57;have HW0:=zaa hw0;have HCF:Hid (Calls Tryz.prog 79 #[.agg #[.int .i64 k,.slice AL l cL,.slice AR m cR,.slice AV E cV]] I fun e w'=>∃o u t x A3 c3,e=.returned (.agg #[.int .i64 k,.slice o l u,.slice t m x,.slice A3 E c3])/\w'.ownsRow I.heap.size 3 1 (.slice o l u) l (ints L)/\w'.ownsRow I.heap.size 3 1 (.slice t m x) m (ints R)/\w'.ownsRow I.heap.size 3 1 (.slice A3 E c3) E (ints V)/\Apart (.slice o l u) (.slice t m x)/\Apart (.slice o l u) (.slice A3 E c3)/\Apart (.slice t m x) (.slice A3 E c3)/\Below I.heap.size I w'):=by
  have:=q5l k AL l cL AR m cR AV E cV L R V I (hL.next qd T0) (hR.next qd T0) (hV.next qd T0) h1 h2 (by omega);unfold CfE at this;simp only at this;rw[HNL.out,HNR.out,hV.len]at this;exact this
 have HVR:Hid (∀wz,Below I.heap.size I wz->RdL RI wz AV E V):=fun wz hz=>(hV.next qd T0).next qd hz
 have HSR:Hid (∀wz,Below I.heap.size I wz->RdL RI wz AS n s):=fun wz hz=>(hS.next qd T0).next qd hz
 have HP:=zaa hp;have S:=zaa hVi;have HVL:=zaa hV.len;have HK1:=zaa hk1;have H35:=zaa h35;have H46:=zaa h46;have HSL:=zaa hsl;obtain⟨cP0,cP1,cP2,cP3⟩:=cl4 BP;have B:w.heap.size+1<I.heap.size:=by omega
 have A:=zaa T0;clear hw0 hsz0 hL hR hV hS hp hVi hk1 h35 h46 hsl T0
 go_enter Tryz.func87,Tryz.ntmps87
 go_upto_region 1 with fail;rw[<-HW0.out];go_wp2_with fail;refine HCF.out.mono ?_;rintro e F ⟨o,u,t,x,A3,c3,rfl,ho1,ho2,ho3,ha12,ha13,ha23,hb1⟩;have Q:=zaa (zao ho1 (zao ho2 ha12));have O:=zaa (zao ho3 (zao ha13 ha23));have hz1:=hb1.size;obtain⟨w2,hw2⟩:∃wb,wb=F.alloc (.cells #[.int .i64 k,.slice o l u,.slice t m x,.slice A3 E c3] 57):=⟨_,rfl⟩;have hb12:Below F.heap.size F w2:=by rw[hw2];exact qm _ _
 have BG2:Blk w2 F.heap.size 57 #[.int .i64 k,.slice o l u,.slice t m x,.slice A3 E c3]:=by rw[hw2];exact Blk.new _ _ _
 have HW2:=zaa hw2;have T2:=q9 hb1 hb12 rfl;have HINV:=zaa (qfz AS n cS s w2 (HSR.out w2 T2) HP.out hn);clear hw2 ho1 ho2 ho3 ha12 ha13 ha23;have hli:(inv n s).length=n:=(q1l HP.out).1;have HLI:=zaa hli;go_upto_region 2 with fail;rw[<-HW2.out];go_wp2_with fail;refine HINV.out.mono ?_;rintro e U ⟨A4,c4,rfl,ho4,hb3⟩;rw[HLI.out]at ho4⊢;have T3:=q9 T2 hb3 rfl;have ah:=q9 hb12 hb3 rfl;have ad:=BG2.next hb3;have hz3:=T3.size;have N:=ah.size;have hg1:F.heap.size<U.heap.size:=ad.lt;have zkk:=kk4 T3 cP0 cP1 cP2 cP3;clear cP0 cP1 cP2 cP3;obtain⟨cP0,cP1,cP2,cP3⟩:=zkk;have HR4:Hid (∀wz,Below U.heap.size U wz->RdL RI wz A4 n (inv n s)):=fun wz hz=>(q12 (R:=RI) ho4 (q1r fun v hv=>by have:=q92 HP.out v hv;omega)).next qd hz
 obtain⟨gC0,gC1,gC2,gC3⟩:=cl4 ad;have gF3:=ad.frozen 3;clear hb12 BG2 ho4 hli;obtain rfl|rfl|rfl|rfl|rfl|rfl:k=1\/k=2\/k=3\/k=4\/k=5\/k=6:=by omega
 .
  have P:Hid (V=X):=by show _=_;rw[<-HX.out];exact(by unfold rfL;simp)
  obtain⟨wc,HWC⟩:∃wc:World,wc=U:=⟨_,rfl⟩;subst HWC;have hnx:c=E:=by rw[<-ac.out,<-P.out,HVL.out]
  subst hnx;obtain⟨d,hA5⟩:∃a,a=A3:=⟨_,rfl⟩;subst hA5;obtain⟨f,hc5⟩:∃a,a=c3:=⟨_,rfl⟩;subst hc5;have Tk:=T3;have Tg:=ah;have BG:=ad;have J:=qp O.out.1 ah;rw[P.out]at J;have y:=O.out.2.1;have z:=O.out.2.2;have C:=BQ.next Tk;obtain⟨cG0,cG1,cG2,cG3⟩:=cl4 BG;obtain⟨cR0,cR1,cR2,cR3⟩:=cl4 C;have fR0:=C.frozen 0;have fR1:=C.frozen 1;have fR2:=C.frozen 2;have fR3:=C.frozen 3;obtain⟨M,g⟩:∃M,Hid (M=(((wc.setCell ⟨w.heap.size+1,0,none⟩ (.int .i64 1)).setCell ⟨w.heap.size+1,1,none⟩ (.slice o l u)).setCell ⟨w.heap.size+1,2,none⟩ (.slice t m x)).setCell ⟨w.heap.size+1,3,none⟩ (.slice d c f)):=⟨_,rfl⟩;have W:Blk M (w.heap.size+1) 57 #[.int .i64 1,.slice o l u,.slice t m x,.slice d c f]:=by rw[g.out];simpa using(((C.set_ 0 (.int .i64 1)).set_ 1 (.slice o l u)).set_ 2 (.slice t m x)).set_ 3 (.slice d c f)
  have i:∀ {v:Value} {n:Nat} {xs:List Value},wc.ownsRow I.heap.size 3 1 v n xs->M.ownsRow I.heap.size 3 1 v n xs:=fun h=>by
   rw[g.out];exact qx (qx (qx (qx h (by exact B)) (by exact B)) (by exact B)) (by exact B)
  have Y:=zaa (i (qp (Q.out).1 Tg));have Z:=zaa (i (qp (Q.out).2.1 Tg));have O:=zaa (i J);have aa:Hid (Below w.heap.size w M):=by
   show Below _ _ _
   rw[g.out];exact((((q9 A.out Tk rfl).setCell (p:=⟨w.heap.size+1,0,none⟩) (show w.heap.size<=w.heap.size+1 by omega) _).setCell (p:=⟨w.heap.size+1,1,none⟩) (show w.heap.size<=w.heap.size+1 by omega) _).setCell (p:=⟨w.heap.size+1,2,none⟩) (show w.heap.size<=w.heap.size+1 by omega) _).setCell (p:=⟨w.heap.size+1,3,none⟩) (show w.heap.size<=w.heap.size+1 by omega) _
  have K:=zaa (zao y z);clear J C i y z;go_wp2_with fail;rw[<-g.out]
  (try simp only[Exit.inBlock,Exit.then])
  refine zat (v:=.agg #[.int .i64 1,.slice o l u,.slice t m x,.slice d c f]) (zb0 rfl _ _ (w.heap.size+1) 57 #[.int .i64 1,.slice o l u,.slice t m x,.slice d c f] (0,0) _ (by simp) W zcp rfl (by kernel_rfl)) rfl ?_;exact⟨o,u,t,x,d,f,rfl,ql Y.out A.out.size,ql Z.out A.out.size,ql O.out A.out.size,(Q.out).2.2,K.out.1,K.out.2,aa.out⟩
 .
  have P:Hid (comp V s=X):=by show _=_;rw[<-HX.out];unfold rfL;simp
  go_wp2_with fail;refine(q3o AV AS E cV n cS V s U (HVR.out U T3) (HSR.out U T3) S.out h3).mono ?_;rintro e w5 ⟨d,f,rfl,j,H⟩;rw[P.out,ac.out]at j;rw[P.out,ac.out];have T5:=q9 T3 H rfl;have ae:=q9 ah H rfl;have G:=ad.next H;obtain⟨wc,D⟩:∃wc,wc=w5.setCell ⟨F.heap.size,3,none⟩ (.slice d c f):=⟨_,rfl⟩;have HWC:=zaa D;have Tk:Below I.heap.size I wc:=by rw[D];exact T5.setCell (p:=⟨F.heap.size,3,none⟩) (by exact hz1) _
  have Tg:Below F.heap.size F wc:=by rw[D];exact ae.setCell (p:=⟨F.heap.size,3,none⟩) (zad _) _
  have BG:Blk wc F.heap.size 57 #[.int .i64 2,.slice o l u,.slice t m x,.slice d c f]:=by rw[D];simpa using G.set_ 3 (.slice d c f)
  have J:wc.ownsRow I.heap.size 3 1 (.slice d c f) c (ints X):=by rw[D];exact ql (qx (p:=⟨F.heap.size,3,none⟩) j (by exact hg1)) hz3
  have y:Apart (.slice o l u) (.slice d c f):=q13 Q.out.1 j N;have z:Apart (.slice t m x) (.slice d c f):=q13 Q.out.2.1 j N;have gG:=G.cell 3;simp at gG;have gF:=G.frozen 3;clear D j;go_upto_region 14 with fail;rw[<-HWC.out];have C:=BQ.next Tk;obtain⟨cG0,cG1,cG2,cG3⟩:=cl4 BG;obtain⟨cR0,cR1,cR2,cR3⟩:=cl4 C;have fR0:=C.frozen 0;have fR1:=C.frozen 1;have fR2:=C.frozen 2;have fR3:=C.frozen 3;obtain⟨M,g⟩:∃M,Hid (M=(((wc.setCell ⟨w.heap.size+1,0,none⟩ (.int .i64 2)).setCell ⟨w.heap.size+1,1,none⟩ (.slice o l u)).setCell ⟨w.heap.size+1,2,none⟩ (.slice t m x)).setCell ⟨w.heap.size+1,3,none⟩ (.slice d c f)):=⟨_,rfl⟩;have W:Blk M (w.heap.size+1) 57 #[.int .i64 2,.slice o l u,.slice t m x,.slice d c f]:=by rw[g.out];simpa using(((C.set_ 0 (.int .i64 2)).set_ 1 (.slice o l u)).set_ 2 (.slice t m x)).set_ 3 (.slice d c f)
  have i:∀ {v:Value} {n:Nat} {xs:List Value},wc.ownsRow I.heap.size 3 1 v n xs->M.ownsRow I.heap.size 3 1 v n xs:=fun h=>by
   rw[g.out];exact qx (qx (qx (qx h (by exact B)) (by exact B)) (by exact B)) (by exact B)
  have Y:=zaa (i (qp (Q.out).1 Tg));have Z:=zaa (i (qp (Q.out).2.1 Tg));have O:=zaa (i J);have aa:Hid (Below w.heap.size w M):=by
   show Below _ _ _
   rw[g.out];exact((((q9 A.out Tk rfl).setCell (p:=⟨w.heap.size+1,0,none⟩) (show w.heap.size<=w.heap.size+1 by omega) _).setCell (p:=⟨w.heap.size+1,1,none⟩) (show w.heap.size<=w.heap.size+1 by omega) _).setCell (p:=⟨w.heap.size+1,2,none⟩) (show w.heap.size<=w.heap.size+1 by omega) _).setCell (p:=⟨w.heap.size+1,3,none⟩) (show w.heap.size<=w.heap.size+1 by omega) _
  have K:=zaa (zao y z);clear J C i y z;go_wp2_with fail;rw[<-g.out]
  (try simp only[Exit.inBlock,Exit.then])
  refine zat (v:=.agg #[.int .i64 2,.slice o l u,.slice t m x,.slice d c f]) (zb0 rfl _ _ (w.heap.size+1) 57 #[.int .i64 2,.slice o l u,.slice t m x,.slice d c f] (0,0) _ (by simp) W zcp rfl (by kernel_rfl)) rfl ?_;exact⟨o,u,t,x,d,f,rfl,ql Y.out A.out.size,ql Z.out A.out.size,ql O.out A.out.size,(Q.out).2.2,K.out.1,K.out.2,aa.out⟩
 .
  have hnx:c=E:=by
   rw[<-ac.out,<-HX.out];unfold rfL;rw[zaj (by decide),zam (by decide),HSL.out,<-q8e (q6w HP.out S.out (H35.out (by decide))) (q44 HP.out S.out)];show(srt (comp V s)).length=E;rw[qgz,q1y,HVL.out]
  subst hnx;have P:Hid (srt (comp V s)=X):=by
   show _=_
   rw[<-HX.out];unfold rfL;rw[zaj (by decide),zam (by decide),HSL.out];exact q8e (q6w HP.out S.out (H35.out (by decide))) (q44 HP.out S.out)
  have hcl:(comp V s).length=c:=by rw[q1y,HVL.out]
  have HCL:=zaa hcl;clear hcl;go_wp2_with fail;refine(q3o AV AS c cV n cS V s U (HVR.out U T3) (HSR.out U T3) S.out h3).mono ?_;rintro e w5 ⟨d,f,rfl,j,H⟩;rw[HCL.out]at j;rw[HCL.out];have T5:=q9 T3 H rfl;have ae:=q9 ah H rfl;have G:=ad.next H;have gG:=G.cell 3;simp at gG;have gF:=G.frozen 3;obtain⟨wq,T⟩:∃wq,wq=w5.setCell ⟨F.heap.size,3,none⟩ (.slice d c f):=⟨_,rfl⟩;have HWQ:=zaa T;have Tq:Below I.heap.size I wq:=by rw[T];exact T5.setCell (p:=⟨F.heap.size,3,none⟩) (by exact hz1) _
  have Tgq:Below F.heap.size F wq:=by rw[T];exact ae.setCell (p:=⟨F.heap.size,3,none⟩) (zad _) _
  have BGq:Blk wq F.heap.size 57 #[.int .i64 3,.slice o l u,.slice t m x,.slice d c f]:=by rw[T];simpa using G.set_ 3 (.slice d c f)
  have hoq:wq.ownsRow U.heap.size 3 1 (.slice d c f) c (ints (comp V s)):=by rw[T];exact qx (p:=⟨F.heap.size,3,none⟩) j (by exact hg1)
  have gQ3:=BGq.cell 3;simp at gQ3;have HSO:=zaa (q9c U.heap.size c f d (comp V s) wq hoq h3);have hofs:∀b,(Value.slice d c f).ownBlock=some b->U.heap.size<=b:=fun b hb=>(hoq.lt b hb).1
  have HOF:=zaa hofs;clear T j hofs hoq;go_upto_region 9 with fail;rw[<-HWQ.out];go_wp2_with fail;refine HSO.out.mono ?_;rintro e wc ⟨rfl,ab,ag⟩;rw[P.out]at ab;have Tk:=Tq.grown ag (by have:=Tq.size;omega) (fun r hr=>by have:=HOF.out r hr;omega);have Tg:=Tgq.grown ag (by have:=Tgq.size;omega) (fun r hr=>by have:=HOF.out r hr;omega);have BG:=BGq.grown ag (fun e=>by have:=HOF.out _ e.symm;omega);have J:=ql (base':=I.heap.size) ab hz3;have y:Apart (.slice o l u) (.slice d c f):=q13 Q.out.1 ab N;have z:Apart (.slice t m x) (.slice d c f):=q13 Q.out.2.1 ab N;clear ab ag;go_upto_region 14 with fail;have C:=BQ.next Tk;obtain⟨cG0,cG1,cG2,cG3⟩:=cl4 BG;obtain⟨cR0,cR1,cR2,cR3⟩:=cl4 C;have fR0:=C.frozen 0;have fR1:=C.frozen 1;have fR2:=C.frozen 2;have fR3:=C.frozen 3;obtain⟨M,g⟩:∃M,Hid (M=(((wc.setCell ⟨w.heap.size+1,0,none⟩ (.int .i64 3)).setCell ⟨w.heap.size+1,1,none⟩ (.slice o l u)).setCell ⟨w.heap.size+1,2,none⟩ (.slice t m x)).setCell ⟨w.heap.size+1,3,none⟩ (.slice d c f)):=⟨_,rfl⟩;have W:Blk M (w.heap.size+1) 57 #[.int .i64 3,.slice o l u,.slice t m x,.slice d c f]:=by rw[g.out];simpa using(((C.set_ 0 (.int .i64 3)).set_ 1 (.slice o l u)).set_ 2 (.slice t m x)).set_ 3 (.slice d c f)
  have i:∀ {v:Value} {n:Nat} {xs:List Value},wc.ownsRow I.heap.size 3 1 v n xs->M.ownsRow I.heap.size 3 1 v n xs:=fun h=>by
   rw[g.out];exact qx (qx (qx (qx h (by exact B)) (by exact B)) (by exact B)) (by exact B)
  have Y:=zaa (i (qp (Q.out).1 Tg));have Z:=zaa (i (qp (Q.out).2.1 Tg));have O:=zaa (i J);have aa:Hid (Below w.heap.size w M):=by
   show Below _ _ _
   rw[g.out];exact((((q9 A.out Tk rfl).setCell (p:=⟨w.heap.size+1,0,none⟩) (show w.heap.size<=w.heap.size+1 by omega) _).setCell (p:=⟨w.heap.size+1,1,none⟩) (show w.heap.size<=w.heap.size+1 by omega) _).setCell (p:=⟨w.heap.size+1,2,none⟩) (show w.heap.size<=w.heap.size+1 by omega) _).setCell (p:=⟨w.heap.size+1,3,none⟩) (show w.heap.size<=w.heap.size+1 by omega) _
  have K:=zaa (zao y z);clear J C i y z;go_wp2_with fail;rw[<-g.out]
  (try simp only[Exit.inBlock,Exit.then])
  refine zat (v:=.agg #[.int .i64 3,.slice o l u,.slice t m x,.slice d c f]) (zb0 rfl _ _ (w.heap.size+1) 57 #[.int .i64 3,.slice o l u,.slice t m x,.slice d c f] (0,0) _ (by simp) W zcp rfl (by kernel_rfl)) rfl ?_;exact⟨o,u,t,x,d,f,rfl,ql Y.out A.out.size,ql Z.out A.out.size,ql O.out A.out.size,(Q.out).2.2,K.out.1,K.out.2,aa.out⟩
 .
  have P:Hid (kerL (comp (inv n s) V)=X):=by show _=_;rw[<-HX.out];unfold rfL;simp[HSL.out]
  have hv4:V.length=n:=H46.out (by omega);obtain rfl:E=n:=by rw[<-HVL.out];exact hv4
  have HV4:=zaa hv4;clear hv4;go_wp2_with fail;refine(q3o A4 AV E c4 E cV (inv E s) V U (HR4.out U (zac _ _)) (HVR.out U T3) (q92 HP.out) hn).mono ?_;rintro e w4 ⟨A6,c6,rfl,ho6,af⟩;have T4:=q9 T3 af rfl;have Tg4:=q9 ah af rfl;have BG4:=ad.next af;have hqi:InL E (comp (inv E s) V):=q5m HV4.out S.out (q92 HP.out);have HQI:=zaa hqi;have hq6:=q12 (R:=RI) ho6 (q1r fun v hv=>by have:=hqi v hv;omega);have hlq:(comp (inv E s) V).length=E:=by rw[q1y,HLI.out]
  have HLQ:=zaa hlq;rw[HLQ.out]at hq6⊢;clear ho6 hlq hqi;go_wp2_with fail;refine(q95 A6 E c6 (comp (inv E s) V) w4 hq6 hn).mono ?_;rintro e w5 ⟨d,f,rfl,j,H⟩;rw[P.out,ac.out]at j;rw[P.out,ac.out];replace j:=ql (base':=U.heap.size) j af.size;have T5:=q9 T4 H rfl;have ae:=q9 Tg4 H rfl;have G:=BG4.next H;obtain⟨wc,D⟩:∃wc,wc=w5.setCell ⟨F.heap.size,3,none⟩ (.slice d c f):=⟨_,rfl⟩;have HWC:=zaa D;have Tk:Below I.heap.size I wc:=by rw[D];exact T5.setCell (p:=⟨F.heap.size,3,none⟩) (by exact hz1) _
  have Tg:Below F.heap.size F wc:=by rw[D];exact ae.setCell (p:=⟨F.heap.size,3,none⟩) (zad _) _
  have BG:Blk wc F.heap.size 57 #[.int .i64 4,.slice o l u,.slice t m x,.slice d c f]:=by rw[D];simpa using G.set_ 3 (.slice d c f)
  have J:wc.ownsRow I.heap.size 3 1 (.slice d c f) c (ints X):=by rw[D];exact ql (qx (p:=⟨F.heap.size,3,none⟩) j (by exact hg1)) hz3
  have y:Apart (.slice o l u) (.slice d c f):=q13 Q.out.1 j N;have z:Apart (.slice t m x) (.slice d c f):=q13 Q.out.2.1 j N;have gG:=G.cell 3;simp at gG;have gF:=G.frozen 3;clear D j;go_upto_region 14 with fail;rw[<-HWC.out];have C:=BQ.next Tk;obtain⟨cG0,cG1,cG2,cG3⟩:=cl4 BG;obtain⟨cR0,cR1,cR2,cR3⟩:=cl4 C;have fR0:=C.frozen 0;have fR1:=C.frozen 1;have fR2:=C.frozen 2;have fR3:=C.frozen 3;obtain⟨M,g⟩:∃M,Hid (M=(((wc.setCell ⟨w.heap.size+1,0,none⟩ (.int .i64 4)).setCell ⟨w.heap.size+1,1,none⟩ (.slice o l u)).setCell ⟨w.heap.size+1,2,none⟩ (.slice t m x)).setCell ⟨w.heap.size+1,3,none⟩ (.slice d c f)):=⟨_,rfl⟩;have W:Blk M (w.heap.size+1) 57 #[.int .i64 4,.slice o l u,.slice t m x,.slice d c f]:=by rw[g.out];simpa using(((C.set_ 0 (.int .i64 4)).set_ 1 (.slice o l u)).set_ 2 (.slice t m x)).set_ 3 (.slice d c f)
  have i:∀ {v:Value} {n:Nat} {xs:List Value},wc.ownsRow I.heap.size 3 1 v n xs->M.ownsRow I.heap.size 3 1 v n xs:=fun h=>by
   rw[g.out];exact qx (qx (qx (qx h (by exact B)) (by exact B)) (by exact B)) (by exact B)
  have Y:=zaa (i (qp (Q.out).1 Tg));have Z:=zaa (i (qp (Q.out).2.1 Tg));have O:=zaa (i J);have aa:Hid (Below w.heap.size w M):=by
   show Below _ _ _
   rw[g.out];exact((((q9 A.out Tk rfl).setCell (p:=⟨w.heap.size+1,0,none⟩) (show w.heap.size<=w.heap.size+1 by omega) _).setCell (p:=⟨w.heap.size+1,1,none⟩) (show w.heap.size<=w.heap.size+1 by omega) _).setCell (p:=⟨w.heap.size+1,2,none⟩) (show w.heap.size<=w.heap.size+1 by omega) _).setCell (p:=⟨w.heap.size+1,3,none⟩) (show w.heap.size<=w.heap.size+1 by omega) _
  have K:=zaa (zao y z);clear J C i y z;go_wp2_with fail;rw[<-g.out]
  (try simp only[Exit.inBlock,Exit.then])
  refine zat (v:=.agg #[.int .i64 4,.slice o l u,.slice t m x,.slice d c f]) (zb0 rfl _ _ (w.heap.size+1) 57 #[.int .i64 4,.slice o l u,.slice t m x,.slice d c f] (0,0) _ (by simp) W zcp rfl (by kernel_rfl)) rfl ?_;exact⟨o,u,t,x,d,f,rfl,ql Y.out A.out.size,ql Z.out A.out.size,ql O.out A.out.size,(Q.out).2.2,K.out.1,K.out.2,aa.out⟩
 .
  have hnx:c=E:=by
   rw[<-ac.out,<-HX.out];unfold rfL;rw[zaj (by decide),zam (by decide),HSL.out,<-q8e (q6w HP.out S.out (H35.out (by decide))) (q44 HP.out S.out)];show(srt (comp V s)).length=E;rw[qgz,q1y,HVL.out]
  subst hnx;have P:Hid (srt (comp V s)=X):=by
   show _=_
   rw[<-HX.out];unfold rfL;rw[zaj (by decide),zam (by decide),HSL.out];exact q8e (q6w HP.out S.out (H35.out (by decide))) (q44 HP.out S.out)
  have hcl:(comp V s).length=c:=by rw[q1y,HVL.out]
  have HCL:=zaa hcl;clear hcl;go_wp2_with fail;refine(q3o AV AS c cV n cS V s U (HVR.out U T3) (HSR.out U T3) S.out h3).mono ?_;rintro e w5 ⟨d,f,rfl,j,H⟩;rw[HCL.out]at j;rw[HCL.out];have T5:=q9 T3 H rfl;have ae:=q9 ah H rfl;have G:=ad.next H;have gG:=G.cell 3;simp at gG;have gF:=G.frozen 3;obtain⟨wq,T⟩:∃wq,wq=w5.setCell ⟨F.heap.size,3,none⟩ (.slice d c f):=⟨_,rfl⟩;have HWQ:=zaa T;have Tq:Below I.heap.size I wq:=by rw[T];exact T5.setCell (p:=⟨F.heap.size,3,none⟩) (by exact hz1) _
  have Tgq:Below F.heap.size F wq:=by rw[T];exact ae.setCell (p:=⟨F.heap.size,3,none⟩) (zad _) _
  have BGq:Blk wq F.heap.size 57 #[.int .i64 5,.slice o l u,.slice t m x,.slice d c f]:=by rw[T];simpa using G.set_ 3 (.slice d c f)
  have hoq:wq.ownsRow U.heap.size 3 1 (.slice d c f) c (ints (comp V s)):=by rw[T];exact qx (p:=⟨F.heap.size,3,none⟩) j (by exact hg1)
  have gQ3:=BGq.cell 3;simp at gQ3;have HSO:=zaa (q9c U.heap.size c f d (comp V s) wq hoq h3);have hofs:∀b,(Value.slice d c f).ownBlock=some b->U.heap.size<=b:=fun b hb=>(hoq.lt b hb).1
  have HOF:=zaa hofs;clear T j hofs hoq;go_upto_region 9 with fail;rw[<-HWQ.out];go_wp2_with fail;refine HSO.out.mono ?_;rintro e wc ⟨rfl,ab,ag⟩;rw[P.out]at ab;have Tk:=Tq.grown ag (by have:=Tq.size;omega) (fun r hr=>by have:=HOF.out r hr;omega);have Tg:=Tgq.grown ag (by have:=Tgq.size;omega) (fun r hr=>by have:=HOF.out r hr;omega);have BG:=BGq.grown ag (fun e=>by have:=HOF.out _ e.symm;omega);have J:=ql (base':=I.heap.size) ab hz3;have y:Apart (.slice o l u) (.slice d c f):=q13 Q.out.1 ab N;have z:Apart (.slice t m x) (.slice d c f):=q13 Q.out.2.1 ab N;clear ab ag;go_upto_region 14 with fail;have C:=BQ.next Tk;obtain⟨cG0,cG1,cG2,cG3⟩:=cl4 BG;obtain⟨cR0,cR1,cR2,cR3⟩:=cl4 C;have fR0:=C.frozen 0;have fR1:=C.frozen 1;have fR2:=C.frozen 2;have fR3:=C.frozen 3;obtain⟨M,g⟩:∃M,Hid (M=(((wc.setCell ⟨w.heap.size+1,0,none⟩ (.int .i64 5)).setCell ⟨w.heap.size+1,1,none⟩ (.slice o l u)).setCell ⟨w.heap.size+1,2,none⟩ (.slice t m x)).setCell ⟨w.heap.size+1,3,none⟩ (.slice d c f)):=⟨_,rfl⟩;have W:Blk M (w.heap.size+1) 57 #[.int .i64 5,.slice o l u,.slice t m x,.slice d c f]:=by rw[g.out];simpa using(((C.set_ 0 (.int .i64 5)).set_ 1 (.slice o l u)).set_ 2 (.slice t m x)).set_ 3 (.slice d c f)
  have i:∀ {v:Value} {n:Nat} {xs:List Value},wc.ownsRow I.heap.size 3 1 v n xs->M.ownsRow I.heap.size 3 1 v n xs:=fun h=>by
   rw[g.out];exact qx (qx (qx (qx h (by exact B)) (by exact B)) (by exact B)) (by exact B)
  have Y:=zaa (i (qp (Q.out).1 Tg));have Z:=zaa (i (qp (Q.out).2.1 Tg));have O:=zaa (i J);have aa:Hid (Below w.heap.size w M):=by
   show Below _ _ _
   rw[g.out];exact((((q9 A.out Tk rfl).setCell (p:=⟨w.heap.size+1,0,none⟩) (show w.heap.size<=w.heap.size+1 by omega) _).setCell (p:=⟨w.heap.size+1,1,none⟩) (show w.heap.size<=w.heap.size+1 by omega) _).setCell (p:=⟨w.heap.size+1,2,none⟩) (show w.heap.size<=w.heap.size+1 by omega) _).setCell (p:=⟨w.heap.size+1,3,none⟩) (show w.heap.size<=w.heap.size+1 by omega) _
  have K:=zaa (zao y z);clear J C i y z;go_wp2_with fail;rw[<-g.out]
  (try simp only[Exit.inBlock,Exit.then])
  refine zat (v:=.agg #[.int .i64 5,.slice o l u,.slice t m x,.slice d c f]) (zb0 rfl _ _ (w.heap.size+1) 57 #[.int .i64 5,.slice o l u,.slice t m x,.slice d c f] (0,0) _ (by simp) W zcp rfl (by kernel_rfl)) rfl ?_;exact⟨o,u,t,x,d,f,rfl,ql Y.out A.out.size,ql Z.out A.out.size,ql O.out A.out.size,(Q.out).2.2,K.out.1,K.out.2,aa.out⟩
 .
  have P:Hid (comp (comp (inv n s) V) s=X):=by show _=_;rw[<-HX.out];unfold rfL;simp[HSL.out]
  have hv4:V.length=n:=H46.out (by omega);obtain rfl:E=n:=by rw[<-HVL.out];exact hv4
  have HV4:=zaa hv4;clear hv4;go_wp2_with fail;refine(q3o A4 AV E c4 E cV (inv E s) V U (HR4.out U (zac _ _)) (HVR.out U T3) (q92 HP.out) hn).mono ?_;rintro e w4 ⟨A6,c6,rfl,ho6,af⟩;have T4:=q9 T3 af rfl;have Tg4:=q9 ah af rfl;have BG4:=ad.next af;have hqi:InL E (comp (inv E s) V):=q5m HV4.out S.out (q92 HP.out);have HQI:=zaa hqi;have hq6:=q12 (R:=RI) ho6 (q1r fun v hv=>by have:=hqi v hv;omega);have hlq:(comp (inv E s) V).length=E:=by rw[q1y,HLI.out]
  have HLQ:=zaa hlq;rw[HLQ.out]at hq6⊢;clear ho6 hlq hqi;go_wp2_with fail;refine(q3o A6 AS E c6 E cS (comp (inv E s) V) s w4 hq6 (HSR.out w4 T4) HQI.out hn).mono ?_;rintro e w5 ⟨d,f,rfl,j,H⟩;rw[P.out,ac.out]at j;rw[P.out,ac.out];replace j:=ql (base':=U.heap.size) j af.size;have T5:=q9 T4 H rfl;have ae:=q9 Tg4 H rfl;have G:=BG4.next H;obtain⟨wc,D⟩:∃wc,wc=w5.setCell ⟨F.heap.size,3,none⟩ (.slice d c f):=⟨_,rfl⟩;have HWC:=zaa D;have Tk:Below I.heap.size I wc:=by rw[D];exact T5.setCell (p:=⟨F.heap.size,3,none⟩) (by exact hz1) _
  have Tg:Below F.heap.size F wc:=by rw[D];exact ae.setCell (p:=⟨F.heap.size,3,none⟩) (zad _) _
  have BG:Blk wc F.heap.size 57 #[.int .i64 6,.slice o l u,.slice t m x,.slice d c f]:=by rw[D];simpa using G.set_ 3 (.slice d c f)
  have J:wc.ownsRow I.heap.size 3 1 (.slice d c f) c (ints X):=by rw[D];exact ql (qx (p:=⟨F.heap.size,3,none⟩) j (by exact hg1)) hz3
  have y:Apart (.slice o l u) (.slice d c f):=q13 Q.out.1 j N;have z:Apart (.slice t m x) (.slice d c f):=q13 Q.out.2.1 j N;have gG:=G.cell 3;simp at gG;have gF:=G.frozen 3;clear D j;go_upto_region 14 with fail;rw[<-HWC.out];have C:=BQ.next Tk;obtain⟨cG0,cG1,cG2,cG3⟩:=cl4 BG;obtain⟨cR0,cR1,cR2,cR3⟩:=cl4 C;have fR0:=C.frozen 0;have fR1:=C.frozen 1;have fR2:=C.frozen 2;have fR3:=C.frozen 3;obtain⟨M,g⟩:∃M,Hid (M=(((wc.setCell ⟨w.heap.size+1,0,none⟩ (.int .i64 6)).setCell ⟨w.heap.size+1,1,none⟩ (.slice o l u)).setCell ⟨w.heap.size+1,2,none⟩ (.slice t m x)).setCell ⟨w.heap.size+1,3,none⟩ (.slice d c f)):=⟨_,rfl⟩;have W:Blk M (w.heap.size+1) 57 #[.int .i64 6,.slice o l u,.slice t m x,.slice d c f]:=by rw[g.out];simpa using(((C.set_ 0 (.int .i64 6)).set_ 1 (.slice o l u)).set_ 2 (.slice t m x)).set_ 3 (.slice d c f)
  have i:∀ {v:Value} {n:Nat} {xs:List Value},wc.ownsRow I.heap.size 3 1 v n xs->M.ownsRow I.heap.size 3 1 v n xs:=fun h=>by
   rw[g.out];exact qx (qx (qx (qx h (by exact B)) (by exact B)) (by exact B)) (by exact B)
  have Y:=zaa (i (qp (Q.out).1 Tg));have Z:=zaa (i (qp (Q.out).2.1 Tg));have O:=zaa (i J);have aa:Hid (Below w.heap.size w M):=by
   show Below _ _ _
   rw[g.out];exact((((q9 A.out Tk rfl).setCell (p:=⟨w.heap.size+1,0,none⟩) (show w.heap.size<=w.heap.size+1 by omega) _).setCell (p:=⟨w.heap.size+1,1,none⟩) (show w.heap.size<=w.heap.size+1 by omega) _).setCell (p:=⟨w.heap.size+1,2,none⟩) (show w.heap.size<=w.heap.size+1 by omega) _).setCell (p:=⟨w.heap.size+1,3,none⟩) (show w.heap.size<=w.heap.size+1 by omega) _
  have K:=zaa (zao y z);clear J C i y z;go_wp2_with fail;rw[<-g.out]
  (try simp only[Exit.inBlock,Exit.then])
  refine zat (v:=.agg #[.int .i64 6,.slice o l u,.slice t m x,.slice d c f]) (zb0 rfl _ _ (w.heap.size+1) 57 #[.int .i64 6,.slice o l u,.slice t m x,.slice d c f] (0,0) _ (by simp) W zcp rfl (by kernel_rfl)) rfl ?_;exact⟨o,u,t,x,d,f,rfl,ql Y.out A.out.size,ql Z.out A.out.size,ql O.out A.out.size,(Q.out).2.2,K.out.1,K.out.2,aa.out⟩
def ImI (n ar i:Nat) (f:List Int) (k cur at_ st:Nat):Prop:=idx n ((digs n (ar - k) cur).map (nmAt f))*st+at_=toI n ar f i/\st=n ^ k
theorem ImI.start (n a i:Nat) (f:List Int):ImI n a i f 0 i 0 1:=⟨by show idx n ((digs n (a - 0) i).map (nmAt f))*1+0=toI n a f i;rw[Nat.mul_one,Nat.add_zero];rfl,(zfw n).symm⟩
theorem ImI.next {n b i:Nat} {f:List Int} {k a d c:Nat} (h:ImI n b i f k a d c) (j:k<b):ImI n b i f (k+1) (a / n) (d+nmAt f (a % n)*c) (c*n):=by
 obtain⟨e,g⟩:=h;refine⟨?_,by rw[g,zfi]⟩;rw[<-e,show b - k=(b - (k+1))+1 by omega,digs,zel,zcz,List.map_nil,q4s,Nat.add_mul];have:idx n ((digs n (b - (k+1)) (a / n)).map (nmAt f))*(c*n)=idx n ((digs n (b - (k+1)) (a / n)).map (nmAt f))*n*c:=by rw[Nat.mul_assoc,zfh c n]
 omega
theorem ImI.done {n b i:Nat} {f:List Int} {k c a e:Nat} (h:ImI n b i f k c a e) (g:¬k<b):a=toI n b f i:=by
 have d:=h.1;rw[show b - k=0 by omega]at d
 simpa[digs,idx]using d
def MpL (n:Nat) (f:List Int):Prop:=f.length=n/\∀v∈f,0<=v/\v<=(n:Int) - 1
theorem MpL.at {n:Nat} {f:List Int} (h:MpL n f) {x:Nat} (c:x<n):f[x]?=some (nmAt f x:Int)/\nmAt f x<n:=by
 have b:x<f.length:=by rw[h.1];exact c
 have d:=h.2 _ (zce b);have a:f[x]?=some f[x]:=zae b;rw[q1d a,a];exact⟨by congr 1;omega,by omega⟩
theorem MpL.im {n:Nat} {f:List Int} (h:MpL n f) (a:0<n) (k i:Nat):toI n k f i<n ^ k:=by
 refine q7d k _ (by rw[zbz,q1t]) fun d hd=>?_
 obtain⟨x,b,rfl⟩:=zbe.1 hd;exact(h.at (q20 a b)).2
theorem qb3 (cs:List Value) (x:qi) (A:Option Addr) (n m c i g:Nat) (f:List Int) (w:World) (h:qf.rd w cs x) (hn:x.1=(n:Int)) (J:0<n) (r:n<=8) (D:RdL RI w A m f) (N:MpL n f) (ha:g<=3) (hi:i<n ^ g):
  Calls Tryz.prog 201 #[.int .i64 i,.int .i64 g,.agg cs.toArray,.agg cs.toArray,.slice A m c] w (Bl w (.int .i64 ((toI n g f i:Nat):Int))):=by
 obtain⟨B,k,d,rfl,-,qo⟩:=qv h;rw[hn];obtain⟨w0,L,T0,K,BP,BQ⟩:=q1q w #[.int .i64 (n:Int),.slice B k d] #[.int .i64 (n:Int),.slice B k d] 24 24;have R:=zaa L;have S:=BP.cell 0;have T:=BQ.cell 0;simp at S T;have r0:=D.next qd T0;have HF:=zaa N;have aa:m=n:=by rw[<-D.len];exact N.1
 subst aa;have Z:i<=4096:=by have:=q47 (n:=m) (k:=g) r (by omega);omega
 have t:toI m g f i<=4096:=by have:=N.im J g i;have:=q47 (n:=m) (k:=g) r (by omega);omega
 have F:=zaa t;clear L K qo h D N hn hi t
 go_enter Tryz.func201,Tryz.ntmps201
 go_upto_region 1 with fail;rw[<-R.out];go_wp2_with fail
 go_loop [0,11,12,13] (fun ci ca V U=>∃q a l j:Nat,q<=g/\U=.int .i64 q/\ci=.int .i64 a/\ca=.int .i64 l/\V=.int .i64 j/\a<=4096/\Hid (ImI m g i f q a l j)) (fun _ _ _ U=>g - (intOf U).toNat)
 case atStart=>exact⟨0,i,0,1,zah _,rfl,rfl,rfl,rfl,Z,ImI.start _ _ _ _⟩
 case round=>
  obtain⟨q,a,l,j,hq,rfl,rfl,rfl,rfl,H,O⟩:=hrel
  by_cases hlt:q<g
  .have hq0:(0:Int)<=(q:Int):=by omega
   have ab:(q:Int)<(g:Int):=by omega
   have D:=zfn a J;obtain⟨X,M⟩:∃X,Hid (a % m=X):=⟨_,rfl⟩;rw[M.out]at D;have C:=HF.out.at D;obtain⟨G,E⟩:∃z,Hid (nmAt f X=z):=⟨_,rfl⟩;rw[E.out]at C;obtain⟨b,o,u,v,rfl,hc,⟨rfl,-,-⟩,-,s⟩:=r0.at D;rw[C.1]at s;injection s with s
   subst s;have ac:j<=4096:=by rw[O.out.2];exact q47 r (by omega)
   have p:=O.out.next hlt;rw[M.out,E.out]at p;have I:l+G*j<=4096:=by
    have h1:=p.1;have:=F.out;omega
   have hM:G*j<=4096:=by omega
   have W:j*m<=4096*8:=zci ac r;have y:=zaa p;have e1:(G:Int)*(j:Int)=((G*j:Nat):Int):=(zbw _ _).symm;obtain⟨P1,P⟩:∃z,Hid (G*j=z):=⟨_,rfl⟩;rw[P.out]at e1 y hM I;have e2:(j:Int)*(m:Int)=((j*m:Nat):Int):=(zbw _ _).symm;obtain⟨P2,Q⟩:∃z,Hid (j*m=z):=⟨_,rfl⟩;rw[Q.out]at e2 y W;have HQ:Hid (wrap64 ((a:Int) / (m:Int))=((a / m:Nat):Int)):=by
    show _=_
    have e:(a:Int) / (m:Int)=((a / m:Nat):Int):=by simp
    rw[e];exact w64 (by have:=zfj a m;omega)
   have Y:a / m<=4096:=za7 (zfj _ _) H;have f5:(a:Int) % (m:Int)=(X:Int):=by rw[<-M.out];simp
   have f6:a % m=X:=M.out;have hX0:(0:Int)<=(X:Int):=by omega
   have hX1:(X:Int)<(m:Int):=by omega
   have hnz:¬(m:Int)=0:=by omega
   clear C p;go_wp2_with fail
   go_round
   case rel=>exact⟨q+1,a / m,l+P1,P2,by omega,by go_num,by rw[HQ.out],by go_num,by go_num,Y,y⟩
   case measure=>simp[intOf];try omega
  .have ab:¬(q:Int)<(g:Int):=by omega
   have HD:=zaa (O.out.done hlt);go_wp2_with fail;go_ret;exact⟨q11 (by rw[HD.out]),T0⟩
def mpB (n:Nat) (f:List Int):Bool:=decide (f.length=n) &&q1z 0 ((n:Int) - 1) f
theorem qlp {n:Nat} {f:List Int}:mpB n f=true↔MpL n f:=by unfold mpB MpL;rw[zal,zax,q3e]
theorem ql1 (cs:List Value) (x:qi) (A:Option Addr) (m c:Nat) (f:List Int) (w:World) (h:qf.rd w cs x) (r:AlgP x) (j:RdL RI w A m f):
  Calls Tryz.prog 181 #[.agg cs.toArray,.agg cs.toArray,.slice A m c] w (Bl w (.bool (mpB x.1.toNat f))):=by
 obtain⟨B,k,d,rfl,-,G⟩:=qv h;obtain⟨n,u⟩:∃n:Nat,x.1=(n:Int):=⟨x.1.toNat,by have:=r.1;omega⟩;have l:Hid (x.1.toNat=n):=by show _=_;omega
 have F:n<=8:=by have:=r.2.1;omega
 rw[l.out,u];obtain⟨I,i,o,g,y,C⟩:=q1q w #[.int .i64 (n:Int),.slice B k d] #[.int .i64 (n:Int),.slice B k d] 24 24;have b:=zaa i;have p:=y.cell 0;have q:=C.cell 0;simp at p q;have H:=j.next qd o;have D:=zaa j.len;have v:=j.le;have s:=zaa (q4e A m c f (n:Int) I H);obtain⟨E,a⟩:∃z,Hid (q1z 0 ((n:Int) - 1) f=z):=⟨_,rfl⟩;rw[a.out]at s;have t:Hid (mpB n f=(decide (m=n) &&E)):=by show _=_;unfold mpB;rw[a.out,D.out]
 clear i g G h r j u
 by_cases hmn:m=n
 .subst hmn
  have hd:((m:Int)==(m:Int))=true:=by simp
  go_enter Tryz.func181,Tryz.ntmps181
  go_upto_region 1 with fail;rw[<-b.out];go_wp2_with fail;refine s.out.mono ?_;rintro e J ⟨rfl,rfl⟩;go_wp2_with fail;go_ret;exact⟨qg (by rw[t.out];simp),o⟩
 .have hd:((m:Int)==(n:Int))=false:=by rw[zbj];omega
  go_enter Tryz.func181,Tryz.ntmps181
  go_upto_region 1 with fail;rw[<-b.out];go_wp2_with fail;go_ret;exact⟨qg (by rw[t.out,zbi hmn];rfl),o⟩
def FtE (w:World) (P:Prop) (e:Ending) (w':World):Prop:=∃kk ii:Int,e=.returned (.tuple #[.int .i64 kk,.int .i64 ii])/\(kk<0↔P)/\Below w.heap.size w w'
def HomTo (n:Nat) (ops:List OpM) (f:List Int) (k q:Nat):Prop:=(∀j,j<k->∀o,ops[j]?=some o->∀i,i<o.2.length->nmAt f (nmAt o.2 i)=nmAt o.2 (toI n o.1.toNat f i))/\(∀o,ops[k]?=some o->∀i,i<q->i<o.2.length->nmAt f (nmAt o.2 i)=nmAt o.2 (toI n o.1.toNat f i))
theorem HomTo.start (n:Nat) (ops:List OpM) (f:List Int):HomTo n ops f 0 0:=⟨fun j h=>absurd h (by omega),fun o _ i h=>absurd h (by omega)⟩
theorem HomTo.entry {n:Nat} {ops:List OpM} {f:List Int} {k q:Nat} {o:OpM} (h:HomTo n ops f k q) (c:ops[k]?=some o) (d:nmAt f (nmAt o.2 q)=nmAt o.2 (toI n o.1.toNat f q)):HomTo n ops f k (q+1):=⟨h.1,fun j a i g b=>by
 rw[c]at a;injection a with a
 subst a
 by_cases e:i=q
 .subst e;exact d
 .exact h.2 _ c i (by omega) b⟩
theorem HomTo.op {n:Nat} {ops:List OpM} {f:List Int} {k q:Nat} {o:OpM} (h:HomTo n ops f k q) (d:ops[k]?=some o) (l:¬q<o.2.length):HomTo n ops f (k+1) 0:=⟨fun j g b a i c=>by
 by_cases e:j=k
 .subst e;exact h.2 b a i (by rw[d]at a;injection a with a;subst a;omega) c
 .exact h.1 j (by omega) b a i c,fun b _ i h=>absurd h (by omega)⟩
theorem HomTo.done {n:Nat} {ops:List OpM} {f:List Int} {k q:Nat} (h:HomTo n ops f k q) (d:¬k<ops.length):HomP n ops f:=fun o c i b=>by
 obtain⟨j,a⟩:=zbo c;have:=(zag.1 a).1;exact h.1 j (by omega) o a i b
theorem qft (cs:List Value) (x:qi) (A:Option Addr) (n c:Nat) (f:List Int) (w:World) (h:qf.rd w cs x) (hx:AlgP x) (hn:x.1=(n:Int)) (hr:RdL RI w A n f) (hf:MpL n f):
  Calls Tryz.prog 182 #[.agg cs.toArray,.agg cs.toArray,.slice A n c] w (FtE w (HomP n x.2 f)):=by
 have ab:=h;obtain⟨a,j⟩:=x;obtain⟨hx1,hx2,N,g⟩:=hx;simp only at hx1 hx2 N g hn;subst hn;rw[za5]at g;have Z:0<n:=by omega
 have aa:n<=8:=by omega
 obtain⟨B,m,d,rfl,-,qo⟩:=qv h;have HML:=zaa qo.len;have T:=zaa g;have hm4:m<=4:=by rw[<-qo.len];exact N
 obtain⟨S,ag,W,ad,BP,BQ⟩:=q1q w #[.int .i64 (n:Int),.slice B m d] #[.int .i64 (n:Int),.slice B m d] 24 24;have HW0:=zaa ag;have HRD:Hid (∀s,Below S.heap.size S s->qf.rd s [.int .i64 (n:Int),.slice B m d] ((n:Int),j)):=fun s hz=>qf.stab (qf.stab ab W.block) hz.block
 replace qo:=qo.next W;have r0:=hr.next qd W;obtain⟨cP0,cP1⟩:=cl2 BP;obtain⟨cQ0,cQ1⟩:=cl2 BQ;have HF:=zaa hf;clear ag ad N g h hr ab hf
 go_enter Tryz.func182,Tryz.ntmps182
 go_upto_region 1 with fail;rw[<-HW0.out];go_wp2_with fail
 go_loopw [15] (fun i wr=>∃k:Nat,k<=m/\i=.int .i64 k/\Hid (HomTo n j f k 0)/\Below S.heap.size S wr) (fun i _=>m - (intOf i).toNat)
 case atStart=>exact⟨0,zah _,rfl,HomTo.start _ _ _,zac _ _⟩
 case round=>
  obtain⟨k,hk,rfl,R,u⟩:=hrel
  by_cases hlt:k<m
  .have hk0:(0:Int)<=(k:Int):=by omega
   have hk1:(k:Int)<(m:Int):=by omega
   obtain⟨b,o,vs,op,rfl,-,hc,ac,-,P⟩:=qo.at hlt;obtain⟨B',p,d',rfl,-,qt⟩:=rdOp ac;have C:=T.out op (zaf P);obtain⟨t,tb,rfl,har⟩:=q89 C;have K:=zaa P;have J:Hid (p=n ^ t):=by show _=_;rw[<-qt.len];have:=C.2.2.1;simpa using this
   have U:Hid (tb.length=p):=qt.len;have V:=zaa C.2.2.2;have hm512:p<=4096:=by rw[J.out];exact q47 aa (by omega)
   have cc0:S.cell? ⟨b,o+k*2,none⟩=some (.int .i64 (t:Int)):=hc 0 _ rfl;have Y:S.cell? ⟨b,o+k*2+1,none⟩=some (.slice B' p d'):=hc 1 _ rfl;have kc0:=qe u cc0;have kc1:=qe u Y;obtain⟨wo,HWO⟩:∃wo:World,wo=wr:=⟨_,rfl⟩;subst HWO;obtain⟨w1,ah,T1,ae,BX⟩:=q15 wo #[.int .i64 (t:Int),.slice B' p d'] 122;have HW1:=zaa ah;have X:=q9 u T1 rfl;obtain⟨cX0,cX1⟩:=cl2 BX;clear hc ac P C ah ae;go_wp2_with fail;rw[<-HW1.out];clear kc0 kc1;go_wp2_with fail
   go_loopw [23] (fun i wi=>∃q:Nat,q<=p/\i=.int .i64 q/\Hid (HomTo n j f k q)/\Below w1.heap.size w1 wi) (fun i _=>p - (intOf i).toNat)
   case atStart=>exact⟨0,zah _,rfl,R,zac _ _⟩
   case round=>
    clear R;obtain⟨q,hq,rfl,R,L⟩:=hrel;have r:=q9 X L rfl
    by_cases hlq:q<p
    .have hq0:(0:Int)<=(q:Int):=by omega
     have hq1:(q:Int)<(p:Int):=by omega
     obtain⟨b3,o3,u3,v,rfl,hc3,⟨rfl,-,-⟩,-,Q⟩:=(qt.next qd r).at hlq;have af:=V.out v (zaf Q);obtain⟨y,rfl⟩:=zan af.1;have ai:y<n:=by omega
     have HY:Hid (nmAt tb q=y):=by show _=_;rw[q1d Q];simp
     have M:=HF.out.at ai;obtain⟨fy,G⟩:∃z,Hid (nmAt f y=z):=⟨_,rfl⟩;rw[G.out]at M;obtain⟨b4,o4,u4,v4,rfl,hc4,⟨rfl,-,-⟩,-,g⟩:=(r0.next qd r).at ai;rw[M.1]at g;injection g with g
     subst g;have D:toI n t f q<p:=by rw[J.out];exact HF.out.im Z _ _
     obtain⟨IM,I⟩:∃z,Hid (toI n t f q=z):=⟨_,rfl⟩;rw[I.out]at D;obtain⟨u5,v5,hc5,⟨rfl,-,-⟩,-,O⟩:=(qt.next qd r).at' D;have E:=V.out v5 (zaf O);obtain⟨z,rfl⟩:=zan E.1;have HZ:Hid (nmAt tb (toI n t f q)=z):=by show _=_;rw[I.out,q1d O];simp
     have HC:Hid (∀s,Below wr.heap.size wr s->Calls Tryz.prog 201 #[.int .i64 (q:Int),.int .i64 (t:Int),.agg #[.int .i64 (n:Int),.slice (some ⟨b,o,none⟩) m d],.agg #[.int .i64 (n:Int),.slice (some ⟨b,o,none⟩) m d],.slice (some ⟨b4,o4,none⟩) n c] s (Bl s (.int .i64 (IM:Int)))):=fun s hz=>by
      have:=qb3 _ ((n:Int),j) (some ⟨b4,o4,none⟩) n n c q t f s (HRD.out s (q9 r hz rfl)) rfl Z aa ((r0.next qd r).next qd hz) HF.out har (by rw[<-J.out];exact hlq);rw[I.out]at this;exact this
     have hy0:(0:Int)<=(y:Int):=by omega
     have hy1:(y:Int)<(n:Int):=by omega
     have hM0:(0:Int)<=(IM:Int):=by omega
     have hM1:(IM:Int)<(p:Int):=by omega
     obtain⟨bb,F⟩:∃z',Hid (((fy:Int) !=(z:Int))=z'):=⟨_,rfl⟩;have jP0:=qe r cP0;have jP1:=qe r cP1;have jQ0:=qe r cQ0;have jQ1:=qe r cQ1;have jX0:=qe L cX0;have jc1:=qe r Y;have l:Below wr.heap.size wr wr:=zac _ _;clear Q af O E M;go_upto_region 7 with fail
     go_cut [47]from 28 to 50 (fun u47 wx=>u47=.bool bb/\Below wr.heap.size wr wx)
     case first=>
      go_region_held3 (fun w'=>w'.cell? ⟨w.heap.size,0,none⟩=some (.int .i64 (n:Int))/\w'.cell? ⟨w.heap.size,1,none⟩=some (.slice (some ⟨b,o,none⟩) m d)/\w'.cell? ⟨w.heap.size+1,0,none⟩=some (.int .i64 (n:Int))/\w'.cell? ⟨w.heap.size+1,1,none⟩=some (.slice (some ⟨b,o,none⟩) m d)/\w'.cell? ⟨wo.heap.size,0,none⟩=some (.int .i64 (t:Int))/\w'.cell? ⟨b,o+k*2+1,none⟩=some (.slice (some ⟨b3,o3,none⟩) p d')/\w'.cell? ⟨b4,o4+y,none⟩=some (.int .i64 (fy:Int))/\w'.cell? ⟨b3,o3+IM,none⟩=some (.int .i64 (z:Int))) (first|go_keep|exact⟨qe l jP0,qe l jP1,qe l jQ0,qe l jQ1,qe l jX0,qe l jc1,qe l hc4,qe l hc5⟩) (first
       |(go_at_call 201;(with_reducible refine(HC.out _ ?_).mono ?_);(first|exact l|exact zai l);rintro e wn ⟨rfl,hbn⟩;replace l:=q9 (by first|exact l|exact zai l) hbn rfl))
      all_goals
       go_wp2_with fail;go_meet;exact⟨by rw[<-F.out],by first|exact l|exact zai l⟩
     case rest=>
      obtain⟨rfl,hTc⟩:=hcut;have TN:=q9 L hTc rfl
      rcases bb with _|_
      .have H:Hid (HomTo n j f k (q+1)):=R.out.entry K.out (by
        simp only[za5];rw[HY.out,G.out,HZ.out];have:=F.out;have h2:(fy:Int)=(z:Int):=by simpa using this
        omega)
       go_wp2_with fail
       go_roundw
       case rel=>exact⟨q+1,by omega,by go_num,H,TN⟩
       case measure=>simp[intOf];try omega
      .have HNO:Hid (¬HomP n j f):=fun hh=>by
        have h1:=hh _ (zaf K.out) q (by have:=U.out;simp only;omega);simp only[za5]at h1;rw[HY.out,G.out,HZ.out]at h1;have:=F.out;rw[h1]at this;simp at this
       go_wp2_with fail
       go_ret2
       exact⟨(k:Int),(q:Int),rfl,⟨fun h=>absurd h (by omega),fun h=>absurd h HNO.out⟩,q9 W (q9 X TN rfl) rfl⟩
    .have hq1:¬(q:Int)<(p:Int):=by omega
     have H:Hid (HomTo n j f (k+1) 0):=R.out.op K.out (by have:=U.out;simp only;omega);go_wp2_with fail
     go_roundw
     case rel=>exact⟨k+1,by omega,by go_num,H,r⟩
     case measure=>simp[intOf];try omega
  .have hk1:¬(k:Int)<(m:Int):=by omega
   have HD:Hid (HomP n j f):=R.out.done (by rw[HML.out];exact hlt);go_wp2_with fail
   go_ret2
   exact⟨-1,0,rfl,⟨fun _=>HD.out,fun _=>by decide⟩,q9 W u rfl⟩
theorem ql0 (cs:List Value) (x:qi) (A:Option Addr) (m c:Nat) (f:List Int) (w:World) (h:qf.rd w cs x) (u:AlgP x) (I:RdL RI w A m f):
  Calls Tryz.prog 133 #[.agg cs.toArray,.agg cs.toArray,.slice A m c] w (Bl w (.bool (homB x.1.toNat x.2 f))):=by
 have q:=h;obtain⟨B,k,d,rfl,-,Z⟩:=qv h;obtain⟨n,P⟩:∃n:Nat,x.1=(n:Int):=⟨x.1.toNat,by have:=u.1;omega⟩;have C:=zaa P;have o:Hid (x.1.toNat=n):=by show _=_;omega
 obtain⟨J,s,t,r,S,T⟩:=q1q w #[.int .i64 x.1,.slice B k d] #[.int .i64 x.1,.slice B k d] 24 24;have E:=zaa s;have p:Hid (∀K,Below J.heap.size J K->qf.rd K [.int .i64 x.1,.slice B k d] x):=fun K X=>qf.stab (qf.stab q t.block) X.block
 obtain⟨g,i⟩:=cl2 S;obtain⟨j,l⟩:=cl2 T;have V:=zaa u;have v:=zaa I.len;have R:=I.next qd t;have y:=zaa (ql1 _ x A m c f J (p.out _ (zac _ _)) u R);rw[o.out]at y;rw[o.out];obtain⟨O,b⟩:∃z,Hid (mpB n f=z):=⟨_,rfl⟩;rw[b.out]at y;have D:Hid (homB n x.2 f=(O &&tt (HomP n x.2 f))):=by show _=_;unfold homB;rw[<-b.out];rfl
 clear s r Z h q u I P
 go_enter Tryz.func133,Tryz.ntmps133
 go_upto_region 1 with fail;rw[<-E.out];go_wp2_with fail;refine y.out.mono ?_;rintro e w1 ⟨rfl,a⟩;have L:=kk4 a g i j l;clear g i j l;obtain⟨g,i,j,l⟩:=L
 rcases O with _|_
 .go_wp2_with fail
  go_ret;exact⟨qg (by rw[D.out];rfl),q9 t a rfl⟩
 have G:=qlp.1 b.out;have H:m=n:=by rw[<-v.out];exact G.1
 subst H;have U:=zaa (qft _ x A m c f w1 (p.out _ a) V.out C.out (R.next qd a) G);clear G;go_wp2_with fail;refine U.out.mono ?_;rintro e w2 ⟨Y,ii,rfl,Q,F⟩;have M:=zaa Q;clear Q;have N:=q9 t (q9 a F rfl) rfl
 by_cases h0:Y<0
 .go_wp2_with fail
  go_ret;exact⟨qg (by rw[D.out,<-q6o (M.out.1 h0)];rfl),N⟩
 .go_wp2_with fail
  go_ret;exact⟨qg (by rw[D.out,<-q2r (fun W=>by have:=M.out.2 W;omega)];simp;try omega),N⟩
theorem qck {p:List Int} {i:Nat} {v:Int} (h:p[i]?=some v):p.getD i 0=v:=by rw[zak,h];rfl
theorem qi2 {p:List Int} {k:Nat} {x z:Int} {y:Nat} (h:∀i,i<k->ParI p i) (b:p[k]?=some x) (c:0<=x) (l:x<=(k:Int)) (f:x=(y:Int)) (a:p[y]?=some z):ParI p k↔z=x:=by
 have d:nmAt p k=y:=by rw[q1d b,f];simp
 have g:0<=z:=by
  by_cases e:y=k
  .subst e;rw[b]at a;injection a with a;omega
  .have:=(h y (by omega)).1
   rwa [qck a]at this
 unfold ParI;rw[qck b,d,q1d a];constructor
 .rintro⟨-,-,j⟩;omega
 .rintro rfl;exact⟨c,by omega,by omega⟩
theorem qab (A:Option Addr) (n m c:Nat) (p:List Int) (w:World) (h:RdL RI w A m p) (M:n<=1000):
  Calls Tryz.prog 176 #[.int .i64 n,.slice A m c] w fun e w'=>e=.returned (.bool (tt (ParP n p)))/\w=w':=by
 have H:=h.le;have r:=zaa h.len
 by_cases hnm:m=n
 rotate_left
 .have q:((m:Int) !=(n:Int))=true:=by rw[bne_iff_ne];omega
  go_enter Tryz.func176,Tryz.ntmps176
  go_wp2
  go_ret;exact⟨qg (q2r fun a=>hnm (by rw[<-r.out];exact a.1)),rfl⟩
 subst hnm;have q:((m:Int) !=(m:Int))=false:=by simp
 go_enter Tryz.func176,Tryz.ntmps176
 go_wp2
 go_loop [13] (fun i=>∃k:Nat,k<=m/\i=.int .i64 k/\Hid (∀i,i<k->ParI p i)) (fun i=>m - (intOf i).toNat)
 case atStart=>exact⟨0,zah _,rfl,fun i j=>absurd j (by omega)⟩
 case round=>
  obtain⟨k,L,rfl,d⟩:=hrel
  by_cases hlt:k<m
  .have G:(0:Int)<=(k:Int):=by omega
   have l:(k:Int)<(m:Int):=by omega
   obtain⟨b,o,u,x,rfl,K,⟨rfl,-,-⟩,-,v⟩:=h.at hlt;have g:=zaa v;clear v
   by_cases hx0:x<0
   .go_wp2
    go_ret;exact⟨qg (q2r fun a=>by have:=(a.2 k hlt).1;rw[qck g.out]at this;omega),rfl⟩
   .by_cases hxk:(k:Int)<x
    .go_wp2
     go_ret;exact⟨qg (q2r fun a=>by have:=(a.2 k hlt).2.1;rw[q1d g.out]at this;omega),rfl⟩
    .obtain⟨y,rfl⟩:=zan (show 0<=x by omega)
     obtain⟨u2,z,F,⟨rfl,-,-⟩,-,B⟩:=h.at' (k:=y) (by omega);have s:=zaa (qi2 d.out g.out (by omega) (by omega) rfl B);have I:(0:Int)<=(y:Int):=by omega
     have J:(y:Int)<(m:Int):=by omega
     clear B
     rcases hb:(z !=(y:Int))with _|_
     .have f:Hid (∀i,i<k+1->ParI p i):=fun i j=>by
       by_cases e:i=k
       .subst e;exact s.out.2 (by simpa using hb)
       .exact d.out i (by omega)
      go_wp2
      go_round
      case rel=>exact⟨k+1,by omega,by go_num,f⟩
      case measure=>simp[intOf];try omega
     .have C:=zaa hb
      go_wp2
      go_ret
      exact⟨qg (q2r fun a=>by
       have E:=s.out.1 (a.2 k hlt);have t:=C.out;rw[E]at t
       simp at t),rfl⟩
  .have l:¬(k:Int)<(m:Int):=by omega
   have D:Hid (ParP m p):=⟨r.out,fun i j=>d.out i (by omega)⟩
   go_wp2
   go_ret;exact⟨qg (q6o D.out),rfl⟩
theorem q6a (A:Option Addr) (n m c:Nat) (p:List Int) (w:World) (h:RdL RI w A m p) (Q:n<=1000):
  Calls Tryz.prog 103 #[.int .i64 n,.slice A m c] w (Qt w (.bool (tt (ParP n p)))):=by
 have L:=h.le;have D:=zaa h.len
 by_cases hnm:m=n
 rotate_left
 .have C:((m:Int) !=(n:Int))=true:=by rw[bne_iff_ne];omega
  go_enter Tryz.func103,Tryz.ntmps103
  go_wp2
  go_ret;exact⟨qg (q2r fun d=>hnm (by rw[<-D.out];exact d.1)),(by first|exact Drawn.zero _|exact Drawn.at_ _ _|exact(Drawn.at_ _ _).more _|exact((Drawn.at_ _ _).more _).more _)⟩
 subst hnm;have C:((m:Int) !=(m:Int))=false:=by simp
 go_enter Tryz.func103,Tryz.ntmps103
 go_wp2
 go_loopw [5] (fun i wr=>∃k:Nat,k<=m/\i=.int .i64 k/\Hid (∀i,i<k->ParI p i)/\Drawn w wr) (fun i _=>m - (intOf i).toNat)
 case atStart=>exact⟨0,zah _,rfl,(fun i v=>absurd v (by omega)),Drawn.zero _⟩
 case round=>
  obtain⟨k,P,rfl,l,R,rfl⟩:=hrel
  by_cases hlt:k<m
  .have K:(0:Int)<=(k:Int):=by omega
   have B:(k:Int)<(m:Int):=by omega
   obtain⟨b,o,u,x,rfl,O,⟨rfl,-,-⟩,-,F⟩:=h.at hlt;have s:=zaa F;clear F
   rcases hin:inB x 0 (k:Int)with _|_
   .have a:=zaa hin
    have g:¬(0<=x/\x<=(k:Int)):=fun d=>by unfold inB at hin;simp[d.1,d.2]at hin
    have q:=zaa g;clear hin g
    go_wp2
    go_quiet ((go_at_call 68;first|exact q1o (q36 a.out)|exact q1f (q36 a.out)))
    go_wp2
    go_ret
    exact⟨qg (q2r fun d=>q.out (by
     have t:=(d.2 k hlt).1;have j:=(d.2 k hlt).2.1;rw[qck s.out]at t;rw[q1d s.out]at j
     omega)),(by first|exact Drawn.zero _|exact Drawn.at_ _ _|exact(Drawn.at_ _ _).more _|exact((Drawn.at_ _ _).more _).more _)⟩
   .have a:=zaa hin
    have f:0<=x/\x<=(k:Int):=by unfold inB at hin;simpa using hin
    clear hin;obtain⟨y,rfl⟩:=zan f.1;obtain⟨u2,z,J,⟨rfl,-,-⟩,-,G⟩:=h.at' (k:=y) (by omega);have E:=zaa (qi2 l.out s.out (by omega) (by omega) rfl G);have M:(0:Int)<=(y:Int):=by omega
    have N:(y:Int)<(m:Int):=by omega
    clear G f
    rcases hb:(z !=(y:Int))with _|_
    .have r:Hid (∀i,i<k+1->ParI p i):=fun i v=>by
      by_cases e:i=k
      .subst e;exact E.out.2 (by simpa using hb)
      .exact l.out i (by omega)
     go_wp2
     go_quiet ((go_at_call 68;first|exact q1o (q36 a.out)|exact q1f (q36 a.out)))
     go_wp2
     go_roundw
     case rel=>exact⟨k+1,by omega,by go_num,r,(by first|exact Drawn.zero _|exact Drawn.at_ _ _|exact(Drawn.at_ _ _).more _|exact((Drawn.at_ _ _).more _).more _)⟩
     case measure=>simp[intOf];try omega
    .have H:=zaa hb
     go_wp2
     go_quiet ((go_at_call 68;first|exact q1o (q36 a.out)|exact q1f (q36 a.out)))
     go_wp2
     go_ret
     exact⟨qg (q2r fun d=>by
      have t:=E.out.1 (d.2 k hlt);have j:=H.out;rw[t]at j
      simp at j),(by first|exact Drawn.zero _|exact Drawn.at_ _ _|exact(Drawn.at_ _ _).more _|exact((Drawn.at_ _ _).more _).more _)⟩
  .have B:¬(k:Int)<(m:Int):=by omega
   have I:Hid (ParP m p):=⟨D.out,fun i v=>l.out i (by omega)⟩
   go_wp2
   go_ret;exact⟨qg (q6o I.out),(by first|exact Drawn.zero _|exact Drawn.at_ _ _|exact(Drawn.at_ _ _).more _|exact((Drawn.at_ _ _).more _).more _)⟩
def mixU (p:List Int) (x y k:Nat):List Int:=(p.take k).map (uniV (nmAt p x) (nmAt p y))++p.drop k
theorem qo8 {p:List Int} {x y k:Nat} (h:p.length<=k):mixU p x y k=uniL p x y:=by unfold mixU uniL;rw[zar h,zbk h,zc3]
theorem qo9 (p:List Int) (x y k:Nat):(mixU p x y k).length=p.length:=by unfold mixU;simp;omega
theorem qhs {p:List Int} {x y k:Nat} {v:Int} (h:p[k]?=some v):(mixU p x y k)[k]?=some v:=by
 have a:=(zag.1 h).1;unfold mixU;rw[zbc (by simp;omega)];simp[show min k p.length=k by omega,h]
theorem qeo {p:List Int} {x y k:Nat} {v:Int} (h:p[k]?=some v):(mixU p x y k).set k (uniV (nmAt p x) (nmAt p y) v)=mixU p x y (k+1):=by
 have a:=(zag.1 h).1;unfold mixU;have e:p.drop k=v::p.drop (k+1):=by rw[zbq a,(zag.1 h).2]
 rw[zdz _ _ (by simp;omega),e,zbp,h];simp[show min k p.length=k by omega]
theorem qln {p:List Int} {x y k:Nat} {v:Int} (h:p[k]?=some v) (b:uniV (nmAt p x) (nmAt p y) v=v):mixU p x y (k+1)=mixU p x y k:=by
 rw[<-qeo h,b];apply zcl;intro i;rw[zcd]
 by_cases e:k=i
 .subst e
  have a:=(zag.1 h).1;rw[zam rfl,zam (by rw[qo9];exact a),qhs h]
 .rw[zaj e]
theorem qj9 (a b r:Int) (w:World) (c:(a<=b/\r=b)\/(b<=a/\r=a)):Calls Tryz.prog 198 #[.int .i64 a,.int .i64 b] w fun e w'=>e=.returned (.int .i64 r)/\w=w':=by
 by_cases h:b<a
 .obtain rfl:r=a:=by omega
  clear c
  go_enter Tryz.func198,Tryz.ntmps198
  go_wp2
  go_ret;exact⟨rfl,rfl⟩
 .obtain rfl:r=b:=by omega
  clear c
  go_enter Tryz.func198,Tryz.ntmps198
  go_wp2
  go_ret;exact⟨rfl,rfl⟩
theorem q8b {w:World} {base g n c:Nat} {p:List Int} (h:w.ownsRow base 3 1 (.slice (some ⟨g,0,none⟩) n c) n (ints p)) {x:Nat} {v:Int} (a:p[x]?=some v) (b:x<n):w.cell? ⟨g,x,none⟩=some (.int .i64 v):=by
 rw[h.cellAt x (by omega)];unfold ints;rw[za2,a];rfl
theorem qfh (g n c base:Nat) (p:List Int) (x y:Nat) (w:World) (d:w.ownsRow base 3 1 (.slice (some ⟨g,0,none⟩) n c) n (ints p)) (E:ParP n p) (S:x<n) (T:y<n) (hn:n<=1000):
  Calls Tryz.prog 193 #[.slice (some ⟨g,0,none⟩) n c,.int .i64 x,.int .i64 y] w fun e w'=>e=.returned (.bool (!(decide (nmAt p x=nmAt p y))))/\w'.ownsRow base 3 1 (.slice (some ⟨g,0,none⟩) n c) n (ints (uniL p x y))/\w.grownBy w' (some g):=by
 obtain⟨a,z⟩:∃a,Hid (nmAt p x=a):=⟨_,rfl⟩;obtain⟨b,A⟩:∃b,Hid (nmAt p y=b):=⟨_,rfl⟩;have s:=E.at S;have t:=E.at T;rw[z.out]at s;rw[A.out]at t;have M:=q8b d s.1 S;have N:=q8b d t.1 T;have R:=zaa E;have ac:(0:Int)<=(x:Int):=by omega
 have ad:(x:Int)<(n:Int):=by omega
 have ae:(0:Int)<=(y:Int):=by omega
 have af:(y:Int)<(n:Int):=by omega
 have X:a<=1000:=by omega
 have Y:b<=1000:=by omega
 clear s t E
 by_cases hab:a=b
 .have hd:((a:Int)==(b:Int))=true:=by rw[zdx];omega
  have V:Hid (uniL p x y=p):=qdl (by rw[z.out,A.out];exact hab);have F:Hid (decide (nmAt p x=nmAt p y)=true):=by show _=_;rw[z.out,A.out];exact zbh hab
  go_enter Tryz.func193,Tryz.ntmps193
  go_wp2_with fail
  go_quiet (fail)
  go_wp2_with fail;go_ret;exact⟨qg (by rw[F.out];rfl),by rw[V.out];exact d,by first|exact q4j _ _|exact q9k (q4j _ _) _⟩
 have hd:((a:Int)==(b:Int))=false:=by rw[zbj];omega
 have F:Hid (decide (nmAt p x=nmAt p y)=false):=by show _=_;rw[z.out,A.out];exact zbi hab
 obtain⟨o,r⟩:∃l,Hid (min a b=l):=⟨_,rfl⟩;obtain⟨m,q⟩:∃l,Hid (max a b=l):=⟨_,rfl⟩;have Q:Hid (∀v:Int,uniV (nmAt p x) (nmAt p y) v=if v=(m:Int)then(o:Int)else v):=fun v=>by
  rw[z.out,A.out,<-r.out,<-q.out];unfold uniV
  by_cases h:a<=b
  .rw[zam (show(a:Int)<=(b:Int)by omega),zam (show(a:Int)<=(b:Int)by omega),zef h,Nat.max_eq_right h]
  .rw[zaj (show ¬(a:Int)<=(b:Int)by omega),zaj (show ¬(a:Int)<=(b:Int)by omega),Nat.min_eq_right (by omega),Nat.max_eq_left (by omega)]
 go_enter Tryz.func193,Tryz.ntmps193
 go_wp2_with fail
 go_quiet (fail)
 go_upto_if 21 with fail
 go_cut [1,2,21]from 22 to 23 (fun u1 u2 _ wx=>u1=.int .i64 (o:Int)/\u2=.int .i64 (m:Int)/\w.grownBy wx (some g)/\wx.ownsRow base 3 1 (.slice (some ⟨g,0,none⟩) n c) n (ints p))
 case first=>
  by_cases hlt:b<a
  .have J:o=b:=by have:=r.out;omega
   have K:m=a:=by have:=q.out;omega
   subst J;subst K;have D:(o:Int)<(m:Int):=by omega
   go_wp2_with fail;go_meet;exact⟨rfl,rfl,by first|exact q4j _ _|exact q9k (q4j _ _) _,d⟩
  .have J:o=a:=by have:=r.out;omega
   have K:m=b:=by have:=q.out;omega
   subst J;subst K;have D:¬(m:Int)<(o:Int):=by omega
   go_wp2_with fail;go_meet;exact⟨rfl,rfl,by first|exact q4j _ _|exact q9k (q4j _ _) _,d⟩
 case rest=>
  obtain⟨rfl,rfl,C,f⟩:=hcut;obtain⟨w1,I⟩:∃wq:World,wq=wc:=⟨_,rfl⟩;subst I;clear M N d;go_wp2_with fail
  go_loopw [26] (fun i wr=>∃k:Nat,k<=n/\i=.int .i64 k/\wr.ownsRow base 3 1 (.slice (some ⟨g,0,none⟩) n c) n (ints (mixU p x y k))/\w.grownBy wr (some g)) (fun i _=>n - (intOf i).toNat)
  case atStart=>exact⟨0,zah _,rfl,f,C⟩
  case round=>
   clear f C;obtain⟨k,hk,rfl,d,L⟩:=hrel
   by_cases hlt:k<n
   .have ab:(0:Int)<=(k:Int):=by omega
    have P:(k:Int)<(n:Int):=by omega
    have j:=(R.out.at hlt).1;obtain⟨v,W⟩:∃v,Hid (nmAt p k=v):=⟨_,rfl⟩;rw[W.out]at j;have B:=zaa j;have Z:=q8b d (qhs j) hlt;have aa:=d.frozenAt k;have u:=(d.stored k (.int .i64 (o:Int))).1;rw[q2n]at u;have H:=zaa u;clear j u
    by_cases hvh:v=m
    .subst hvh
     have G:Hid ((mixU p x y k).set k (o:Int)=mixU p x y (k+1)):=by
      show _=_
      rw[<-qeo B.out,Q.out,zam rfl]
     have O:((v:Int)==(v:Int))=true:=by simp
     go_wp2_with fail
     go_roundw
     case rel=>exact⟨k+1,by omega,by go_num,by rw[<-G.out];exact H.out,qpc L rfl _⟩
     case measure=>simp[intOf];try omega
    .have O:((v:Int)==(m:Int))=false:=by rw[zbj];omega
     have G:Hid (mixU p x y (k+1)=mixU p x y k):=qln B.out (by rw[Q.out,zaj (by omega)]);go_wp2_with fail
     go_roundw
     case rel=>exact⟨k+1,by omega,by go_num,by rw[G.out];exact d,L⟩
     case measure=>simp[intOf];try omega
   .have P:¬(k:Int)<(n:Int):=by omega
    have U:Hid (mixU p x y k=uniL p x y):=qo8 (by rw[R.out.1];omega);go_wp2_with fail;go_ret;exact⟨qg (by rw[F.out];rfl),by rw[<-U.out];exact d,L⟩
theorem qai (A:Option Addr) (n c:Nat) (p:List Int) (x y:Nat) (w:World) (h:RdL RI w A n p) (M:ParP n p) (hx:x<n) (hy:y<n) (hn:n<=1000):
  Calls Tryz.prog 171 #[.slice A n c,.int .i64 x,.int .i64 y] w fun e w'=>∃A' c',e=.returned (.slice A' n c')/\w'.ownsRow w.heap.size 3 1 (.slice A' n c') n (ints (uniL p x y))/\Below w.heap.size w w':=by
 obtain⟨a,Z⟩:∃a,Hid (nmAt p x=a):=⟨_,rfl⟩;obtain⟨b,HB⟩:∃b,Hid (nmAt p y=b):=⟨_,rfl⟩;have B:=M.at hx;have C:=M.at hy;rw[Z.out]at B;rw[HB.out]at C;obtain⟨bb,oo,u1,v1,rfl,U,⟨rfl,-,-⟩,-,m⟩:=h.at hx;obtain⟨u2,v2,V,⟨rfl,-,-⟩,-,q⟩:=h.at' hy;rw[B.1]at m;rw[C.1]at q;injection m with m
 injection q with q
 subst m;subst q;have P:=zaa M;have hxa:(0:Int)<=(x:Int):=by omega
 have hxb:(x:Int)<(n:Int):=by omega
 have hya:(0:Int)<=(y:Int):=by omega
 have hyb:(y:Int)<(n:Int):=by omega
 have han:a<=1000:=by omega
 have hbn:b<=1000:=by omega
 clear B C M;obtain⟨L,t⟩:∃l,Hid (min a b=l):=⟨_,rfl⟩;obtain⟨J,F⟩:∃l,Hid (max a b=l):=⟨_,rfl⟩;have HF:Hid (∀v:Int,uniV (nmAt p x) (nmAt p y) v=if v=(J:Int)then(L:Int)else v):=fun v=>by
  rw[Z.out,HB.out,<-t.out,<-F.out];unfold uniV
  by_cases h:a<=b
  .rw[zam (show(a:Int)<=(b:Int)by omega),zam (show(a:Int)<=(b:Int)by omega),zef h,Nat.max_eq_right h]
  .rw[zaj (show ¬(a:Int)<=(b:Int)by omega),zaj (show ¬(a:Int)<=(b:Int)by omega),Nat.min_eq_right (by omega),Nat.max_eq_left (by omega)]
 have G:Hid (∀r,Calls Tryz.prog 197 #[.int .i64 (a:Int),.int .i64 (b:Int)] r (Qt r (.int .i64 (L:Int)))):=fun r=>q2b (qg4 _ _ _ r (by have:=t.out;omega))
 have H:Hid (∀r,Calls Tryz.prog 198 #[.int .i64 (a:Int),.int .i64 (b:Int)] r (Qt r (.int .i64 (J:Int)))):=fun r=>q2b (qj9 _ _ _ r (by have:=F.out;omega))
 have hlon:L<=1000:=by have:=t.out;omega
 go_enter Tryz.func171,Tryz.ntmps171
 go_upto_region 1 with fail
 go_quiet ((first
  |(go_at_call 197;first|exact q1o (G.out _)|exact q1f (G.out _))
  |(go_at_call 198;first|exact q1o (H.out _)|exact q1f (H.out _))))
 go_upto_region 2 with fail
 go_cut [9]from 29 to 29 (fun u9 wx=>∃R,u9=.slice (some ⟨R,0,none⟩) 0 0/\wx.ownsRow w.heap.size 3 1 (.slice (some ⟨R,0,none⟩) 0 0) 0 []/\Below w.heap.size w wx)
 case first=>
  go_wp2_with fail;go_meet;exact⟨_,rfl,zb7 _ #[] 0 (by first|exact zad _|simp) (zah _) rfl,by first|exact qm _ _|exact(qc (zac _ _) _).alloc (zad _) _⟩
 case rest=>
  obtain⟨R,rfl,hO,T9⟩:=hcut;obtain⟨w1,Q⟩:∃wq:World,wq=wc:=⟨_,rfl⟩;subst Q;clear U V;go_wp2_with fail
  go_loopw [9,10] (fun s i wr=>∃(k:Nat) (D:Option Addr) (E:Nat),k<=n/\i=.int .i64 k/\s=.slice D k E/\wr.ownsRow w.heap.size 3 1 (.slice D k E) k (ints ((p.take k).map (uniV (nmAt p x) (nmAt p y))))/\Below w.heap.size w wr) (fun _ i _=>n - (intOf i).toNat)
  case atStart=>exact⟨0,_,_,zah _,rfl,rfl,hO,T9⟩
  case round=>
   clear hO T9;obtain⟨k,D,E,hk,rfl,rfl,g,f⟩:=hrel
   by_cases hlt:k<n
   .have hk0:(0:Int)<=(k:Int):=by omega
    have Y:(k:Int)<(n:Int):=by omega
    have j:=(P.out.at hlt).1;obtain⟨u,v,T,⟨rfl,-,-⟩,-,o⟩:=(h.next qd f).at' hlt;rw[j]at o;injection o with o
    subst o;obtain⟨v,HV⟩:∃v,Hid (nmAt p k=v):=⟨_,rfl⟩;rw[HV.out]at j T;have I:=zaa j;have hz:=f.size;have hvn:v<=1000:=by have:=(P.out.at hlt).2.1;have:=HV.out;omega
    clear j
    by_cases hvh:v=J
    .subst hvh
     have O:Hid ((p.take (k+1)).map (uniV (nmAt p x) (nmAt p y))=(p.take k).map (uniV (nmAt p x) (nmAt p y))++ [(L:Int)]):=by
      show _=_
      rw[zbp,I.out,zel];simp[HF.out]
     have W:((v:Int)==(v:Int))=true:=by simp
     go_wp2_with (at_builtin;refine app1 wr rfl _ _ 43 3 rfl (.int .i64 0) 8 za1 q14 rfl (by decide) w.heap.size k E D _ rfl g (.int .i64 (L:Int)) rfl rfl (by omega) hz ?_;intro N S w2 d X z)
     go_roundw
     case rel=>exact⟨k+1,N,S,by omega,by go_num,rfl,by rw[O.out,q3c];exact d,f.trans z⟩
     case measure=>simp[intOf];try omega
    .have W:((v:Int)==(J:Int))=false:=by rw[zbj];omega
     have K:¬(v:Int)=(J:Int):=by omega
     have O:Hid ((p.take (k+1)).map (uniV (nmAt p x) (nmAt p y))=(p.take k).map (uniV (nmAt p x) (nmAt p y))++ [(v:Int)]):=by
      show _=_
      rw[zbp,I.out,zel];simp[HF.out,K]
     clear K
     go_wp2_with (at_builtin;refine app1 wr rfl _ _ 43 3 rfl (.int .i64 0) 8 za1 q14 rfl (by decide) w.heap.size k E D _ rfl g (.int .i64 (v:Int)) rfl rfl (by omega) hz ?_;intro N S w2 d X z)
     go_roundw
     case rel=>exact⟨k+1,N,S,by omega,by go_num,rfl,by rw[O.out,q3c];exact d,f.trans z⟩
     case measure=>simp[intOf];try omega
   .obtain rfl:k=n:=by omega
    have Y:¬(k:Int)<(k:Int):=by omega
    have HM:Hid ((p.take k).map (uniV (nmAt p x) (nmAt p y))=uniL p x y):=by show _=_;unfold uniL;rw[zar (by rw[P.out.1];exact zad _)]
    go_wp2_with fail;go_ret;exact⟨D,E,rfl,by rw[<-HM.out];exact g,f⟩
end Go.Proofs.YtfnmkbpogbekpaaGreatDoor
