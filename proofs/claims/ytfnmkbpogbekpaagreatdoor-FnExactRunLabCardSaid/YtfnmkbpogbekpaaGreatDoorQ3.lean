import Derived.Test.YtfnmkbpogbekpaaGreatDoorQ2
set_option linter.unusedVariables false
set_option linter.unusedSimpArgs false
set_option maxRecDepth 100000
set_option maxHeartbeats 32000000
namespace Go.Proofs.YtfnmkbpogbekpaaGreatDoor
open Go.RowKit
abbrev qq:Type:=(Int×ByteArray×qy×List Int×Int×Int)
def qh:Sh qq:=(Sh.pair Sh.int (Sh.pair Sh.str (Sh.pair qj (Sh.pair (Sh.il 3) (Sh.pair Sh.int Sh.int)))))
theorem q1a {w:World} {cs:List Value} {x:qq} (h:qh.rd w cs x):∃(AFactEqLeft:Option Addr) (nFactEqLeft cFactEqLeft:Nat) (AFactEqRight:Option Addr) (nFactEqRight cFactEqRight:Nat) (AFactList:Option Addr) (nFactList cFactList:Nat) (AList:Option Addr) (nList cList:Nat),cs= [.int .i64 x.1,.string x.2.1,.int .i64 x.2.2.1.1,.slice AFactEqLeft nFactEqLeft cFactEqLeft,.slice AFactEqRight nFactEqRight cFactEqRight,.slice AFactList nFactList cFactList,.slice AList nList cList,.int .i64 x.2.2.2.2.1,.int .i64 x.2.2.2.2.2]/\InR x.1/\x.2.1.size<=maxLen/\InR x.2.2.1.1/\RdL RI w AFactEqLeft nFactEqLeft x.2.2.1.2.1.1/\RdL RI w AFactEqRight nFactEqRight x.2.2.1.2.1.2/\RdL RI w AFactList nFactList x.2.2.1.2.2/\RdL RI w AList nList x.2.2.2.1/\InR x.2.2.2.2.1/\InR x.2.2.2.2.2:=by
 obtain⟨_,_,rfl,⟨_,rfl,rfl,i,f⟩,⟨_,_,rfl,⟨_,rfl,rfl,g⟩,⟨_,_,rfl,⟨_,_,rfl,⟨_,rfl,rfl,d,c⟩,⟨_,_,rfl,⟨_,_,rfl,⟨_,rfl,AFactEqLeft,nFactEqLeft,cFactEqLeft,rfl,b⟩,⟨_,rfl,AFactEqRight,nFactEqRight,cFactEqRight,rfl,a⟩⟩,⟨_,rfl,AFactList,nFactList,cFactList,rfl,e⟩⟩⟩,⟨_,_,rfl,⟨_,rfl,AList,nList,cList,rfl,j⟩,⟨_,_,rfl,⟨_,rfl,rfl,m,k⟩,⟨_,rfl,rfl,n,l⟩⟩⟩⟩⟩⟩:=h;exact⟨AFactEqLeft,nFactEqLeft,cFactEqLeft,AFactEqRight,nFactEqRight,cFactEqRight,AFactList,nFactList,cFactList,AList,nList,cList,rfl,⟨i,f⟩,g,⟨d,c⟩,b,a,e,j,⟨m,k⟩,⟨n,l⟩⟩
theorem qdg (cs:List Value) (x:qq) (left:Int) (w:World) (h:qh.rd w cs x) (W:0<=left) (h1:left<=1048576):
  Calls Tryz.prog 12 #[.agg cs.toArray,.int .i64 left] w (Bl w (.int .i64 (szR (qh.cnt x) left))):=by
 obtain⟨k,m,l,g,j,i,n,p,o,C,O,G,rfl,aa,P,q,b,a,d,f,qA,qB⟩:=q1a h;obtain⟨w0,A,F,hsz0,u⟩:=q15 w #[.int .i64 x.1,.string x.2.1,.int .i64 x.2.2.1.1,.slice k m l,.slice g j i,.slice n p o,.slice C O G,.int .i64 x.2.2.2.2.1,.int .i64 x.2.2.2.2.2] 49;have B:=b.le;have v:=a.le;have N:=d.le;have Z:=f.le;unfold maxLen at P;have R:Hid (szR 0 left=left):=q61 W;have z:Hid (qh.cnt x=(0+(x.2.1.size+((qj.cnt x.2.2.1)+(x.2.2.2.1.length+(0+0)))))):=rfl;replace b:=b.next qd F;replace a:=a.next qd F;replace d:=d.next qd F;replace f:=f.next qd F
 go_enter Tryz.func12,Tryz.ntmps12
 have H:=u.cell 1;simp at H;rw[A]at H
 by_cases z0:left - (x.2.1.size:Int)<0
 .have HZ:=zaa (qs3 (s:=x.2.1.size) R.out (by omega) z0 (c:=qh.cnt x) (by rw[z.out];omega) W)
  go_wp2_with fail;go_ret;exact⟨q11 HZ.out,by first|exact F|(rw[<-A];exact F)⟩
 have D:Hid (szR (0+x.2.1.size) left=left - (x.2.1.size:Int)):=qs2 R.out (by omega) z0;have H:=u.cell 2;clear H;have I:=u.cell 2;have J:=u.cell 3;have K:=u.cell 4;have M:=u.cell 5;simp at I J K M;rw[A]at I J K M;go_wp2_with fail;obtain⟨Q,S⟩:∃L,Hid ((left - (x.2.1.size:Int))=L):=⟨_,rfl⟩;have hL0:0<=Q/\Q<=1048576:=by have:=S.out;omega
 rw[S.out]at D⊢;clear z0;rw[<-A];refine(qc3 [.int .i64 x.2.2.1.1,.slice k m l,.slice g j i,.slice n p o] x.2.2.1 Q _ (q6d q b a d) (by omega) (by omega)).mono ?_;rintro e w1 ⟨rfl,r⟩;have T1:=q9 F r rfl;replace u:=u.next r;replace b:=b.next qd r;replace a:=a.next qd r;replace d:=d.next qd r;replace f:=f.next qd r;clear I J K M;have y:Hid (szR ((0+x.2.1.size)+(qj.cnt x.2.2.1)) left=szR (qj.cnt x.2.2.1) Q):=by show _=_;rw[<-q3v (by rw[D.out];omega),D.out]
 have U:=q4o (qj.cnt x.2.2.1) (left:=Q) (by omega);obtain⟨T,X⟩:∃L,Hid (szR (qj.cnt x.2.2.1) Q=L):=⟨_,rfl⟩;rw[X.out]at y U⊢
 by_cases z1:T<0
 .go_wp2_with fail
  go_ret;exact⟨q11 (q6n (by rw[y.out];omega) (by rw[z.out];omega) W),T1⟩
 have H:=u.cell 6;simp at H;go_wp2_with fail;refine(q4y (q5e _ _ _ _ T _ f (by omega) (by omega))).mono ?_;rintro e w2 ⟨rfl,t⟩;rw[q5f];have T2:=q9 T1 t rfl;replace u:=u.next t;replace b:=b.next qd t;replace a:=a.next qd t;replace d:=d.next qd t;replace f:=f.next qd t;clear H;have E:Hid (szR (((0+x.2.1.size)+(qj.cnt x.2.2.1))+x.2.2.2.1.length) left=szR x.2.2.2.1.length T):=by show _=_;rw[<-q3v (by rw[y.out];omega),y.out]
 have V:=q4o x.2.2.2.1.length (left:=T) (by omega);obtain⟨L2,Y⟩:∃L,Hid (szR x.2.2.2.1.length T=L):=⟨_,rfl⟩;rw[Y.out]at E V⊢
 by_cases z2:L2<0
 .go_wp2_with fail
  go_ret;exact⟨q11 (q6n (by rw[E.out];omega) (by rw[z.out];omega) W),T2⟩
 go_wp2_with fail;go_ret;exact⟨q11 (by simp only[z.out,<-E.out];first|done|(congr 1;omega)),T2⟩
theorem qdk (cs:List Value) (x:qq) (w:World) (h:qh.rd w cs x) (hn:qh.cnt x<=1048576):
  Calls Tryz.prog 15 #[.agg cs.toArray] w (ToE qh w x):=by
 obtain⟨y,A,z,s,u,t,C,F,E,O,n,Q,rfl,ap,qText,T,I,H,L,U,qA,qB⟩:=q1a h;have hcn:(0+(x.2.1.size+((qj.cnt x.2.2.1)+(x.2.2.2.1.length+(0+0)))))<=1048576:=hn;obtain⟨w0,hw0,T0,hsz0,K,J,B⟩:=q7t w #[.int .i64 x.1,.string x.2.1,.int .i64 x.2.2.1.1,.slice y A z,.slice s u t,.slice C F E,.slice O n Q,.int .i64 x.2.2.2.2.1,.int .i64 x.2.2.2.2.2] #[.int .i64 0,.string ⟨#[]⟩,.int .i64 0,.slice none 0 0,.slice none 0 0,.slice none 0 0,.slice none 0 0,.int .i64 0,.int .i64 0] #[.int .i64 x.1,.string x.2.1,.int .i64 0,.slice none 0 0,.slice none 0 0,.slice none 0 0,.slice none 0 0,.int .i64 0,.int .i64 0] 49 59;have eFactEqLeft:=I.len;have eFactEqRight:=H.len;have eFactList:=L.len;have eList:=U.len
 go_enter Tryz.func15,Tryz.ntmps15
 go_wp2_with fail;rw[<-hw0];refine(qc5 [.int .i64 x.2.2.1.1,.slice y A z,.slice s u t,.slice C F E] x.2.2.1 _ (q6d T (I.next qd T0) (H.next qd T0) (L.next qd T0)) (by omega)).mono ?_;rintro e w1 ⟨csFact,D,rfl,G,q,V⟩;obtain⟨g,j,i,c,f,d,k,m,l,rfl,-,-,-,-⟩:=q21 (qj.ord G);have hz1:=V.size;have T1:=q9 T0 V rfl;replace K:=K.next V;replace J:=J.next V;replace B:=B.next V;clear V;have ag:=K.cell 0;have ah:=K.cell 1;have ai:=K.cell 2;have aj:=K.cell 3;have ak:=K.cell 4;have al:=K.cell 5;have am:=K.cell 6;have an:=K.cell 7;have ao:=K.cell 8;have X:=B.cell 0;have fO0:=B.frozen 0;have Y:=B.cell 1;have fO1:=B.frozen 1;have Z:=B.cell 2;have fO2:=B.frozen 2;have aa:=B.cell 3;have fO3:=B.frozen 3;have ab:=B.cell 4;have fO4:=B.frozen 4;have ac:=B.cell 5;have fO5:=B.frozen 5;have ad:=B.cell 6;have fO6:=B.frozen 6;have ae:=B.cell 7;have fO7:=B.frozen 7;have af:=B.cell 8;have fO8:=B.frozen 8;simp at ag X ah Y ai Z aj aa ak ab al ac am ad an ae ao af;go_wp2_with fail;clear ag X fO0 ah Y fO1 ai Z fO2 aj aa fO3 ak ab fO4 al ac fO5 am ad fO6 an ae fO7 ao af fO8;obtain⟨w2,S⟩:∃wb,wb=((((w1.setCell ⟨w.heap.size+1+1,2,none⟩ (.int .i64 x.2.2.1.1)).setCell ⟨w.heap.size+1+1,3,none⟩ (.slice g j i)).setCell ⟨w.heap.size+1+1,4,none⟩ (.slice c f d)).setCell ⟨w.heap.size+1+1,5,none⟩ (.slice k m l)):=⟨_,rfl⟩;have W:Blk w2 (w.heap.size+1+1) 59 #[.int .i64 x.1,.string x.2.1,.int .i64 x.2.2.1.1,.slice g j i,.slice c f d,.slice k m l,.slice none 0 0,.int .i64 0,.int .i64 0]:=by rw[S];simpa using((((B.set_ 2 (.int .i64 x.2.2.1.1)).set_ 3 (.slice g j i)).set_ 4 (.slice c f d)).set_ 5 (.slice k m l))
 replace K:Blk w2 w.heap.size 49 #[.int .i64 x.1,.string x.2.1,.int .i64 x.2.2.1.1,.slice y A z,.slice s u t,.slice C F E,.slice O n Q,.int .i64 x.2.2.2.2.1,.int .i64 x.2.2.2.2.2]:=by rw[S];exact((((K.far (p:=⟨w.heap.size+1+1,2,none⟩) (by simp;try omega) (.int .i64 x.2.2.1.1)).far (p:=⟨w.heap.size+1+1,3,none⟩) (by simp;try omega) (.slice g j i)).far (p:=⟨w.heap.size+1+1,4,none⟩) (by simp;try omega) (.slice c f d)).far (p:=⟨w.heap.size+1+1,5,none⟩) (by simp;try omega) (.slice k m l))
 replace J:Blk w2 (w.heap.size+1) 59 #[.int .i64 0,.string ⟨#[]⟩,.int .i64 0,.slice none 0 0,.slice none 0 0,.slice none 0 0,.slice none 0 0,.int .i64 0,.int .i64 0]:=by rw[S];exact((((J.far (p:=⟨w.heap.size+1+1,2,none⟩) (by simp;try omega) (.int .i64 x.2.2.1.1)).far (p:=⟨w.heap.size+1+1,3,none⟩) (by simp;try omega) (.slice g j i)).far (p:=⟨w.heap.size+1+1,4,none⟩) (by simp;try omega) (.slice c f d)).far (p:=⟨w.heap.size+1+1,5,none⟩) (by simp;try omega) (.slice k m l))
 replace B:=W;clear W;have T2:Below w.heap.size w w2:=by rw[S];exact((((T1.setCell (by simp;try omega) (.int .i64 x.2.2.1.1)).setCell (by simp;try omega) (.slice g j i)).setCell (by simp;try omega) (.slice c f d)).setCell (by simp;try omega) (.slice k m l))
 have hz2:w2.heap.size=w1.heap.size:=by rw[S];simp
 replace G:qj.own w2 [.int .i64 x.2.2.1.1,.slice g j i,.slice c f d,.slice k m l] x.2.2.1 D:=by rw[S];exact Sh.oset (p:=⟨w.heap.size+1+1,5,none⟩) (Sh.oset (p:=⟨w.heap.size+1+1,4,none⟩) (Sh.oset (p:=⟨w.heap.size+1+1,3,none⟩) (Sh.oset (p:=⟨w.heap.size+1+1,2,none⟩) (G) q (by show w.heap.size+1+1<_;omega) (.int .i64 x.2.2.1.1)) q (by show w.heap.size+1+1<_;omega) (.slice g j i)) q (by show w.heap.size+1+1<_;omega) (.slice c f d)) q (by show w.heap.size+1+1<_;omega) (.slice k m l)
 rw[<-S];refine(q5g _ _ _ _ _ (U.next qd T2) (by omega)).mono ?_;rintro e w3 ⟨o,rfl,hgList,M,R⟩;have P:(Sh.il 3).own w3 [.slice (some ⟨o,0,none⟩) n n] x.2.2.2.1 [o]:=⟨_,rfl,by rw[eList];exact ql M (zah _),U.bounds,rfl⟩;have r:Iv w2.heap.size w3.heap.size [o]:=⟨by simp,fun b hb=>by simp at hb;subst hb;exact M.lt _ rfl⟩;clear M;have hz3:=R.size;have T3:=q9 T2 R rfl;replace K:=K.next R;replace J:=J.next R;replace B:=B.next R;replace G:=Sh.onext G R;clear R;have cR0:=J.cell 0;have fR0:=J.frozen 0;have cR1:=J.cell 1;have fR1:=J.frozen 1;have cR2:=J.cell 2;have fR2:=J.frozen 2;have cR3:=J.cell 3;have fR3:=J.frozen 3;have cR4:=J.cell 4;have fR4:=J.frozen 4;have cR5:=J.cell 5;have fR5:=J.frozen 5;have cR6:=J.cell 6;have fR6:=J.frozen 6;have cR7:=J.cell 7;have fR7:=J.frozen 7;have cR8:=J.cell 8;have fR8:=J.frozen 8;simp at cR0 cR1 cR2 cR3 cR4 cR5 cR6 cR7 cR8;have ag:=K.cell 0;have ah:=K.cell 1;have ai:=K.cell 2;have aj:=K.cell 3;have ak:=K.cell 4;have al:=K.cell 5;have am:=K.cell 6;have an:=K.cell 7;have ao:=K.cell 8;have X:=B.cell 0;have fO0:=B.frozen 0;have Y:=B.cell 1;have fO1:=B.frozen 1;have Z:=B.cell 2;have fO2:=B.frozen 2;have aa:=B.cell 3;have fO3:=B.frozen 3;have ab:=B.cell 4;have fO4:=B.frozen 4;have ac:=B.cell 5;have fO5:=B.frozen 5;have ad:=B.cell 6;have fO6:=B.frozen 6;have ae:=B.cell 7;have fO7:=B.frozen 7;have af:=B.cell 8;have fO8:=B.frozen 8;simp at ag X ah Y ai Z aj aa ak ab al ac am ad an ae ao af;go_wp2_with fail;clear ag X fO0 ah Y fO1 ai Z fO2 aj aa fO3 ak ab fO4 al ac fO5 am ad fO6 an ae fO7 ao af fO8;clear cR0 fR0 cR1 fR1 cR2 fR2 cR3 fR3 cR4 fR4 cR5 fR5 cR6 fR6 cR7 fR7 cR8 fR8;obtain⟨w4,N⟩:∃wb,wb=(((w3.setCell ⟨w.heap.size+1+1,6,none⟩ (.slice (some ⟨o,0,none⟩) n n)).setCell ⟨w.heap.size+1+1,7,none⟩ (.int .i64 x.2.2.2.2.1)).setCell ⟨w.heap.size+1+1,8,none⟩ (.int .i64 x.2.2.2.2.2)):=⟨_,rfl⟩;have W:Blk w4 (w.heap.size+1+1) 59 #[.int .i64 x.1,.string x.2.1,.int .i64 x.2.2.1.1,.slice g j i,.slice c f d,.slice k m l,.slice (some ⟨o,0,none⟩) n n,.int .i64 x.2.2.2.2.1,.int .i64 x.2.2.2.2.2]:=by rw[N];simpa using(((B.set_ 6 (.slice (some ⟨o,0,none⟩) n n)).set_ 7 (.int .i64 x.2.2.2.2.1)).set_ 8 (.int .i64 x.2.2.2.2.2))
 replace K:Blk w4 w.heap.size 49 #[.int .i64 x.1,.string x.2.1,.int .i64 x.2.2.1.1,.slice y A z,.slice s u t,.slice C F E,.slice O n Q,.int .i64 x.2.2.2.2.1,.int .i64 x.2.2.2.2.2]:=by rw[N];exact(((K.far (p:=⟨w.heap.size+1+1,6,none⟩) (by simp;try omega) (.slice (some ⟨o,0,none⟩) n n)).far (p:=⟨w.heap.size+1+1,7,none⟩) (by simp;try omega) (.int .i64 x.2.2.2.2.1)).far (p:=⟨w.heap.size+1+1,8,none⟩) (by simp;try omega) (.int .i64 x.2.2.2.2.2))
 replace J:Blk w4 (w.heap.size+1) 59 #[.int .i64 0,.string ⟨#[]⟩,.int .i64 0,.slice none 0 0,.slice none 0 0,.slice none 0 0,.slice none 0 0,.int .i64 0,.int .i64 0]:=by rw[N];exact(((J.far (p:=⟨w.heap.size+1+1,6,none⟩) (by simp;try omega) (.slice (some ⟨o,0,none⟩) n n)).far (p:=⟨w.heap.size+1+1,7,none⟩) (by simp;try omega) (.int .i64 x.2.2.2.2.1)).far (p:=⟨w.heap.size+1+1,8,none⟩) (by simp;try omega) (.int .i64 x.2.2.2.2.2))
 replace B:=W;clear W;have T4:Below w.heap.size w w4:=by rw[N];exact(((T3.setCell (by simp;try omega) (.slice (some ⟨o,0,none⟩) n n)).setCell (by simp;try omega) (.int .i64 x.2.2.2.2.1)).setCell (by simp;try omega) (.int .i64 x.2.2.2.2.2))
 have hz4:w4.heap.size=w3.heap.size:=by rw[N];simp
 replace G:qj.own w4 [.int .i64 x.2.2.1.1,.slice g j i,.slice c f d,.slice k m l] x.2.2.1 D:=by rw[N];exact Sh.oset (p:=⟨w.heap.size+1+1,8,none⟩) (Sh.oset (p:=⟨w.heap.size+1+1,7,none⟩) (Sh.oset (p:=⟨w.heap.size+1+1,6,none⟩) (G) q (by show w.heap.size+1+1<_;omega) (.slice (some ⟨o,0,none⟩) n n)) q (by show w.heap.size+1+1<_;omega) (.int .i64 x.2.2.2.2.1)) q (by show w.heap.size+1+1<_;omega) (.int .i64 x.2.2.2.2.2)
 replace P:(Sh.il 3).own w4 [.slice (some ⟨o,0,none⟩) n n] x.2.2.2.1 [o]:=by rw[N];exact Sh.oset (p:=⟨w.heap.size+1+1,8,none⟩) (Sh.oset (p:=⟨w.heap.size+1+1,7,none⟩) (Sh.oset (p:=⟨w.heap.size+1+1,6,none⟩) (P) r (by show w.heap.size+1+1<_;omega) (.slice (some ⟨o,0,none⟩) n n)) r (by show w.heap.size+1+1<_;omega) (.int .i64 x.2.2.2.2.1)) r (by show w.heap.size+1+1<_;omega) (.int .i64 x.2.2.2.2.2)
 rw[<-N];have BRR:Blk (((((((((w4.setCell ⟨w.heap.size+1,0,none⟩ (.int .i64 x.1)).setCell ⟨w.heap.size+1,1,none⟩ (.string x.2.1)).setCell ⟨w.heap.size+1,2,none⟩ (.int .i64 x.2.2.1.1)).setCell ⟨w.heap.size+1,3,none⟩ (.slice g j i)).setCell ⟨w.heap.size+1,4,none⟩ (.slice c f d)).setCell ⟨w.heap.size+1,5,none⟩ (.slice k m l)).setCell ⟨w.heap.size+1,6,none⟩ (.slice (some ⟨o,0,none⟩) n n)).setCell ⟨w.heap.size+1,7,none⟩ (.int .i64 x.2.2.2.2.1)).setCell ⟨w.heap.size+1,8,none⟩ (.int .i64 x.2.2.2.2.2)) (w.heap.size+1) 59 #[.int .i64 x.1,.string x.2.1,.int .i64 x.2.2.1.1,.slice g j i,.slice c f d,.slice k m l,.slice (some ⟨o,0,none⟩) n n,.int .i64 x.2.2.2.2.1,.int .i64 x.2.2.2.2.2]:=by simpa using(((((((((J).set_ 0 (.int .i64 x.1)).set_ 1 (.string x.2.1)).set_ 2 (.int .i64 x.2.2.1.1)).set_ 3 (.slice g j i)).set_ 4 (.slice c f d)).set_ 5 (.slice k m l)).set_ 6 (.slice (some ⟨o,0,none⟩) n n)).set_ 7 (.int .i64 x.2.2.2.2.1)).set_ 8 (.int .i64 x.2.2.2.2.2)
 (try simp only[Exit.inBlock,Exit.then])
 refine zat (v:=.agg #[.int .i64 x.1,.string x.2.1,.int .i64 x.2.2.1.1,.slice g j i,.slice c f d,.slice k m l,.slice (some ⟨o,0,none⟩) n n,.int .i64 x.2.2.2.2.1,.int .i64 x.2.2.2.2.2]) (zb0 rfl _ _ (w.heap.size+1) 59 #[.int .i64 x.1,.string x.2.1,.int .i64 x.2.2.1.1,.slice g j i,.slice c f d,.slice k m l,.slice (some ⟨o,0,none⟩) n n,.int .i64 x.2.2.2.2.1,.int .i64 x.2.2.2.2.2] (0,0) _ (by simp) BRR Tryz.underlying59 rfl (by kernel_rfl)) rfl ?_;have hsz:(((((((((w4.setCell ⟨w.heap.size+1,0,none⟩ (.int .i64 x.1)).setCell ⟨w.heap.size+1,1,none⟩ (.string x.2.1)).setCell ⟨w.heap.size+1,2,none⟩ (.int .i64 x.2.2.1.1)).setCell ⟨w.heap.size+1,3,none⟩ (.slice g j i)).setCell ⟨w.heap.size+1,4,none⟩ (.slice c f d)).setCell ⟨w.heap.size+1,5,none⟩ (.slice k m l)).setCell ⟨w.heap.size+1,6,none⟩ (.slice (some ⟨o,0,none⟩) n n)).setCell ⟨w.heap.size+1,7,none⟩ (.int .i64 x.2.2.2.2.1)).setCell ⟨w.heap.size+1,8,none⟩ (.int .i64 x.2.2.2.2.2)).heap.size=w4.heap.size:=by simp
 refine⟨_,(D++ [o]),rfl,⟨[.int .i64 x.1], [.string x.2.1,.int .i64 x.2.2.1.1,.slice g j i,.slice c f d,.slice k m l,.slice (some ⟨o,0,none⟩) n n,.int .i64 x.2.2.2.2.1,.int .i64 x.2.2.2.2.2], [],(D++ [o]),rfl,rfl,⟨_,rfl,⟨rfl,ap.1,ap.2⟩,rfl⟩,⟨[.string x.2.1], [.int .i64 x.2.2.1.1,.slice g j i,.slice c f d,.slice k m l,.slice (some ⟨o,0,none⟩) n n,.int .i64 x.2.2.2.2.1,.int .i64 x.2.2.2.2.2], [],(D++ [o]),rfl,rfl,⟨_,rfl,⟨rfl,qText⟩,rfl⟩,⟨[.int .i64 x.2.2.1.1,.slice g j i,.slice c f d,.slice k m l], [.slice (some ⟨o,0,none⟩) n n,.int .i64 x.2.2.2.2.1,.int .i64 x.2.2.2.2.2],D, [o],rfl,rfl,(Sh.oset (p:=⟨w.heap.size+1,8,none⟩) (Sh.oset (p:=⟨w.heap.size+1,7,none⟩) (Sh.oset (p:=⟨w.heap.size+1,6,none⟩) (Sh.oset (p:=⟨w.heap.size+1,5,none⟩) (Sh.oset (p:=⟨w.heap.size+1,4,none⟩) (Sh.oset (p:=⟨w.heap.size+1,3,none⟩) (Sh.oset (p:=⟨w.heap.size+1,2,none⟩) (Sh.oset (p:=⟨w.heap.size+1,1,none⟩) (Sh.oset (p:=⟨w.heap.size+1,0,none⟩) (G) q (by show w.heap.size+1<_;omega) (.int .i64 x.1)) q (by show w.heap.size+1<_;omega) (.string x.2.1)) q (by show w.heap.size+1<_;omega) (.int .i64 x.2.2.1.1)) q (by show w.heap.size+1<_;omega) (.slice g j i)) q (by show w.heap.size+1<_;omega) (.slice c f d)) q (by show w.heap.size+1<_;omega) (.slice k m l)) q (by show w.heap.size+1<_;omega) (.slice (some ⟨o,0,none⟩) n n)) q (by show w.heap.size+1<_;omega) (.int .i64 x.2.2.2.2.1)) q (by show w.heap.size+1<_;omega) (.int .i64 x.2.2.2.2.2)),⟨[.slice (some ⟨o,0,none⟩) n n], [.int .i64 x.2.2.2.2.1,.int .i64 x.2.2.2.2.2], [o], [],rfl,(zc3 _).symm,(Sh.oset (p:=⟨w.heap.size+1,8,none⟩) (Sh.oset (p:=⟨w.heap.size+1,7,none⟩) (Sh.oset (p:=⟨w.heap.size+1,6,none⟩) (Sh.oset (p:=⟨w.heap.size+1,5,none⟩) (Sh.oset (p:=⟨w.heap.size+1,4,none⟩) (Sh.oset (p:=⟨w.heap.size+1,3,none⟩) (Sh.oset (p:=⟨w.heap.size+1,2,none⟩) (Sh.oset (p:=⟨w.heap.size+1,1,none⟩) (Sh.oset (p:=⟨w.heap.size+1,0,none⟩) (P) r (by show w.heap.size+1<_;omega) (.int .i64 x.1)) r (by show w.heap.size+1<_;omega) (.string x.2.1)) r (by show w.heap.size+1<_;omega) (.int .i64 x.2.2.1.1)) r (by show w.heap.size+1<_;omega) (.slice g j i)) r (by show w.heap.size+1<_;omega) (.slice c f d)) r (by show w.heap.size+1<_;omega) (.slice k m l)) r (by show w.heap.size+1<_;omega) (.slice (some ⟨o,0,none⟩) n n)) r (by show w.heap.size+1<_;omega) (.int .i64 x.2.2.2.2.1)) r (by show w.heap.size+1<_;omega) (.int .i64 x.2.2.2.2.2)),⟨[.int .i64 x.2.2.2.2.1], [.int .i64 x.2.2.2.2.2], [], [],rfl,rfl,⟨_,rfl,⟨rfl,qA.1,qA.2⟩,rfl⟩,⟨_,rfl,⟨rfl,qB.1,qB.2⟩,rfl⟩⟩⟩⟩⟩⟩,?_,(((((((((T4).setCell (by simp;try omega) (.int .i64 x.1)).setCell (by simp;try omega) (.string x.2.1)).setCell (by simp;try omega) (.int .i64 x.2.2.1.1)).setCell (by simp;try omega) (.slice g j i)).setCell (by simp;try omega) (.slice c f d)).setCell (by simp;try omega) (.slice k m l)).setCell (by simp;try omega) (.slice (some ⟨o,0,none⟩) n n)).setCell (by simp;try omega) (.int .i64 x.2.2.2.2.1)).setCell (by simp;try omega) (.int .i64 x.2.2.2.2.2)⟩;rw[hsz];exact Iv.mono (Iv.app (lo:=w.heap.size) (hi:=w4.heap.size) (a:=D) (b:= [o]) (Iv.mono q (by omega) (zad _)) (Iv.mono r (zad _) (by omega)) (by omega) (by omega) (by omega)) (by omega) (by omega)
theorem qiy (x y:qq):eqC x y=(eqC (x.1) (y.1) &&(eqC (x.2.1) (y.2.1) &&(eqC (x.2.2.1) (y.2.2.1) &&(eqC (x.2.2.2.1) (y.2.2.2.1) &&(eqC (x.2.2.2.2.1) (y.2.2.2.2.1) &&eqC (x.2.2.2.2.2) (y.2.2.2.2.2)))))):=by
 obtain⟨a,b,c,d,e,f⟩:=x;obtain⟨g,h,i,j,k,l⟩:=y;simp only[q6x]
theorem qcg (cs ds:List Value) (x y:qq) (w:World) (h:qh.rd w cs x) (h':qh.rd w ds y):
  Calls Tryz.prog 18 #[.agg cs.toArray,.agg ds.toArray] w (Bl w (.bool (eqC x y))):=by
 obtain⟨s,u,t,m,q,o,C,E,D,aj,nList,cList,rfl,qKind,qText,J,d,b,g,B,qA,qB⟩:=q1a h;obtain⟨n,r,p,i,k,j,v,A,z,ad,ai,ah,rfl,qyKind,qyText,H,c,a,f,l,qyA,qyB⟩:=q1a h';obtain⟨w0,I,Q,hsz0,K,L⟩:=q1q w #[.int .i64 x.1,.string x.2.1,.int .i64 x.2.2.1.1,.slice s u t,.slice m q o,.slice C E D,.slice aj nList cList,.int .i64 x.2.2.2.2.1,.int .i64 x.2.2.2.2.2] #[.int .i64 y.1,.string y.2.1,.int .i64 y.2.2.1.1,.slice n r p,.slice i k j,.slice v A z,.slice ad ai ah,.int .i64 y.2.2.2.2.1,.int .i64 y.2.2.2.2.2] 59 59;replace d:=d.next qd Q;replace c:=c.next qd Q;replace b:=b.next qd Q;replace a:=a.next qd Q;replace g:=g.next qd Q;replace f:=f.next qd Q;replace B:=B.next qd Q;replace l:=l.next qd Q;have HD:=zaa (qiy x y)
 go_enter Tryz.func18,Tryz.ntmps18
 rcases hd0:eqC (x.1) (y.1)with _|_
 .have ht:(x.1 !=y.1)=true:=q3i hd0
  have M:=zaa hd0;clear hd0;have R:=K.cell 0;have X:=L.cell 0;simp at R X;rw[I]at R X;go_wp2_with fail;go_ret;exact⟨qg (by rw[HD.out,M.out];first|rfl|simp),by first|exact Q|(rw[<-I];exact Q)⟩
 have ht0:(x.1 !=y.1)=false:=q3i hd0;have M:=zaa hd0;clear hd0;have R:=K.cell 0;have X:=L.cell 0;simp at R X;rw[I]at R X
 rcases hd1:eqC (x.2.1) (y.2.1)with _|_
 .have ht:(x.2.1.toList==y.2.1.toList)=false:=q3p hd1
  have O:=zaa hd1;clear hd1;have S:=K.cell 1;have Y:=L.cell 1;simp at S Y;rw[I]at S Y;go_wp2_with fail;go_ret;exact⟨qg (by rw[HD.out,M.out,O.out];first|rfl|simp),by first|exact Q|(rw[<-I];exact Q)⟩
 have ht1:(x.2.1.toList==y.2.1.toList)=true:=q3p hd1;have O:=zaa hd1;clear hd1;have S:=K.cell 1;have Y:=L.cell 1;simp at S Y;rw[I]at S Y
 rcases hd2:eqC (x.2.2.1) (y.2.2.1)with _|_
 .have N:=zaa hd2
  clear hd2;have T:=K.cell 2;have Z:=L.cell 2;have U:=K.cell 3;have aa:=L.cell 3;have V:=K.cell 4;have ab:=L.cell 4;have W:=K.cell 5;have ac:=L.cell 5;simp at T Z U aa V ab W ac;rw[I]at T Z U aa V ab W ac;go_wp2_with fail;rw[<-I];refine(q8l [.int .i64 x.2.2.1.1,.slice s u t,.slice m q o,.slice C E D] [.int .i64 y.2.2.1.1,.slice n r p,.slice i k j,.slice v A z] x.2.2.1 y.2.2.1 _ (q6d J d b g) (q6d H c a f)).mono ?_;rintro e w1 ⟨rfl,F⟩;rw[N.out];have T1:=q9 Q F rfl;go_wp2_with fail;go_ret;exact⟨qg (by rw[HD.out,M.out,O.out,N.out];first|rfl|simp),T1⟩
 have N:=zaa hd2;clear hd2;have T:=K.cell 2;have Z:=L.cell 2;have U:=K.cell 3;have aa:=L.cell 3;have V:=K.cell 4;have ab:=L.cell 4;have W:=K.cell 5;have ac:=L.cell 5;simp at T Z U aa V ab W ac;rw[I]at T Z U aa V ab W ac;go_wp2_with fail;rw[<-I];refine(q8l [.int .i64 x.2.2.1.1,.slice s u t,.slice m q o,.slice C E D] [.int .i64 y.2.2.1.1,.slice n r p,.slice i k j,.slice v A z] x.2.2.1 y.2.2.1 _ (q6d J d b g) (q6d H c a f)).mono ?_;rintro e w1 ⟨rfl,F⟩;rw[N.out];have T1:=q9 Q F rfl;clear T Z U aa V ab W ac R X S Y ht0 ht1;replace K:=K.next F;replace L:=L.next F;replace d:=d.next qd F;replace c:=c.next qd F;replace b:=b.next qd F;replace a:=a.next qd F;replace g:=g.next qd F;replace f:=f.next qd F;replace B:=B.next qd F;replace l:=l.next qd F
 rcases hd3:eqC (x.2.2.2.1) (y.2.2.2.1)with _|_
 .have P:=zaa hd3
  clear hd3;have af:=K.cell 6;have ag:=L.cell 6;simp at af ag;go_wp2_with fail;refine(q1n (q2v _ _ _ _ _ _ _ _ _ B l)).mono ?_;rintro e w2 ⟨rfl,G⟩;rw[q2w];rw[P.out];have T2:=q9 T1 G rfl;go_wp2_with fail;go_ret;exact⟨qg (by rw[HD.out,M.out,O.out,N.out,P.out];first|rfl|simp),T2⟩
 have P:=zaa hd3;clear hd3;have af:=K.cell 6;have ag:=L.cell 6;simp at af ag;go_wp2_with fail;refine(q1n (q2v _ _ _ _ _ _ _ _ _ B l)).mono ?_;rintro e w2 ⟨rfl,G⟩;rw[q2w];rw[P.out];have T2:=q9 T1 G rfl;clear af ag;replace K:=K.next G;replace L:=L.next G;replace d:=d.next qd G;replace c:=c.next qd G;replace b:=b.next qd G;replace a:=a.next qd G;replace g:=g.next qd G;replace f:=f.next qd G;replace B:=B.next qd G;replace l:=l.next qd G
 rcases hd4:eqC (x.2.2.2.2.1) (y.2.2.2.2.1)with _|_
 .have ht:(x.2.2.2.2.1 !=y.2.2.2.2.1)=true:=q3i hd4
  have ae:=zaa hd4;clear hd4;have cP7:=K.cell 7;have cQ7:=L.cell 7;simp at cP7 cQ7;go_wp2_with fail;go_ret;exact⟨qg (by rw[HD.out,M.out,O.out,N.out,P.out,ae.out];first|rfl|simp),by first|exact T2|(rw[<-I];exact T2)⟩
 have ht4:(x.2.2.2.2.1 !=y.2.2.2.2.1)=false:=q3i hd4;have ae:=zaa hd4;clear hd4;have cP7:=K.cell 7;have cQ7:=L.cell 7;simp at cP7 cQ7
 rcases hd5:eqC (x.2.2.2.2.2) (y.2.2.2.2.2)with _|_
 .have ht:(x.2.2.2.2.2 !=y.2.2.2.2.2)=true:=q3i hd5
  have HH5:=zaa hd5;clear hd5;have cP8:=K.cell 8;have cQ8:=L.cell 8;simp at cP8 cQ8;go_wp2_with fail;go_ret;exact⟨qg (by rw[HD.out,M.out,O.out,N.out,P.out,ae.out,HH5.out];first|rfl|simp),by first|exact T2|(rw[<-I];exact T2)⟩
 have ht5:(x.2.2.2.2.2 !=y.2.2.2.2.2)=false:=q3i hd5;have HH5:=zaa hd5;clear hd5;have cP8:=K.cell 8;have cQ8:=L.cell 8;simp at cP8 cQ8;go_wp2_with fail;go_ret;exact⟨qg (by rw[HD.out,M.out,O.out,N.out,P.out,ae.out,HH5.out];first|rfl|simp),T2⟩
theorem qbb (A:Option Addr) (n c:Nat) (xs:List qq) (left:Int) (w:World) (h:RdN qh.m qh.rd w A n xs) (h0:0<=left) (h1:left<=1048576):
  Calls Tryz.prog 22 #[.slice A n c,.int .i64 left] w (Bl w (.int .i64 (szR (xs.length+cntS qh.cnt xs) left))):=by
 have hle:=h.le;have K:=zaa h.len
 by_cases h2:left - n<0
 .go_enter Tryz.func22,Tryz.ntmps22
  go_wp2
  go_ret;exact⟨q11 (q7s (by rw[K.out];exact h2) _),zac _ _⟩
 .have U:=zaa (qh3 (a:=xs.length) (by rw[K.out];exact h2) (cntS qh.cnt xs))
  go_enter Tryz.func22,Tryz.ntmps22
  go_wp2
  go_loopw [1,5] (fun l i wr=>∃(k:Nat) (d:Int),k<=n/\i=.int .i64 k/\l=.int .i64 d/\0<=d/\d<=1048576/\SumAt qh.cnt xs (left - n) d k/\Below w.heap.size w wr) (fun _ i _=>n - (intOf i).toNat)
  case atStart=>exact⟨0,_,zah _,rfl,rfl,by omega,by omega,SumAt.start _ _ _,zac _ _⟩
  case round=>
   obtain⟨k,d,hk,rfl,rfl,D,P,H,N⟩:=hrel;replace h:=h.next N
   by_cases hlt:k<n
   .obtain⟨b,o,vs,x,rfl,-,B,W,hd,-⟩:=h.at hlt
    obtain⟨p,r,q,f,j,g,s,u,t,v,z,y,rfl,Q,S,F,E,C,G,R,qA,qB⟩:=q1a W;have Y:wr.cell? ⟨b,o+k*9,none⟩=some (.int .i64 x.1):=B 0 _ rfl;have Z:wr.cell? ⟨b,o+k*9+1,none⟩=some (.string x.2.1):=B 1 _ rfl;have aa:wr.cell? ⟨b,o+k*9+2,none⟩=some (.int .i64 x.2.2.1.1):=B 2 _ rfl;have ab:wr.cell? ⟨b,o+k*9+3,none⟩=some (.slice p r q):=B 3 _ rfl;have ac:wr.cell? ⟨b,o+k*9+4,none⟩=some (.slice f j g):=B 4 _ rfl;have ad:wr.cell? ⟨b,o+k*9+5,none⟩=some (.slice s u t):=B 5 _ rfl;have ae:wr.cell? ⟨b,o+k*9+6,none⟩=some (.slice v z y):=B 6 _ rfl;have af:wr.cell? ⟨b,o+k*9+7,none⟩=some (.int .i64 x.2.2.2.2.1):=B 7 _ rfl;have ag:wr.cell? ⟨b,o+k*9+8,none⟩=some (.int .i64 x.2.2.2.2.2):=B 8 _ rfl;clear B;have T:=zaa hd;clear hd;have hb:=q4o (qh.cnt x) (left:=d) D;have hk0:(0:Int)<=(k:Int):=by omega
    have hk1:(k:Int)<(n:Int):=by omega
    go_wp2_with fail;refine(qdg [.int .i64 x.1,.string x.2.1,.int .i64 x.2.2.1.1,.slice p r q,.slice f j g,.slice s u t,.slice v z y,.int .i64 x.2.2.2.2.1,.int .i64 x.2.2.2.2.2] x d _ W D P).mono ?_;rintro e w1 ⟨rfl,O⟩;have I:=q9 N O rfl;obtain⟨L,J⟩:∃L,Hid (szR (qh.cnt x) d=L):=⟨_,rfl⟩;rw[J.out]at hb⊢
    by_cases hz:L<0
    .have M:Hid ((-1:Int)=szR (xs.length+cntS qh.cnt xs) left):=(H.stop T.out (by rw[J.out];exact hz) D).trans (by rw[<-K.out];exact U.out)
     go_wp2_with fail;go_ret;exact⟨q11 M.out,I⟩
    .have X:Hid (SumAt qh.cnt xs (left - n) L (k+1)):=by have:=H.step T.out (by rw[J.out];exact hz);rw[J.out]at this;exact this
     go_wp2_with fail
     go_roundw
     case rel=>exact⟨k+1,_,by omega,by go_num,rfl,by omega,by omega,X.out,I⟩
     case measure=>simp[intOf];omega
   .have M:Hid (d=szR (xs.length+cntS qh.cnt xs) left):=(H.done (h.drop_end hlt) D).trans (by rw[<-K.out];exact U.out)
    have V:¬(k:Int)<(n:Int):=by omega
    go_wp2_with fail;go_ret;exact⟨q11 M.out,N⟩
theorem q91:(Tryz.prog.info? 59).map (fun i=>(i.zero,i.size))=some (some (.agg #[.int .i64 0,.string ⟨#[]⟩,.int .i64 0,.slice none 0 0,.slice none 0 0,.slice none 0 0,.slice none 0 0,.int .i64 0,.int .i64 0]),9):=by kernel_rfl
theorem qcp:(Tryz.prog.info? 59).all (fun i=>decide (i.bytes<=256))=true:=by kernel_rfl
theorem qeh (w:World) {ops:Array Oper} {d:List Oper} {o:Oper} {a:Act} {Q:Exit->Act->World->Prop} (q:o.guard=none) (l c:Operand) (h:o.op=Op.makeSlice 70 l c)
  (n:Nat) (r:a.eval l=.int .i64 n) (p:a.eval c=.int .i64 n) (b:n<=1048576)
  (hK:∀w',w'.ownsRow w.heap.size 59 qh.m (.slice (some ⟨w.heap.size,0,none⟩) n n) n (List.replicate n [.int .i64 0,.string ⟨#[]⟩,.int .i64 0,.slice none 0 0,.slice none 0 0,.slice none 0 0,.slice none 0 0,.int .i64 0,.int .i64 0]).flatten->w.grownBy w' none->wpList Tryz.prog ops Q d (a.put o.dst (.slice (some ⟨w.heap.size,0,none⟩) n n)) w'):
  wpList Tryz.prog ops Q (o::d) a w:=by
 rcases hi:Tryz.prog.info? 59 with _|i
 .exfalso
  have:=q91;rw[hi]at this;simp at this
 have e:=q91;have f:=qcp;rw[hi]at e f;simp only[Option.map_some,zc5,Prod.mk.injEq]at e;simp only[Option.all_some,decide_eq_true_eq]at f;have g:i.bytes*n<=256*1048576:=zci f b;refine wpList_make_full w q l c 70 h w.heap.size 59 i (.agg #[.int .i64 0,.string ⟨#[]⟩,.int .i64 0,.slice none 0 0,.slice none 0 0,.slice none 0 0,.slice none 0 0,.int .i64 0,.int .i64 0]) 9 Tryz.underlying70 hi e.1 e.2 .i64 .i64 n n n r p rfl rfl (by first|omega|(have:=Int.ofNat_le.2 g;simp at this⊢;omega)) (by unfold maxLen;omega) (zad _) ?_;intro w' j k;refine hK w' ?_ k;rw[<-qal [.int .i64 0,.string ⟨#[]⟩,.int .i64 0,.slice none 0 0,.slice none 0 0,.slice none 0 0,.slice none 0 0,.int .i64 0,.int .i64 0] n (by decide)];exact j
theorem qbd (A:Option Addr) (n c:Nat) (xs:List qq) (w:World) (h:RdN qh.m qh.rd w A n xs) (hn:xs.length+cntS qh.cnt xs<=1048576):
  Calls Tryz.prog 24 #[.slice A n c] w (ToV (Sh.rows qh 59) w xs):=by
 have aa:=zaa h.len;have hnn:n<=1048576:=by have:=h.len;omega
 have HN:=zaa hn;clear hn
 go_enter Tryz.func24,Tryz.ntmps24
 go_wp2_with (at_make;refine qeh _ rfl _ _ rfl n rfl rfl (by omega) ?_;intro w1 j Z)
 have S:=(zac w.heap.size w).grown Z (zad _) (by simp);clear Z
 go_loopw [4] (fun i wr=>∃(k:Nat) (Y:List (List Value)) (bls:List (List Nat)),k<=n/\i=.int .i64 k/\FillN qh 59 [.int .i64 0,.string ⟨#[]⟩,.int .i64 0,.slice none 0 0,.slice none 0 0,.slice none 0 0,.slice none 0 0,.int .i64 0,.int .i64 0] w.heap.size w.heap.size n wr xs Y bls k/\Below w.heap.size w wr) (fun i _=>n - (intOf i).toNat)
 case atStart=>exact⟨0,_,_,zah _,rfl,FillN.start j,S⟩
 case round=>
  clear j S;obtain⟨k,Y,bls,hk,rfl,j,S⟩:=hrel;replace h:=h.next S
  by_cases hlt:k<n
  .obtain⟨b,o,vs,x,rfl,-,K,hr,-,hx⟩:=h.at hlt
   obtain⟨p,r,q,d,l,g,s,y,u,H,J,I,rfl,qKind,qText,W,R,L,X,qList,qA,qB⟩:=q1a hr;have cc0:wr.cell? ⟨b,o+k*9,none⟩=some (.int .i64 x.1):=K 0 _ rfl;have cc1:wr.cell? ⟨b,o+k*9+1,none⟩=some (.string x.2.1):=K 1 _ rfl;have cc2:wr.cell? ⟨b,o+k*9+2,none⟩=some (.int .i64 x.2.2.1.1):=K 2 _ rfl;have cc3:wr.cell? ⟨b,o+k*9+3,none⟩=some (.slice p r q):=K 3 _ rfl;have cc4:wr.cell? ⟨b,o+k*9+4,none⟩=some (.slice d l g):=K 4 _ rfl;have cc5:wr.cell? ⟨b,o+k*9+5,none⟩=some (.slice s y u):=K 5 _ rfl;have cc6:wr.cell? ⟨b,o+k*9+6,none⟩=some (.slice H J I):=K 6 _ rfl;have cc7:wr.cell? ⟨b,o+k*9+7,none⟩=some (.int .i64 x.2.2.2.2.1):=K 7 _ rfl;have cc8:wr.cell? ⟨b,o+k*9+8,none⟩=some (.int .i64 x.2.2.2.2.2):=K 8 _ rfl;clear K;have hX:=zaa hx;have ac:qh.cnt x<=1048576:=by have:=q3w (f:=qh.cnt) (zaf hx);have:=HN.out;omega
   clear hx;have hk0:(0:Int)<=(k:Int):=by omega
   have hk1:(k:Int)<(n:Int):=by omega
   go_wp2_with fail;refine(qdk [.int .i64 x.1,.string x.2.1,.int .i64 x.2.2.1.1,.slice p r q,.slice d l g,.slice s y u,.slice H J I,.int .i64 x.2.2.2.2.1,.int .i64 x.2.2.2.2.2] x _ hr ac).mono ?_;rintro e M ⟨ds,bk,rfl,U,P,T⟩;obtain⟨B,D,C,t,z,v,E,G,F,N,Q,O,rfl,-,-,-,-,-,-,-,-,-⟩:=q1a (qh.ord U);have ab:=q9 S T rfl;have a:=j.next T;have ad:w.heap.size<=wr.heap.size:=S.size;have V:=j.set_ rfl T hlt hX.out U P.1 (fun b hb=>(P.2 b hb).1) ad;have dd0:M.cell? ⟨w.heap.size,k*9,none⟩=some (.int .i64 0):=a.cell rfl hlt (i:=0) rfl;have ff0:=a.frozen (k*9);have dd1:M.cell? ⟨w.heap.size,k*9+1,none⟩=some (.string ⟨#[]⟩):=a.cell rfl hlt (i:=1) rfl;have ff1:=a.frozen (k*9+1);have dd2:M.cell? ⟨w.heap.size,k*9+2,none⟩=some (.int .i64 0):=a.cell rfl hlt (i:=2) rfl;have ff2:=a.frozen (k*9+2);have dd3:M.cell? ⟨w.heap.size,k*9+3,none⟩=some (.slice none 0 0):=a.cell rfl hlt (i:=3) rfl;have ff3:=a.frozen (k*9+3);have dd4:M.cell? ⟨w.heap.size,k*9+4,none⟩=some (.slice none 0 0):=a.cell rfl hlt (i:=4) rfl;have ff4:=a.frozen (k*9+4);have dd5:M.cell? ⟨w.heap.size,k*9+5,none⟩=some (.slice none 0 0):=a.cell rfl hlt (i:=5) rfl;have ff5:=a.frozen (k*9+5);have dd6:M.cell? ⟨w.heap.size,k*9+6,none⟩=some (.slice none 0 0):=a.cell rfl hlt (i:=6) rfl;have ff6:=a.frozen (k*9+6);have dd7:M.cell? ⟨w.heap.size,k*9+7,none⟩=some (.int .i64 0):=a.cell rfl hlt (i:=7) rfl;have ff7:=a.frozen (k*9+7);have dd8:M.cell? ⟨w.heap.size,k*9+8,none⟩=some (.int .i64 0):=a.cell rfl hlt (i:=8) rfl;have ff8:=a.frozen (k*9+8);replace V:FillN qh 59 [.int .i64 0,.string ⟨#[]⟩,.int .i64 0,.slice none 0 0,.slice none 0 0,.slice none 0 0,.slice none 0 0,.int .i64 0,.int .i64 0] w.heap.size w.heap.size n (((((((((M.setCell ⟨w.heap.size,k*9,none⟩ (.int .i64 x.1)).setCell ⟨w.heap.size,k*9+1,none⟩ (.string x.2.1)).setCell ⟨w.heap.size,k*9+2,none⟩ (.int .i64 x.2.2.1.1)).setCell ⟨w.heap.size,k*9+3,none⟩ (.slice B D C)).setCell ⟨w.heap.size,k*9+4,none⟩ (.slice t z v)).setCell ⟨w.heap.size,k*9+5,none⟩ (.slice E G F)).setCell ⟨w.heap.size,k*9+6,none⟩ (.slice N Q O)).setCell ⟨w.heap.size,k*9+7,none⟩ (.int .i64 x.2.2.2.2.1)).setCell ⟨w.heap.size,k*9+8,none⟩ (.int .i64 x.2.2.2.2.2)) xs _ _ (k+1):=V;clear j a U;go_wp2_with fail
   go_roundw
   case rel=>exact⟨k+1,_,_,by omega,by go_num,V,(((((((((ab).setCell (zad _) _).setCell (zad _) _).setCell (zad _) _).setCell (zad _) _).setCell (zad _) _).setCell (zad _) _).setCell (zad _) _).setCell (zad _) _).setCell (zad _) _⟩
   case measure=>simp[intOf];omega
  .have hd:=j.done aa.out hlt hk
   have P:Iv w.heap.size wr.heap.size (w.heap.size::bls.flatten):=⟨j.nd,j.lo_⟩;have hlt':¬(k:Int)<(n:Int):=by omega
   clear j;go_wp2_with fail;go_ret;exact⟨_,_,rfl,hd,P,S⟩
theorem qb1 (A B:Option Addr) (n m c d:Nat) (xs ys:List qq) (w:World) (h:RdN qh.m qh.rd w A n xs) (h':RdN qh.m qh.rd w B m ys):
  Calls Tryz.prog 26 #[.slice A n c,.slice B m d] w (Bl w (.bool (eqC xs ys))):=by
 have hle:=h.le;have hle':=h'.le
 by_cases hnm:n=m
 .subst hnm
  go_enter Tryz.func26,Tryz.ntmps26
  go_wp2
  go_loopw [5] (fun i wr=>∃k:Nat,k<=n/\i=.int .i64 k/\EqdAt xs ys k/\Below w.heap.size w wr) (fun i _=>n - (intOf i).toNat)
  case atStart=>exact⟨0,zah _,rfl,EqdAt.start _ _,zac _ _⟩
  case round=>
   obtain⟨k,hk,rfl,H,hT⟩:=hrel;replace h:=h.next hT;replace h':=h'.next hT
   by_cases hlt:k<n
   .obtain⟨b,o,vs,x,rfl,-,U,hr,hd,-⟩:=h.at hlt
    obtain⟨O,P,vs',y,rfl,-,K,hr',hd',-⟩:=h'.at hlt;obtain⟨t,z,u,j,r,p,F,I,G,Q,S,R,rfl,qKind,qText,aa,X,V,ab,qList,qA,qB⟩:=q1a hr;obtain⟨l,s,q,a,g,f,C,E,D,L,N,M,rfl,qyKind,qyText,Y,W,T,Z,qyList,qyA,qyB⟩:=q1a hr';have cc0:wr.cell? ⟨b,o+k*9,none⟩=some (.int .i64 x.1):=U 0 _ rfl;have dd0:wr.cell? ⟨O,P+k*9,none⟩=some (.int .i64 y.1):=K 0 _ rfl;have cc1:wr.cell? ⟨b,o+k*9+1,none⟩=some (.string x.2.1):=U 1 _ rfl;have dd1:wr.cell? ⟨O,P+k*9+1,none⟩=some (.string y.2.1):=K 1 _ rfl;have cc2:wr.cell? ⟨b,o+k*9+2,none⟩=some (.int .i64 x.2.2.1.1):=U 2 _ rfl;have dd2:wr.cell? ⟨O,P+k*9+2,none⟩=some (.int .i64 y.2.2.1.1):=K 2 _ rfl;have cc3:wr.cell? ⟨b,o+k*9+3,none⟩=some (.slice t z u):=U 3 _ rfl;have dd3:wr.cell? ⟨O,P+k*9+3,none⟩=some (.slice l s q):=K 3 _ rfl;have cc4:wr.cell? ⟨b,o+k*9+4,none⟩=some (.slice j r p):=U 4 _ rfl;have dd4:wr.cell? ⟨O,P+k*9+4,none⟩=some (.slice a g f):=K 4 _ rfl;have cc5:wr.cell? ⟨b,o+k*9+5,none⟩=some (.slice F I G):=U 5 _ rfl;have dd5:wr.cell? ⟨O,P+k*9+5,none⟩=some (.slice C E D):=K 5 _ rfl;have cc6:wr.cell? ⟨b,o+k*9+6,none⟩=some (.slice Q S R):=U 6 _ rfl;have dd6:wr.cell? ⟨O,P+k*9+6,none⟩=some (.slice L N M):=K 6 _ rfl;have cc7:wr.cell? ⟨b,o+k*9+7,none⟩=some (.int .i64 x.2.2.2.2.1):=U 7 _ rfl;have dd7:wr.cell? ⟨O,P+k*9+7,none⟩=some (.int .i64 y.2.2.2.2.1):=K 7 _ rfl;have cc8:wr.cell? ⟨b,o+k*9+8,none⟩=some (.int .i64 x.2.2.2.2.2):=U 8 _ rfl;have dd8:wr.cell? ⟨O,P+k*9+8,none⟩=some (.int .i64 y.2.2.2.2.2):=K 8 _ rfl;clear U K;have H1:=zaa hd;have H2:=zaa hd';clear hd hd';have hk0:(0:Int)<=(k:Int):=by omega
    have hk1:(k:Int)<(n:Int):=by omega
    obtain⟨e0,HE⟩:∃e0,Hid (eqC x y=e0):=⟨_,rfl⟩;have J:Below wr.heap.size wr wr:=zac _ _;go_upto_region 6 with fail
    go_cut [26] (fun v wx=>v=.bool (!e0)/\Below wr.heap.size wr wx)
    case first=>
     go_region_held3 (fun w'=>w'.cell? ⟨b,o+k*9,none⟩=some (.int .i64 x.1)/\w'.cell? ⟨O,P+k*9,none⟩=some (.int .i64 y.1)/\w'.cell? ⟨b,o+k*9+1,none⟩=some (.string x.2.1)/\w'.cell? ⟨O,P+k*9+1,none⟩=some (.string y.2.1)/\w'.cell? ⟨b,o+k*9+2,none⟩=some (.int .i64 x.2.2.1.1)/\w'.cell? ⟨O,P+k*9+2,none⟩=some (.int .i64 y.2.2.1.1)/\w'.cell? ⟨b,o+k*9+3,none⟩=some (.slice t z u)/\w'.cell? ⟨O,P+k*9+3,none⟩=some (.slice l s q)/\w'.cell? ⟨b,o+k*9+4,none⟩=some (.slice j r p)/\w'.cell? ⟨O,P+k*9+4,none⟩=some (.slice a g f)/\w'.cell? ⟨b,o+k*9+5,none⟩=some (.slice F I G)/\w'.cell? ⟨O,P+k*9+5,none⟩=some (.slice C E D)/\w'.cell? ⟨b,o+k*9+6,none⟩=some (.slice Q S R)/\w'.cell? ⟨O,P+k*9+6,none⟩=some (.slice L N M)/\w'.cell? ⟨b,o+k*9+7,none⟩=some (.int .i64 x.2.2.2.2.1)/\w'.cell? ⟨O,P+k*9+7,none⟩=some (.int .i64 y.2.2.2.2.1)/\w'.cell? ⟨b,o+k*9+8,none⟩=some (.int .i64 x.2.2.2.2.2)/\w'.cell? ⟨O,P+k*9+8,none⟩=some (.int .i64 y.2.2.2.2.2)) (first|go_keep|exact⟨qe J cc0,qe J dd0,qe J cc1,qe J dd1,qe J cc2,qe J dd2,qe J cc3,qe J dd3,qe J cc4,qe J dd4,qe J cc5,qe J dd5,qe J cc6,qe J dd6,qe J cc7,qe J dd7,qe J cc8,qe J dd8⟩) ((go_at_call 18;refine(qcg [.int .i64 x.1,.string x.2.1,.int .i64 x.2.2.1.1,.slice t z u,.slice j r p,.slice F I G,.slice Q S R,.int .i64 x.2.2.2.2.1,.int .i64 x.2.2.2.2.2] [.int .i64 y.1,.string y.2.1,.int .i64 y.2.2.1.1,.slice l s q,.slice a g f,.slice C E D,.slice L N M,.int .i64 y.2.2.2.2.1,.int .i64 y.2.2.2.2.2] x y _ (qh.stab hr (by first|exact J.block|exact(zai J).block)) (qh.stab hr' (by first|exact J.block|exact(zai J).block))).mono ?_;rintro e wn ⟨rfl,hbn⟩;replace J:=q9 (by first|exact J|exact zai J) hbn rfl;rw[HE.out]))
     all_goals(go_wp2_with fail;go_meet;exact⟨rfl,J⟩)
    case rest=>
     obtain⟨rfl,hb4⟩:=hcut;have hT4:=q9 hT hb4 rfl;clear hb4 J cc0 dd0 cc1 dd1 cc2 dd2 cc3 dd3 cc4 dd4 cc5 dd5 cc6 dd6 cc7 dd7 cc8 dd8
     rcases e0 with _|_
     .go_wp2_with fail
      go_ret;exact⟨qg (H.stop H1.out H2.out HE.out),hT4⟩
     .go_wp2_with fail
      go_roundw
      case rel=>exact⟨k+1,by omega,by go_num,H.step H1.out H2.out HE.out,hT4⟩
      case measure=>simp[intOf];omega
   .have hlt':¬(k:Int)<(n:Int):=by omega
    go_wp2_with fail;go_ret;exact⟨qg (H.done (h.drop_end hlt) (h'.drop_end hlt)),hT⟩
 .have hne:((n:Int) !=(m:Int))=true:=by rw[bne_iff_ne];omega
  have HL:=zaa (qfs h.len h'.len hnm)
  go_enter Tryz.func26,Tryz.ntmps26
  go_wp2_with fail;go_ret;exact⟨qg HL.out,zac _ _⟩
theorem qay (v:Value) (xs:List qq) (left:Int) (w:World) (h:(Sh.rows qh 59).rd w [v] xs) (a:0<=left) (b:left<=1048576):
  Calls Tryz.prog 22 #[v,.int .i64 left] w (Bl w (.int .i64 (szR ((Sh.rows qh 59).cnt xs) left))):=by
 obtain⟨A,n,c,e,r⟩:=h;injection e with e _
 subst e;exact qbb A n c xs left w r a b
theorem q3k (v:Value) (xs:List qq) (w:World) (h:(Sh.rows qh 59).rd w [v] xs) (a:(Sh.rows qh 59).cnt xs<=1048576):
  Calls Tryz.prog 24 #[v] w (ToV (Sh.rows qh 59) w xs):=by
 obtain⟨A,n,c,e,r⟩:=h;injection e with e _
 subst e;exact qbd A n c xs w r a
theorem qa2 (v u:Value) (xs a:List qq) (w:World) (h:(Sh.rows qh 59).rd w [v] xs) (b:(Sh.rows qh 59).rd w [u] a):
  Calls Tryz.prog 26 #[v,u] w (Bl w (.bool (eqC xs a))):=by
 obtain⟨A,n,c,e,r⟩:=h;injection e with e _
 subst e;obtain⟨B,m,d,e,f⟩:=b;injection e with e _
 subst e;exact qb1 A B n m c d xs a w r f
def noEq (e:q1g):Bool:=decide ((e.1.length:Int)=0) &&decide ((e.2.length:Int)=0)
def q6g (f:qy):Bool:=decide (f.1=0) &&(noEq f.2.1 &&decide ((f.2.2.length:Int)=0))
theorem qag (cs:List Value) (x:q1g) (w:World) (h:qw.rd w cs x):Calls Tryz.prog 101 #[.agg cs.toArray] w (Bl w (.bool (noEq x))):=by
 obtain⟨f,b,g,c,a,d,rfl,i,e⟩:=q1k h;have j:Hid (noEq x=(((b:Int)==0) &&((a:Int)==0))):=by show _=_;unfold noEq;rw[i.len,e.len];rfl
 have k:=qm w (.cells #[.slice f b g,.slice c a d] 55)
 go_enter Tryz.func101,Tryz.ntmps101
 go_wp2
 all_goals
  go_ret;exact⟨qg (by rw[j.out];first|(simp;done)|(simp;omega)|(simp[*];done)|(simp[*];omega)),k⟩
theorem qcu (cs:List Value) (x:qy) (w:World) (h:qj.rd w cs x):Calls Tryz.prog 122 #[.agg cs.toArray] w (Bl w (.bool (q6g x))):=by
 obtain⟨g,i,b,c,d,a,l,j,m,rfl,t,k,f,n⟩:=q21 h;have v:Hid (q6g x=((x.1==0) &&(noEq x.2.1 &&((j:Int)==0)))):=by show _=_;unfold q6g;rw[n.len];rfl
 obtain⟨C,p,q,y,r⟩:=q15 w #[.int .i64 x.1,.slice g i b,.slice c d a,.slice l j m] 57;have B:=q2a (x:=x.2.1) (cLeft:=b) (cRight:=a) (k.next qd q) (f.next qd q)
 rcases h1:(x.1==0)with _|_
 .go_enter Tryz.func122,Tryz.ntmps122
  have s:=zaa h1;go_wp2_with fail;go_ret;exact⟨qg (by rw[v.out,s.out];rfl),by rw[<-p];exact q⟩
 .rcases h2:noEq x.2.1 with _|_
  all_goals
   have s:=zaa h1;have u:=zaa h2;clear h2
   go_enter Tryz.func122,Tryz.ntmps122
   go_wp2_with fail;rw[<-p];refine(qag _ _ _ B).mono ?_;rintro e D ⟨rfl,o⟩;rw[u.out];have z:=q9 q o rfl;replace r:=r.next o;have A:=r.cell 3;simp at A;go_wp2_with fail;go_ret;exact⟨qg (by rw[v.out,s.out,u.out];simp),z⟩
noncomputable def q2g (s:qq) (tx fa li aa bb:Bool):Bool:=(tx||eqC s.2.1 ⟨#[]⟩) &&((fa||q6g s.2.2.1) &&((li||decide ((s.2.2.2.1.length:Int)=0)) &&((aa||decide (s.2.2.2.2.1=0)) &&(bb||decide (s.2.2.2.2.2=0)))))
theorem qmn (s:ByteArray):s.toList.isEmpty=eqC s ⟨#[]⟩:=by
 rw[ByteArray.toList_eq]
 rcases h:eqC s ⟨#[]⟩with _|_
 .rw[q7a]at h
  rcases h2:s.data.toList with _|⟨a,l⟩
  .exfalso
   exact h (qbj (by unfold bs;rw[h2]))
  .rfl
 .rw[q2f]at h
  rw[h];rfl
theorem qih (s:ByteArray):(s.toList==(⟨#[]⟩:ByteArray).toList)=eqC s ⟨#[]⟩:=q3p rfl
theorem qeb (cs:List Value) (s:qq) (C z B v y:Bool) (w:World) (h:qh.rd w cs s)
  (L:(C,z,B,v,y)∈ [(true,false,false,false,false),(false,true,false,false,false),(false,false,false,true,true),(false,false,false,true,false),(false,false,true,false,false),(false,false,false,false,false)]):
  Calls Tryz.prog 70 #[.agg cs.toArray,.bool C,.bool z,.bool B,.bool v,.bool y] w (Bl w (.bool (q2g s C z B v y))):=by
 obtain⟨i,j,c,d,f,a,k,l,g,r,q,cList,rfl,I,J,o,n,m,p,u,U,V⟩:=q1a h;obtain⟨W,H,D,M,N⟩:=q15 w #[.int .i64 s.1,.string s.2.1,.int .i64 s.2.2.1.1,.slice i j c,.slice d f a,.slice k l g,.slice r q cList,.int .i64 s.2.2.2.2.1,.int .i64 s.2.2.2.2.2] 59;have T:=q6d (x:=s.2.2.1) (cEqLeft:=c) (cEqRight:=a) (cList:=g) o (n.next qd D) (m.next qd D) (p.next qd D);have E:Hid (q2g s C z B v y=((C||eqC s.2.1 ⟨#[]⟩) &&((z||q6g s.2.2.1) &&((B||((q:Int)==0)) &&((v||(s.2.2.2.2.1==0)) &&(y||(s.2.2.2.2.2==0))))))):=by show _=_;unfold q2g;rw[u.len];rfl
 obtain⟨S,K⟩:∃b,Hid (q6g s.2.2.1=b):=⟨_,rfl⟩;rw[K.out]at E;simp only[zbf,Prod.mk.injEq,List.not_mem_nil,or_false]at L
 rcases ht:eqC s.2.1 ⟨#[]⟩with _|_<;>rcases S with _|_
 all_goals
  rw[ht]at E;have Q:=(qmn s.2.1).trans ht;have R:=(qih s.2.1).trans ht;clear ht
  rcases L with⟨rfl,rfl,rfl,rfl,rfl⟩|⟨rfl,rfl,rfl,rfl,rfl⟩|⟨rfl,rfl,rfl,rfl,rfl⟩|⟨rfl,rfl,rfl,rfl,rfl⟩|⟨rfl,rfl,rfl,rfl,rfl⟩|⟨rfl,rfl,rfl,rfl,rfl⟩
  all_goals
   go_enter Tryz.func70,Tryz.ntmps70
   go_wp2_with fail
   try
    rw[<-H];refine(qcu [.int .i64 s.2.2.1.1,.slice i j c,.slice d f a,.slice k l g] s.2.2.1 _ T).mono ?_;rintro e X ⟨rfl,A⟩;rw[K.out];have O:=q9 D A rfl;have t:=N.next A;have P:=t.cell 6;have F:=t.cell 7;have G:=t.cell 8;simp at P F G;go_wp2_with fail
   all_goals
    go_ret;exact⟨qg (by rw[E.out];first|(simp;done)|(simp;omega)|(simp[*];done)|(simp[*];omega)),by first|exact O|exact qm _ _⟩
noncomputable def q2z (s:qq):Bool:=
 if s.1=1 then q2g s true false false false false
 else if s.1=2 then q2g s false true false false false
 else if s.1=3\/s.1=4 then q2g s false false false true true &&(decide (0<=s.2.2.2.2.1) &&decide (0<=s.2.2.2.2.2))
 else if s.1=5 then q2g s false false false true false &&decide (0<=s.2.2.2.2.1)
 else if s.1=6 then q2g s false false true false false
 else if s.1=7 then q2g s false false false false false
 else false
theorem q2x (s:qq) (k:Int) (h:s.1=k):q2z s=(if k=1 then q2g s true false false false false
 else if k=2 then q2g s false true false false false
 else if k=3\/k=4 then q2g s false false false true true &&(decide (0<=s.2.2.2.2.1) &&decide (0<=s.2.2.2.2.2))
 else if k=5 then q2g s false false false true false &&decide (0<=s.2.2.2.2.1)
 else if k=6 then q2g s false false true false false
 else if k=7 then q2g s false false false false false
 else false):=by subst h;rfl
theorem qg9 (cs:List Value) (s:qq) (w:World) (h:qh.rd w cs s):Calls Tryz.prog 35 #[.agg cs.toArray] w (Bl w (.bool (q2z s))):=by
 obtain⟨g,j,i,c,f,d,n,p,o,z,C,A,rfl,M,O,D,x,u,E,N,qA,qB⟩:=q1a h;obtain⟨w0,m,v,R,K⟩:=q15 w #[.int .i64 s.1,.string s.2.1,.int .i64 s.2.2.1.1,.slice g j i,.slice c f d,.slice n p o,.slice z C A,.int .i64 s.2.2.2.2.1,.int .i64 s.2.2.2.2.2] 59;have Y:=qh.stab h v.block;have P:=fun Z V X S T W=>qeb _ s Z V X S T w0 Y W
 by_cases k1:s.1=1
 .have k:Hid (q2z s=q2g s true false false false false):=by show _=_;rw[q2x s 1 k1];simp
  have B:(s.1==1)=true:=by simp;omega
  clear k1
  go_enter zga,zfy
  go_wp2_with fail;rw[<-m];refine(P _ _ _ _ _ (by simp)).mono ?_;rintro e G ⟨rfl,a⟩;have q:=q9 v a rfl;go_wp2_with fail;go_ret;exact⟨qg k.out.symm,q⟩
 by_cases k2:s.1=2
 .have k:Hid (q2z s=q2g s false true false false false):=by show _=_;rw[q2x s 2 k2];simp
  have B:(s.1==1)=false:=by simp;omega
  have F:(s.1==2)=true:=by simp;omega
  clear k1 k2
  go_enter zga,zfy
  go_wp2_with fail;rw[<-m];refine(P _ _ _ _ _ (by simp)).mono ?_;rintro e G ⟨rfl,a⟩;have q:=q9 v a rfl;go_wp2_with fail;go_ret;exact⟨qg k.out.symm,q⟩
 by_cases k3:s.1=3
 .have k:Hid (q2z s=(q2g s false false false true true &&(decide (0<=s.2.2.2.2.1) &&decide (0<=s.2.2.2.2.2)))):=by show _=_;rw[q2x s 3 k3];simp
  have B:(s.1==1)=false:=by simp;omega
  have F:(s.1==2)=false:=by simp;omega
  have H:(s.1==3)=true:=by simp;omega
  clear k1 k2 k3;obtain⟨I,y⟩:∃b,Hid (q2g s false false false true true=b):=⟨_,rfl⟩;rw[y.out]at k
  rcases I with _|_
  all_goals
   go_enter zga,zfy
   go_wp2_with fail;rw[<-m];refine(P _ _ _ _ _ (by simp)).mono ?_;rintro e G ⟨rfl,a⟩;rw[y.out];have q:=q9 v a rfl;have l:=K.next a;have r:=l.cell 7;have t:=l.cell 8;simp at r t;go_wp2_with fail
   all_goals
    go_ret;exact⟨qg (by rw[k.out];first|(simp;done)|(simp;omega)|(simp[*];done)|(simp[*];omega)),q⟩
 by_cases k4:s.1=4
 .have k:Hid (q2z s=(q2g s false false false true true &&(decide (0<=s.2.2.2.2.1) &&decide (0<=s.2.2.2.2.2)))):=by show _=_;rw[q2x s 4 k4];simp
  have B:(s.1==1)=false:=by simp;omega
  have F:(s.1==2)=false:=by simp;omega
  have H:(s.1==3)=false:=by simp;omega
  have J:(s.1==4)=true:=by simp;omega
  clear k1 k2 k3 k4;obtain⟨I,y⟩:∃b,Hid (q2g s false false false true true=b):=⟨_,rfl⟩;rw[y.out]at k
  rcases I with _|_
  all_goals
   go_enter zga,zfy
   go_wp2_with fail;rw[<-m];refine(P _ _ _ _ _ (by simp)).mono ?_;rintro e G ⟨rfl,a⟩;rw[y.out];have q:=q9 v a rfl;have l:=K.next a;have r:=l.cell 7;have t:=l.cell 8;simp at r t;go_wp2_with fail
   all_goals
    go_ret;exact⟨qg (by rw[k.out];first|(simp;done)|(simp;omega)|(simp[*];done)|(simp[*];omega)),q⟩
 by_cases k5:s.1=5
 .have k:Hid (q2z s=(q2g s false false false true false &&decide (0<=s.2.2.2.2.1))):=by show _=_;rw[q2x s 5 k5];simp
  have B:(s.1==1)=false:=by simp;omega
  have F:(s.1==2)=false:=by simp;omega
  have H:(s.1==3)=false:=by simp;omega
  have J:(s.1==4)=false:=by simp;omega
  have L:(s.1==5)=true:=by simp;omega
  clear k1 k2 k3 k4 k5;obtain⟨I,y⟩:∃b,Hid (q2g s false false false true false=b):=⟨_,rfl⟩;rw[y.out]at k
  rcases I with _|_
  all_goals
   go_enter zga,zfy
   go_wp2_with fail;rw[<-m];refine(P _ _ _ _ _ (by simp)).mono ?_;rintro e G ⟨rfl,a⟩;rw[y.out];have q:=q9 v a rfl;have l:=K.next a;have r:=l.cell 7;have t:=l.cell 8;simp at r t;go_wp2_with fail
   all_goals
    go_ret;exact⟨qg (by rw[k.out];first|(simp;done)|(simp;omega)|(simp[*];done)|(simp[*];omega)),q⟩
 by_cases k6:s.1=6
 .have k:Hid (q2z s=q2g s false false true false false):=by show _=_;rw[q2x s 6 k6];simp
  have B:(s.1==1)=false:=by simp;omega
  have F:(s.1==2)=false:=by simp;omega
  have H:(s.1==3)=false:=by simp;omega
  have J:(s.1==4)=false:=by simp;omega
  have L:(s.1==5)=false:=by simp;omega
  have Q:(s.1==6)=true:=by simp;omega
  clear k1 k2 k3 k4 k5 k6
  go_enter zga,zfy
  go_wp2_with fail;rw[<-m];refine(P _ _ _ _ _ (by simp)).mono ?_;rintro e G ⟨rfl,a⟩;have q:=q9 v a rfl;go_wp2_with fail;go_ret;exact⟨qg k.out.symm,q⟩
 by_cases k7:s.1=7
 .have k:Hid (q2z s=q2g s false false false false false):=by show _=_;rw[q2x s 7 k7];simp
  have B:(s.1==1)=false:=by simp;omega
  have F:(s.1==2)=false:=by simp;omega
  have H:(s.1==3)=false:=by simp;omega
  have J:(s.1==4)=false:=by simp;omega
  have L:(s.1==5)=false:=by simp;omega
  have Q:(s.1==6)=false:=by simp;omega
  have U:(s.1==7)=true:=by simp;omega
  clear k1 k2 k3 k4 k5 k6 k7
  go_enter zga,zfy
  go_wp2_with fail;rw[<-m];refine(P _ _ _ _ _ (by simp)).mono ?_;rintro e G ⟨rfl,a⟩;have q:=q9 v a rfl;go_wp2_with fail;go_ret;exact⟨qg k.out.symm,q⟩
 .have k:Hid (q2z s=false):=by show _=_;unfold q2z;rw[zaj k1,zaj k2,zaj (by omega),zaj k5,zaj k6,zaj k7]
  have B:(s.1==1)=false:=by simp;omega
  have F:(s.1==2)=false:=by simp;omega
  have H:(s.1==3)=false:=by simp;omega
  have J:(s.1==4)=false:=by simp;omega
  have L:(s.1==5)=false:=by simp;omega
  have Q:(s.1==6)=false:=by simp;omega
  have U:(s.1==7)=false:=by simp;omega
  clear k1 k2 k3 k4 k5 k6 k7
  go_enter zga,zfy
  go_wp2_with fail;go_ret;exact⟨qg k.out.symm,by rw[<-m];exact v⟩
theorem qgi (x:qy):q6g x=eqC x (0,([], []), []):=by
 rw[zcc,q2f];obtain⟨k,⟨l,r⟩,t⟩:=x;simp[q6g,noEq,zco]
theorem qby (cs ds:List Value) (x y:q1g) (w:World) (h:qw.rd w cs x) (L:qw.rd w ds y):Calls Tryz.prog 183 #[.agg cs.toArray,.agg ds.toArray] w (Bl w (.bool (eqC x y))):=by
 obtain⟨q,s,r,j,n,l,rfl,g,p⟩:=q1k h;obtain⟨k,o,m,b,f,c,rfl,a,i⟩:=q1k L;obtain⟨N,z,t,F,G,H⟩:=q1q w #[.slice q s r,.slice j n l] #[.slice k o m,.slice b f c] 55 55;have E:=zaa (q7j x y)
 rcases h1:eqC x.1 y.1 with _|_
 .have u:=zaa h1
  clear h1
  go_enter Tryz.func183,Tryz.ntmps183
  go_wp2_with fail;rw[<-z];refine(q4y (q4w _ _ _ _ _ _ _ _ _ (g.next qd t) (a.next qd t))).mono ?_;rintro e M ⟨rfl,d⟩;rw[q2w,u.out];have v:=q9 t d rfl;go_wp2_with fail;go_ret;exact⟨qg (by rw[E.out,u.out];rfl),v⟩
 .rcases h2:eqC x.2 y.2 with _|_
  all_goals
   have u:=zaa h1;have D:=zaa h2;clear h2
   go_enter Tryz.func183,Tryz.ntmps183
   go_wp2_with fail;rw[<-z];refine(q4y (q4w _ _ _ _ _ _ _ _ _ (g.next qd t) (a.next qd t))).mono ?_;rintro e M ⟨rfl,d⟩;rw[q2w,u.out];have v:=q9 t d rfl;have A:=G.next d;have B:=H.next d;have J:=A.cell 1;have K:=B.cell 1;simp at J K;go_wp2_with fail;refine(q4y (q4w _ _ _ _ _ _ _ _ _ (p.next qd v) (i.next qd v))).mono ?_;rintro e O ⟨rfl,C⟩;rw[q2w,D.out];have I:=q9 v C rfl;go_wp2_with fail;go_ret;exact⟨qg (by rw[E.out,u.out,D.out];rfl),I⟩
theorem q9a (cs ds:List Value) (x y:qy) (w:World) (h:qj.rd w cs x) (Y:qj.rd w ds y):Calls Tryz.prog 134 #[.agg cs.toArray,.agg ds.toArray] w (Bl w (.bool (eqC x y))):=by
 obtain⟨p,r,d,j,l,b,A,E,C,rfl,P,s,n,F⟩:=q21 h;obtain⟨k,m,c,f,g,a,t,v,u,rfl,K,o,i,z⟩:=q21 Y;obtain⟨w0,D,B,R,T,U⟩:=q1q w #[.int .i64 x.1,.slice p r d,.slice j l b,.slice A E C] #[.int .i64 y.1,.slice k m c,.slice f g a,.slice t v u] 57 57;have N:=zaa (qfr x y);have S:=q2a (x:=x.2.1) (cLeft:=d) (cRight:=b) (s.next qd B) (n.next qd B);have I:=q2a (x:=y.2.1) (cLeft:=c) (cRight:=a) (o.next qd B) (i.next qd B)
 rcases h0:eqC x.1 y.1 with _|_
 .have J:=zaa h0
  have Z:(x.1==y.1)=false:=by rw[<-h0,q8k];rfl
  clear h0
  go_enter Tryz.func134,Tryz.ntmps134
  go_wp2_with fail;go_ret;exact⟨qg (by rw[N.out,J.out];rfl),by rw[<-D];exact B⟩
 .have J:=zaa h0
  have Z:(x.1==y.1)=true:=by rw[<-h0,q8k];rfl
  clear h0
  rcases h1:eqC x.2.1 y.2.1 with _|_
  .have G:=zaa h1
   clear h1
   go_enter Tryz.func134,Tryz.ntmps134
   go_wp2_with fail;rw[<-D];refine(qby _ _ _ _ _ S I).mono ?_;rintro e w1 ⟨rfl,q⟩;rw[G.out];have H:=q9 B q rfl;go_wp2_with fail;go_ret;exact⟨qg (by rw[N.out,J.out,G.out];rfl),H⟩
  .rcases h2:eqC x.2.2 y.2.2 with _|_
   all_goals
    have G:=zaa h1;have Q:=zaa h2;clear h2
    go_enter Tryz.func134,Tryz.ntmps134
    go_wp2_with fail;rw[<-D];refine(qby _ _ _ _ _ S I).mono ?_;rintro e w1 ⟨rfl,q⟩;rw[G.out];have H:=q9 B q rfl;have L:=T.next q;have M:=U.next q;have W:=L.cell 3;have X:=M.cell 3;simp at W X;go_wp2_with fail;refine(q4y (q4w _ _ _ _ _ _ _ _ _ (F.next qd H) (z.next qd H))).mono ?_;rintro e w2 ⟨rfl,O⟩;rw[q2w,Q.out];have V:=q9 H O rfl;go_wp2_with fail;go_ret;exact⟨qg (by rw[N.out,J.out,G.out,Q.out];rfl),V⟩
theorem qp2 (w:World):qj.rd w [.int .i64 0,.slice none 0 0,.slice none 0 0,.slice none 0 0] ((0,([], []), []):qy):=
 q6d (x:=((0,([], []), []):qy)) ⟨by decide,by decide⟩ (RdL.nil _ _ _) (RdL.nil _ _ _) (RdL.nil _ _ _)
theorem qb5 (cs:List Value) (x:qy) (w:World) (h:qj.rd w cs x):Calls Tryz.prog 77 #[.agg cs.toArray] w (Bl w (.bool (q6g x))):=by
 obtain⟨d,g,f,a,c,b,i,k,j,rfl,p,m,l,q⟩:=q21 h;obtain⟨z,o,r,s,y⟩:=q15 w #[.int .i64 x.1,.slice d g f,.slice a c b,.slice i k j] 57;have v:=qj.stab h r.block
 go_enter Tryz.func77,Tryz.ntmps77
 go_wp2_with fail;rw[<-o];refine(q9a _ _ _ _ _ v (qp2 _)).mono ?_;rintro e A ⟨rfl,n⟩;have u:=q9 r n rfl;have t:=zaa (qgi x).symm;go_wp2_with fail;go_ret;exact⟨qg t.out,u⟩
theorem q8n (cs:List Value) (s:qq) (w:World) (h:qh.rd w cs s):Calls Tryz.prog 42 #[.agg cs.toArray] w (Bl w (.bool (q2z s))):=by
 obtain⟨j,m,d,g,i,c,n,o,k,B,q,cList,rfl,qKind,qText,v,r,p,y,L,qA,qB⟩:=q1a h;obtain⟨Q,P,S,hsz0,A⟩:=q15 w #[.int .i64 s.1,.string s.2.1,.int .i64 s.2.2.1.1,.slice j m d,.slice g i c,.slice n o k,.slice B q cList,.int .i64 s.2.2.2.2.1,.int .i64 s.2.2.2.2.2] 59;have rF:=q6d (x:=s.2.2.1) (cEqLeft:=d) (cEqRight:=c) (cList:=k) v (r.next qd S) (p.next qd S) (y.next qd S);have HX:∀H F G D E,Hid (q2g s H F G D E=((H||eqC s.2.1 ⟨#[]⟩) &&((F||q6g s.2.2.1) &&((G||((q:Int)==0)) &&((D||(s.2.2.2.2.1==0)) &&(E||(s.2.2.2.2.2==0))))))):=fun H F G D E=>by show _=_;unfold q2g;rw[L.len];rfl
 obtain⟨t,R⟩:∃b,eqC s.2.1 ⟨#[]⟩=b:=⟨_,rfl⟩;obtain⟨f,HF⟩:∃b,Hid (q6g s.2.2.1=b):=⟨_,rfl⟩;obtain⟨l,hl⟩:∃b,((q:Int)==0)=b:=⟨_,rfl⟩;obtain⟨a,ha⟩:∃b,(s.2.2.2.2.1==0)=b:=⟨_,rfl⟩;obtain⟨b,hb⟩:∃b,(s.2.2.2.2.2==0)=b:=⟨_,rfl⟩;have ht1:=(qmn s.2.1).trans R;have ht2:=(qih s.2.1).trans R;have U:=zaa R;clear R;have I:∀H F G D E,Hid (q2g s H F G D E=((H||t) &&((F||f) &&((G||l) &&((D||a) &&(E||b)))))):=fun H F G D E=>by show _=_;rw[(HX H F G D E).out,U.out,HF.out,hl,ha,hb]
 clear HX
 go_enter Tryz.func42,Tryz.ntmps42
 go_upto_region 1 with fail;rw[<-P];clear P;have W:=A.cell 1;have X:=A.cell 2;have Y:=A.cell 3;have Z:=A.cell 4;have c5:=A.cell 5;have c6:=A.cell 6;have N:=A.cell 8;simp at W X Y Z c5 c6 N;have z:Below Q.heap.size Q Q:=zac _ _
 go_cut [3,4,5,6] (fun v3 v4 v5 v6 wx=>v3=.bool t/\v4=.bool f/\v5=.bool l/\v6=.bool b/\Below Q.heap.size Q wx)
 case first=>
  go_region_held3 (fun w'=>w'.cell? ⟨w.heap.size,1,none⟩=some (.string s.2.1)/\w'.cell? ⟨w.heap.size,2,none⟩=some (.int .i64 s.2.2.1.1)/\w'.cell? ⟨w.heap.size,3,none⟩=some (.slice j m d)/\w'.cell? ⟨w.heap.size,4,none⟩=some (.slice g i c)/\w'.cell? ⟨w.heap.size,5,none⟩=some (.slice n o k)/\w'.cell? ⟨w.heap.size,6,none⟩=some (.slice B q cList)/\w'.cell? ⟨w.heap.size,8,none⟩=some (.int .i64 s.2.2.2.2.2)) (first|go_keep|exact⟨qe z W,qe z X,qe z Y,qe z Z,qe z c5,qe z c6,qe z N⟩) ((go_at_call 77;refine(qb5 [.int .i64 s.2.2.1.1,.slice j m d,.slice g i c,.slice n o k] s.2.2.1 _ (qj.stab rF (by first|exact z.block|exact(zai z).block))).mono ?_;rintro e wn ⟨rfl,hbn⟩;replace z:=q9 (by first|exact z|exact zai z) hbn rfl;rw[HF.out]))
  all_goals(go_wp2_with fail;go_meet;exact⟨rfl,rfl,rfl,rfl,z⟩)
 case rest=>
  obtain⟨rfl,rfl,rfl,rfl,K⟩:=hcut;obtain⟨w4,V⟩:∃wq:World,wq=wc:=⟨_,rfl⟩;subst V;have C:=q9 S K rfl;replace A:=A.next K;clear K z W X Y Z c5 c6 N ht1 ht2 hl hb;have c0:=A.cell 0;have c7:=A.cell 7;have N:=A.cell 8;simp at c0 c7 N
  by_cases k1:s.1=1
  .have u:Hid (q2z s=(f &&(l &&(a &&b)))):=by
    show _=_
    rw[q2x s 1 k1];simp[(I _ _ _ _ _).out]
   have J:(s.1==1)=true:=by simp;omega
   clear k1
   go_wp2
   all_goals
    go_ret;exact⟨qg (by refine Eq.trans ?_ u.out.symm;first|rfl|(simp;done)|(simp[*];done)|(simp;omega)|(simp[*];omega)),C⟩
  by_cases k2:s.1=2
  .have u:Hid (q2z s=(t &&(l &&(a &&b)))):=by
    show _=_
    rw[q2x s 2 k2];simp[(I _ _ _ _ _).out]
   have J:(s.1==1)=false:=by simp;omega
   have M:(s.1==2)=true:=by simp;omega
   clear k1 k2
   go_wp2
   all_goals
    go_ret;exact⟨qg (by refine Eq.trans ?_ u.out.symm;first|rfl|(simp;done)|(simp[*];done)|(simp;omega)|(simp[*];omega)),C⟩
  by_cases k3:s.1=3
  .have u:Hid (q2z s=((t &&(f &&l)) &&(decide (0<=s.2.2.2.2.1) &&decide (0<=s.2.2.2.2.2)))):=by
    show _=_
    rw[q2x s 3 k3];simp[(I _ _ _ _ _).out]
   have J:(s.1==1)=false:=by simp;omega
   have M:(s.1==2)=false:=by simp;omega
   have O:(s.1==3)=true:=by simp;omega
   clear k1 k2 k3
   go_wp2
   all_goals
    go_ret;exact⟨qg (by refine Eq.trans ?_ u.out.symm;first|rfl|(simp;done)|(simp[*];done)|(simp;omega)|(simp[*];omega)),C⟩
  by_cases k4:s.1=4
  .have u:Hid (q2z s=((t &&(f &&l)) &&(decide (0<=s.2.2.2.2.1) &&decide (0<=s.2.2.2.2.2)))):=by
    show _=_
    rw[q2x s 4 k4];simp[(I _ _ _ _ _).out]
   have J:(s.1==1)=false:=by simp;omega
   have M:(s.1==2)=false:=by simp;omega
   have O:(s.1==3)=false:=by simp;omega
   have T:(s.1==4)=true:=by simp;omega
   clear k1 k2 k3 k4
   go_wp2
   all_goals
    go_ret;exact⟨qg (by refine Eq.trans ?_ u.out.symm;first|rfl|(simp;done)|(simp[*];done)|(simp;omega)|(simp[*];omega)),C⟩
  by_cases k5:s.1=5
  .have u:Hid (q2z s=((t &&(f &&(l &&b))) &&decide (0<=s.2.2.2.2.1))):=by
    show _=_
    rw[q2x s 5 k5];simp[(I _ _ _ _ _).out]
   have J:(s.1==1)=false:=by simp;omega
   have M:(s.1==2)=false:=by simp;omega
   have O:(s.1==3)=false:=by simp;omega
   have T:(s.1==4)=false:=by simp;omega
   have e5:(s.1==5)=true:=by simp;omega
   clear k1 k2 k3 k4 k5
   go_wp2
   all_goals
    go_ret;exact⟨qg (by refine Eq.trans ?_ u.out.symm;first|rfl|(simp;done)|(simp[*];done)|(simp;omega)|(simp[*];omega)),C⟩
  by_cases k6:s.1=6
  .have u:Hid (q2z s=(t &&(f &&(a &&b)))):=by
    show _=_
    rw[q2x s 6 k6];simp[(I _ _ _ _ _).out]
   have J:(s.1==1)=false:=by simp;omega
   have M:(s.1==2)=false:=by simp;omega
   have O:(s.1==3)=false:=by simp;omega
   have T:(s.1==4)=false:=by simp;omega
   have e5:(s.1==5)=false:=by simp;omega
   have e6:(s.1==6)=true:=by simp;omega
   clear k1 k2 k3 k4 k5 k6
   go_wp2
   all_goals
    go_ret;exact⟨qg (by refine Eq.trans ?_ u.out.symm;first|rfl|(simp;done)|(simp[*];done)|(simp;omega)|(simp[*];omega)),C⟩
  by_cases k7:s.1=7
  .have u:Hid (q2z s=(t &&(f &&(l &&(a &&b))))):=by
    show _=_
    rw[q2x s 7 k7];simp[(I _ _ _ _ _).out]
   have J:(s.1==1)=false:=by simp;omega
   have M:(s.1==2)=false:=by simp;omega
   have O:(s.1==3)=false:=by simp;omega
   have T:(s.1==4)=false:=by simp;omega
   have e5:(s.1==5)=false:=by simp;omega
   have e6:(s.1==6)=false:=by simp;omega
   have e7:(s.1==7)=true:=by simp;omega
   clear k1 k2 k3 k4 k5 k6 k7
   go_wp2
   all_goals
    go_ret;exact⟨qg (by refine Eq.trans ?_ u.out.symm;first|rfl|(simp;done)|(simp[*];done)|(simp;omega)|(simp[*];omega)),C⟩
  .have u:Hid (q2z s=false):=by show _=_;unfold q2z;rw[zaj k1,zaj k2,zaj (by omega),zaj k5,zaj k6,zaj k7]
   have J:(s.1==1)=false:=by simp;omega
   have M:(s.1==2)=false:=by simp;omega
   have O:(s.1==3)=false:=by simp;omega
   have T:(s.1==4)=false:=by simp;omega
   have e5:(s.1==5)=false:=by simp;omega
   have e6:(s.1==6)=false:=by simp;omega
   have e7:(s.1==7)=false:=by simp;omega
   clear k1 k2 k3 k4 k5 k6 k7
   go_wp2
   all_goals
    go_ret;exact⟨qg (by refine Eq.trans ?_ u.out.symm;first|rfl|(simp;done)|(simp[*];done)|(simp;omega)|(simp[*];omega)),C⟩
def arF (ops:List OpM) (v:Int):Nat:=(ops.getD (-1 - v).toNat (0, [])).1.toNat
def tbF (ops:List OpM) (v:Int):List Int:=(ops.getD (-1 - v).toNat (0, [])).2
def badV (ops:List OpM) (v:Int):Bool:=decide (6<=v)||decide (v< -(ops.length:Int))
def adV (ops:List OpM) (v:Int):Nat:=if 0<=v then 0 else arF ops v
def endT (ops:List OpM):List Int->Nat->Option Nat
 | [],m=>if m=0 then some 0 else none
 |v::l,m=>if m=0 then some 0 else if badV ops v then none else(endT ops l (m - 1+adV ops v)).map (· +1)
theorem qdw (ops:List OpM) (l:List Int):endT ops l 0=some 0:=by cases l<;>rfl
theorem qcf (ops:List OpM) {m:Nat} (h:0<m):endT ops [] m=none:=by unfold endT;rw[zaj (by omega)]
theorem qa0 {ops:List OpM} {v:Int} {l:List Int} {m:Nat} (h:0<m):endT ops (v::l) m=if badV ops v then none else(endT ops l (m - 1+adV ops v)).map (· +1):=by
 rw[endT,zaj (by omega)]
def endI (ops:List OpM) (t:List Int) (at_:Nat):Int:=match endT ops (t.drop at_) 1 with|some q=>((at_+q:Nat):Int)|none=> -1
def EnI (ops:List OpM) (t:List Int) (a0 k need:Nat):Prop:=endT ops (t.drop a0) 1=(endT ops (t.drop k) need).map (· +(k - a0))/\a0<=k/\need<=1+3*(k - a0)
theorem EnI.start (ops:List OpM) (t:List Int) (a:Nat):EnI ops t a a 1:=⟨by cases endT ops (t.drop a) 1<;>simp,zad _,by omega⟩
theorem EnI.done {ops:List OpM} {t:List Int} {a k:Nat} (h:EnI ops t a k 0):endI ops t a=(k:Int):=by
 unfold endI;rw[h.1,qdw];have:=h.2.1;show((a+(0+(k - a)):Nat):Int)=(k:Int);omega
theorem EnI.over {ops:List OpM} {t:List Int} {b k a:Nat} (h:EnI ops t b k a) (c:0<a) (d:¬k<t.length):endI ops t b= -1:=by
 unfold endI;rw[h.1,zbk (by omega),qcf ops c];rfl
theorem EnI.bad {ops:List OpM} {t:List Int} {b k a:Nat} {v:Int} (h:EnI ops t b k a) (g:0<a) (c:t[k]?=some v) (d:badV ops v=true):endI ops t b= -1:=by
 have f:=(zag.1 c).1;have e:t.drop k=v::t.drop (k+1):=by rw[zbq f,(zag.1 c).2]
 unfold endI;rw[h.1,e,qa0 g,d];rfl
theorem EnI.next {ops:List OpM} {t:List Int} {b k a:Nat} {v:Int} (h:EnI ops t b k a) (i:0<a) (c:t[k]?=some v) (f:badV ops v=false) (l:adV ops v<=3):EnI ops t b (k+1) (a - 1+adV ops v):=by
 have g:=(zag.1 c).1;have e:t.drop k=v::t.drop (k+1):=by rw[zbq g,(zag.1 c).2]
 obtain⟨d,j,m⟩:=h;refine⟨?_,by omega,by omega⟩;rw[d,e,qa0 i,f]
 rcases endT ops (t.drop (k+1)) (a - 1+adV ops v)with _|q
 .rfl
 .show some (q+1+(k - b))=some (q+(k+1 - b))
  congr 1
  omega
def q2e (ops:List OpM) (t:List Int):Bool:=decide (t.length<=60) &&decide (endI ops t 0=(t.length:Int))
theorem q28 {ops:List OpM} {t:List Int} (h:q2e ops t=true):t.length<=60/\endT ops t 1=some t.length:=by
 unfold q2e at h;rw[zal,zax,zax]at h;refine⟨h.1,?_⟩;have a:=h.2;unfold endI at a;rw[List.drop_zero]at a
 rcases e:endT ops t 1 with _|q
 .rw[e]at a
  simp only at a;omega
 .rw[e]at a
  simp only at a
  congr 1
  omega
theorem qdh {ops:List OpM} {t:List Int} (h:q2e ops t=true):0<t.length:=by
 obtain⟨-,a⟩:=q28 h
 rcases t with _|⟨v,l⟩
 .rw[qcf ops (by decide)]at a
  cases a
 .simp
def evS (n:Nat) (ops:List OpM) (vals:List Int):List Int->List Nat
 | []=> []
 | v :: l => if 0 <= v then (vals.getD v.toNat 0).toNat :: evS n ops vals l
   else ((tbF ops v).getD (idx n ((evS n ops vals l).take (arF ops v))) 0).toNat :: (evS n ops vals l).drop (arF ops v)
def evT (n:Nat) (ops:List OpM) (vals t:List Int):Nat:=(evS n ops vals t).headD 0
def GoodS (ops:List OpM) (l:List Int) (m:Nat):Prop:=endT ops l m=some l.length
theorem GoodS.nil {ops:List OpM} {m:Nat} (h:GoodS ops [] m):m=0:=by
 unfold GoodS at h
 rcases zdb m with a|a
 .exact a
 .rw[qcf ops a]at h;cases h
theorem GoodS.cons {ops:List OpM} {v:Int} {l:List Int} {m:Nat} (h:GoodS ops (v::l) m):0<m/\badV ops v=false/\GoodS ops l (m - 1+adV ops v):=by
 unfold GoodS at h⊢
 rcases zdb m with a|a
 .subst a
  rw[qdw]at h;injection h with h
  simp at h
 .rw[qa0 a]at h
  split at h
  .cases h
  .rename_i hb
   refine⟨a,by simpa using hb,?_⟩
   rcases e:endT ops l (m - 1+adV ops v)with _|q
   .rw[e]at h;cases h
   .rw[e]at h
    injection h with h
    simp only[za0]at h
    congr 1
    omega
theorem GoodS.drop {ops:List OpM}:∀ {l:List Int} {m:Nat} (k:Nat),GoodS ops l m->∃m',GoodS ops (l.drop k) m'
 |l,m,0,h=>⟨m,by simpa using h⟩
 | [],m,k+1,h=>⟨m,by simpa using h⟩
 | v :: l, m, k + 1, h => by
   obtain ⟨-, -, h1⟩ := h.cons
   simpa using GoodS.drop k h1
theorem qa4 {n:Nat} {ops:List OpM} {vals:List Int}:∀ {l:List Int} {m:Nat},GoodS ops l m->(evS n ops vals l).length=m
 | [],m,h=>by rw[h.nil];rfl
 | v :: l, m, h => by
   obtain ⟨h0, -, h1⟩ := h.cons;have a := qa4 (n := n) (vals := vals) h1;unfold evS;unfold adV at a h1
   split
   . rename_i hv
     rw [zam hv] at a;rw [za0, a];omega
   . rename_i hv
     rw [zaj hv] at a;rw [za0, zct, a];omega
theorem GoodS.room {n:Nat} {ops:List OpM} {vals:List Int} {v:Int} {l:List Int} {m:Nat} (h:GoodS ops (v::l) m):badV ops v=false/\(¬ 0<=v->arF ops v<=(evS n ops vals l).length):=by
 obtain⟨d,a,b⟩:=h.cons;refine⟨a,fun c=>?_⟩;rw[qa4 b];unfold adV;rw[zaj c];omega
theorem q1v {ops:List OpM} {v:Int} (h:badV ops v=false):v<6/\ -(ops.length:Int)<=v:=by
 unfold badV at h;rw[Bool.or_eq_false_iff,zd5,zd5]at h;omega
theorem qjm {n:Nat} {ops:List OpM} {v:Int} (b:∀o∈ops,OpP n o) (h:badV ops v=false) (e:¬ 0<=v):∃o,ops[(-1 - v).toNat]?=some o/\OpP n o/\arF ops v=o.1.toNat/\tbF ops v=o.2/\(-1 - v).toNat<ops.length:=by
 obtain⟨c,d⟩:=q1v h;have a:(-1 - v).toNat<ops.length:=by omega
 refine⟨ops[(-1 - v).toNat],zae a,b _ (zce a),?_,?_,a⟩
 .unfold arF;rw[zak,zae a];rfl
 .unfold tbF;rw[zak,zae a];rfl
theorem qp5 {n:Nat} {ops:List OpM} {v:Int} (a:∀o∈ops,OpP n o) (h:badV ops v=false):adV ops v<=3:=by
 unfold adV
 split
 .omega
 .rename_i hv
  obtain⟨o,-,b,e,-⟩:=qjm a h hv;rw[e];have:=b.2.1;omega
theorem qpt {n:Nat} {o:OpM} (g:0<n) (b:OpP n o) {l:List Nat} (e:l.length=o.1.toNat) (hd:∀d∈l,d<n):∃v:Nat,o.2[idx n l]?=some (v:Int)/\v<n:=by
 have a:=q7d _ l e hd;rw[<-b.2.2.1]at a;have c:=b.2.2.2 _ (zce a);obtain⟨v,f⟩:=zan c.1;exact⟨v,by rw[zae a,f],by omega⟩
theorem qhg {n:Nat} {ops:List OpM} {vals:List Int} (e:0<n) (a:∀o∈ops,OpP n o) (f:∀x∈vals,0<=x/\x<=(n:Int) - 1):∀ {l:List Int} {m:Nat},GoodS ops l m->(∀v∈l,v<(vals.length:Int))->∀d∈evS n ops vals l,d<n
 | [],_,_,_,d,hd=>by cases hd
 | v :: l, m, h, hl, d, hd => by
   obtain ⟨h0, hb, h1⟩ := h.cons;have c := qhg e a f h1 fun x r => hl x (zap _ r)
   have k := (h.room (n := n) (vals := vals)).2;unfold evS at hd
   split at hd
   . rename_i h0v
     rcases zbf.1 hd with rfl | hd
     . have b : v.toNat < vals.length := by have := hl v zaq; omega
       rw [zak, zae b];have := f _ (zce b);show (vals[v.toNat]).toNat < n
       omega
     . exact c d hd
   . rename_i h0v
     rcases zbf.1 hd with rfl | hd
     . obtain ⟨o, -, j, g, i, -⟩ := qjm a hb h0v
       obtain ⟨w, p, q⟩ := qpt e j (l := (evS n ops vals l).take (arF ops v)) (by rw [za9, <- g]; have := k h0v; omega) fun d hd => c d (zbt hd)
       rw [i, zak, p];show ((w : Int)).toNat < n
       omega
     . exact c d (zdt hd)
theorem qpa {n:Nat} {ops:List OpM} {vals t:List Int} (b:0<n) (a:∀o∈ops,OpP n o) (g:∀x∈vals,0<=x/\x<=(n:Int) - 1) (f:q2e ops t=true) (c:∀v∈t,v<(vals.length:Int)):evT n ops vals t<n:=by
 have h:=qhg b a g (show GoodS ops t 1 from(q28 f).2) c;unfold evT
 rcases e:evS n ops vals t with _|⟨d,l⟩
 .exact b
 .exact h d (by rw[e];exact zaq)
theorem qq4 {n:Nat} {ops:List OpM} {vals l:List Int} {v:Int} {x:Nat} (a:0<=v) (b:vals[v.toNat]?=some (x:Int)):evS n ops vals (v::l)=x::evS n ops vals l:=by
 rw[evS,zam a,zak,b];rfl
theorem qrg {n:Nat} {ops:List OpM} {vals l:List Int} {v:Int} {o:OpM} {x:Nat} (a:¬ 0<=v) (b:arF ops v=o.1.toNat) (c:tbF ops v=o.2) (d:o.2[idx n ((evS n ops vals l).take o.1.toNat)]?=some (x:Int)):evS n ops vals (v::l)=x::(evS n ops vals l).drop o.1.toNat:=by
 rw[evS,zaj a,b,c,zak,d];rfl
def q9u (n:Nat) (ops:List OpM) (M:Nat->Bool):Prop:=∀o∈ops,∀i,i<o.2.length->(∀d∈digs n o.1.toNat i,M d=true)->M (nmAt o.2 i)=true
def LeM (n:Nat) (B M:Nat->Bool):Prop:=∀y,y<n->B y=true->M y=true
def InCl (n:Nat) (ops:List OpM) (B:Nat->Bool) (y:Nat):Prop:=∀M,q9u n ops M->LeM n B M->M y=true
noncomputable def clB (n:Nat) (ops:List OpM) (B:Nat->Bool) (y:Nat):Bool:=tt (InCl n ops B y)
theorem LeM.refl (n:Nat) (B:Nat->Bool):LeM n B B:=fun _ _ h=>h
theorem q6v (n:Nat) (ops:List OpM) (B:Nat->Bool):q9u n ops (clB n ops B):=fun o e i c hd=>q2h.2 fun M hM b=>hM o e i c fun d a=>q2h.1 (hd d a) M hM b
theorem qfm (n:Nat) (ops:List OpM) (B:Nat->Bool):LeM n B (clB n ops B):=fun y b h=>q2h.2 fun _ _ a=>a y b h
theorem qdu {n:Nat} {ops:List OpM} {B M:Nat->Bool} (a:q9u n ops M) (b:LeM n B M):LeM n (clB n ops B) M:=fun _ _ h=>q2h.1 h M a b
theorem qre {n:Nat} {ops:List OpM} {B H:Nat->Bool} (d:LeM n B H) (b:q9u n ops H) (c:LeM n H (clB n ops B)) {y:Nat} (a:y<n):H y=clB n ops B y:=by
 rcases e:H y with _|_
 .rcases e2:clB n ops B y with _|_
  .rfl
  .have:=qdu b d y a e2
   rw[e]at this;cases this
 .exact(c y a e).symm
def offs (L:List Bool):Nat:=L.countP fun b=> !b
theorem qhy:∀ {L:List Bool} {x:Nat},L[x]?=some false->offs (L.set x true)+1=offs L
 | [],x,h=>by simp at h
 | b :: L, 0, h => by
   simp only [List.getElem?_cons_zero, zc5] at h;subst h;simp [offs]
 | b :: L, x + 1, h => by
   simp only [zdh] at h;have ih := qhy h;unfold offs at ih ⊢;simp only [List.set_cons_succ, List.countP_cons];omega
theorem qqu (L:List Bool):offs L<=L.length:=List.countP_le_length
structure ClI (n:Nat) (ops:List OpM) (L0 L:List Bool):Prop where
 len:L.length=n
 sup:LeM n (gB L0) (gB L)
 least:LeM n (gB L) (clB n ops (gB L0))
theorem ClI.start {n:Nat} {ops:List OpM} {a:List Bool} (h:a.length=n):ClI n ops a a:=⟨h,LeM.refl _ _,qfm _ _ _⟩
def AllM (n k i:Nat) (L:List Bool):Bool:=(digs n k i).all (gB L)
theorem ClI.mark {n:Nat} {ops:List OpM} {b L:List Bool} (h:ClI n ops b L) (l:0<n) {o:OpM} (m:o∈ops) {i v:Nat} (f:o.2[i]?=some (v:Int)) (p:v<n) (g:AllM n o.1.toNat i L=true):ClI n ops b (L.set v true):=by
 have k:=h.len;refine⟨by rw[zcg];exact k,fun y c a=>?_,fun y c a=>?_⟩
 .rw[qe1 (by omega)]
  split
  .rfl
  .exact h.sup y c a
 .rw[qe1 (by omega)]at a
  split at a
  .rename_i e
   subst e;have j:=(zag.1 f).1;have:=q6v n ops (gB b) o m i j fun d hd=>h.least d (q20 l hd) (zfx.1 g d hd)
   rwa [q1d f]at this
  .exact h.least y c a
def OkE (n:Nat) (L:List Bool) (o:OpM) (i:Nat):Prop:=AllM n o.1.toNat i L=true->gB L (nmAt o.2 i)=true
theorem ClI.done {n:Nat} {ops:List OpM} {a L:List Bool} (h:ClI n ops a L) (c:∀o∈ops,∀i,i<o.2.length->OkE n L o i) {y:Nat} (e:y<n):gB L y=clB n ops (gB a) y:=
 qre h.sup (fun o d i b hd=>c o d i b (zfx.2 hd)) h.least e
def StP (n:Nat) (ops:List OpM) (L:List Bool) (y:Nat):Prop:=∃o∈ops,∃i,i<o.2.length/\AllM n o.1.toNat i L=true/\nmAt o.2 i=y
noncomputable def stL (n:Nat) (ops:List OpM) (L:List Bool):List Bool:=(List.range n).map fun y=>gB L y||tt (StP n ops L y)
theorem qh0 (n:Nat) (ops:List OpM) (L:List Bool):(stL n ops L).length=n:=by simp[stL]
theorem qde {n:Nat} {ops:List OpM} {L:List Bool} {y:Nat} (a:y<n):gB (stL n ops L) y=(gB L y||tt (StP n ops L y)):=by
 refine q7y ?_;unfold stL;rw[za2,zeo a];rfl
noncomputable def stN (n:Nat) (ops:List OpM):Nat->List Bool->List Bool
 |0,L=>L
 |k+1,L=>stL n ops (stN n ops k L)
theorem qh1 {n:Nat} {ops:List OpM} {L:List Bool} (h:L.length=n):∀k,(stN n ops k L).length=n
 |0=>h
 |k+1=>qh0 _ _ _
theorem qgk:∀ {L M:List Bool},L.length=M.length->(∀y,gB L y=true->gB M y=true)->L≠M->offs M<offs L
 | [], [],_,_,h=>absurd rfl h
 | [],_::_,h,_,_=>by simp at h
 |_::_, [],h,_,_=>by simp at h
 | a :: L, b :: M, hl, hle, hne => by
   have h0 := hle 0;have g : ∀ y, gB L y = true -> gB M y = true := fun y => by
     have := hle (y + 1)
     simpa [gB] using this
   have d : L.length = M.length := by simpa using hl
   have f : offs M <= offs L := by
     by_cases e : L = M
     . rw [e]; exact zad _
     . exact Nat.le_of_lt (qgk d g e)
   by_cases e : L = M
   . subst e
     have c : a ≠ b := fun e => hne (by rw [e])
     have i : a = false /\ b = true := by
       rcases a with _ | _ <;> rcases b with _ | _
       . exact absurd rfl c
       . exact ⟨rfl, rfl⟩
       . have := h0 (by simp [gB]); simp [gB] at this
       . exact absurd rfl c
     obtain ⟨rfl, rfl⟩ := i;simp [offs]
   . have := qgk d g e
     have c : a = true -> b = true := fun e => by have := h0 (by simp [gB, e]); simpa [gB] using this
     unfold offs at this f ⊢;simp only [List.countP_cons]
     rcases a with _ | _ <;> rcases b with _ | _ <;> simp_all <;> omega
theorem qpq {n:Nat} {ops:List OpM} {L:List Bool} (c:L.length=n) (y:Nat) (h:gB L y=true):gB (stL n ops L) y=true:=by
 have b:y<n:=by
  rcases zc9 y n with a|a
  .exact a
  .unfold gB at h
   rw[zak,zbl (by omega)]at h;cases h
 rw[qde b,h];rfl
theorem qmj {n:Nat} {ops:List OpM} {L:List Bool} (a:L.length=n):∀k,stL n ops (stN n ops k L)=stN n ops k L\/k+offs (stN n ops k L)<=n
 |0=>.inr (by have:=qqu L;show 0+offs L<=n;omega)
 | k + 1 => by
   by_cases e : stL n ops (stN n ops k L) = stN n ops k L
   . left
     show stL n ops (stL n ops (stN n ops k L)) = stL n ops (stN n ops k L)
     rw [e, e]
   . right
     have h1 : k + offs (stN n ops k L) <= n := (qmj a k).resolve_left e;have b := qgk (L := stN n ops k L) (M := stL n ops (stN n ops k L)) (by rw [qh1 a, qh0]) (fun y => qpq (qh1 a k) y) (Ne.symm e);show k + 1 + offs (stL n ops (stN n ops k L)) <= n
     omega
theorem qr4 {n:Nat} {ops:List OpM} {L:List Bool} (a:L.length=n):stL n ops (stN n ops (n+1) L)=stN n ops (n+1) L:=by
 rcases qmj (ops:=ops) a (n+1)with h|h
 .exact h
 .omega
theorem qmk {n:Nat} {ops:List OpM} {L:List Bool} (e:0<n) (c:L.length=n):∀k,LeM n (gB L) (gB (stN n ops k L))/\LeM n (gB (stN n ops k L)) (clB n ops (gB L))
 |0=>⟨LeM.refl _ _,qfm _ _ _⟩
 | k + 1 => by
   obtain ⟨h1, h2⟩ := qmk e c k;refine ⟨fun y b h => qpq (qh1 c k) y (h1 y b h), fun y b h => ?_⟩;have a : gB (stL n ops (stN n ops k L)) y = true := h;rw [qde b, zee] at a
   rcases a with a | a
   . exact h2 y b a
   . obtain ⟨o, j, i, g, f, rfl⟩ := q2h.1 a
     exact q6v n ops (gB L) o j i g fun d hd => h2 d (q20 e hd) (zfx.1 f d hd)
theorem qs1 {n:Nat} {ops:List OpM} {L:List Bool} (h:0<n) (d:L.length=n) (a:∀o∈ops,∀v∈o.2,0<=v/\v<=(n:Int) - 1) {y:Nat} (j:y<n):gB (stN n ops (n+1) L) y=clB n ops (gB L) y:=by
 obtain⟨f,g⟩:=qmk (ops:=ops) h d (n+1);refine qre f (fun o e i b hd=>?_) g j;have k:=a o e _ (zce b);have c:nmAt o.2 i<n:=by
  rw[q1d (zae b)];omega
 rw[<-qr4 d,qde c,<-q6o (show StP n ops (stN n ops (n+1) L) (nmAt o.2 i)from⟨o,e,i,b,zfx.2 hd,rfl⟩),Bool.or_true]
noncomputable def genL (n:Nat) (ops:List OpM) (S:List Int):List Int:=q1m n (clB n ops (gB (inL n S)))
def ParI (p:List Int) (i:Nat):Prop:=0<=p.getD i 0/\nmAt p i<=i/\nmAt p (nmAt p i)=nmAt p i
def ParP (n:Nat) (p:List Int):Prop:=p.length=n/\∀i,i<n->ParI p i
theorem ParP.at {n:Nat} {p:List Int} (h:ParP n p) {i:Nat} (hi:i<n):p[i]?=some (nmAt p i:Int)/\nmAt p i<=i/\nmAt p (nmAt p i)=nmAt p i:=by
 obtain⟨a,b,c⟩:=h.2 i hi;refine⟨?_,b,c⟩;have d:i<p.length:=by rw[h.1];exact hi
 unfold nmAt;rw[zak,zae d]at a⊢;simp only[Option.getD_some]at a⊢
 congr 1
 omega
def uniV (a b v:Int):Int:=if v=(if a<=b then b else a)then(if a<=b then a else b)else v
def uniL (p:List Int) (x y:Nat):List Int:=p.map (uniV (nmAt p x) (nmAt p y))
theorem qoy (p:List Int) (x y:Nat):(uniL p x y).length=p.length:=by simp[uniL]
theorem qdl {p:List Int} {x y:Nat} (h:nmAt p x=nmAt p y):uniL p x y=p:=by
 unfold uniL;rw[h];refine(zec (g:=id) fun v _=>?_).trans (List.map_id p);unfold uniV;simp only[Int.le_refl,if_true]
 split
 .rename_i e;exact e.symm
 .rfl
section
variable {n:Nat} {p:List Int} (hp:ParP n p)
include hp
theorem q6p {x y i:Nat} (hi:i<n):nmAt (uniL p x y) i=if nmAt p i=max (nmAt p x) (nmAt p y)then min (nmAt p x) (nmAt p y)else nmAt p i:=by
 have b:(uniL p x y)[i]?=some (uniV (nmAt p x) (nmAt p y) (nmAt p i)):=by
  unfold uniL;rw[za2,(hp.at hi).1];rfl
 rw[q1d b];unfold uniV
 by_cases hxy:nmAt p x<=nmAt p y
 .have a:((nmAt p x:Nat):Int)<=((nmAt p y:Nat):Int):=by omega
  rw[zam a,zam a,Nat.max_eq_right hxy,zef hxy]
  by_cases e:nmAt p i=nmAt p y
  .rw[zam e,zam (by rw[e])];omega
  .rw[zaj e,zaj (by omega)];omega
 .have a:¬((nmAt p x:Nat):Int)<=((nmAt p y:Nat):Int):=by omega
  rw[zaj a,zaj a,Nat.max_eq_left (by omega),Nat.min_eq_right (by omega)]
  by_cases e:nmAt p i=nmAt p x
  .rw[zam e,zam (by rw[e])];omega
  .rw[zaj e,zaj (by omega)];omega
theorem qat {i:Nat} (hi:i<n):nmAt p i<n:=by have:=(hp.at hi).2.1;omega
theorem qh6 {x y:Nat} (f:x<n) (g:y<n):ParP n (uniL p x y):=by
 have j:=qat hp f;have k:=qat hp g;have a:min (nmAt p x) (nmAt p y)<n:=by omega
 have d:nmAt p (min (nmAt p x) (nmAt p y))=min (nmAt p x) (nmAt p y):=by
  rcases Nat.le_total (nmAt p x) (nmAt p y)with h|h
  .rw[zef h];exact(hp.at f).2.2
  .rw[Nat.min_eq_right h];exact(hp.at g).2.2
 refine⟨by rw[qoy];exact hp.1,fun i c=>?_⟩;have e:=q6p hp (x:=x) (y:=y) c;have b:=hp.at c;refine⟨?_,?_,?_⟩
 .unfold uniL
  rw[zak,za2,b.1];show 0<=uniV _ _ _
  unfold uniV
  split
  .split<;>omega
  .omega
 .rw[e]
  split
  .omega
  .exact b.2.1
 .rw[e]
  by_cases h2:nmAt p i=max (nmAt p x) (nmAt p y)
  .rw[zam h2,q6p hp a,d]
   split<;>rfl
  .rw[zaj h2,q6p hp (qat hp c),b.2.2,zaj h2]
theorem q8i {x y i j:Nat} (hi:i<n) (a:j<n) (h:nmAt p i=nmAt p j):nmAt (uniL p x y) i=nmAt (uniL p x y) j:=by rw[q6p hp hi,q6p hp a,h]
theorem qff {x y:Nat} (a:x<n) (b:y<n):nmAt (uniL p x y) x=nmAt (uniL p x y) y:=by
 rw[q6p hp a,q6p hp b]
 rcases Nat.le_total (nmAt p x) (nmAt p y)with h|h
 .rw[Nat.max_eq_right h,zef h,zam rfl]
  split<;>omega
 .rw[Nat.max_eq_left h,Nat.min_eq_right h,zam rfl]
  split<;>omega
omit hp in
def fixs (n:Nat) (p:List Int):Nat:=((List.range n).filter fun i=>nmAt p i==i).length
omit hp in
theorem qdz {α:Type} {P Q:α->Bool}:∀ {l:List α},(∀a∈l,P a=true->Q a=true)->(∃a∈l,Q a=true/\P a=false)->(l.filter P).length<(l.filter Q).length
 | [],_,⟨a,ha,_⟩=>by cases ha
 | b :: l, h, ⟨a, ha, h1, h2⟩ => by
   have hle : (l.filter P).length <= (l.filter Q).length := by
     rw [<- List.countP_eq_length_filter, <- List.countP_eq_length_filter];exact List.countP_mono_left fun x c => h x (zap _ c)
   rcases zbf.1 ha with rfl | ha
   . rw [List.filter_cons_of_neg (by rw [h2]; decide), List.filter_cons_of_pos h1]
     simp only [za0];omega
   . have e := qdz (fun x c => h x (zap _ c)) ⟨a, ha, h1, h2⟩
     have d := h b zaq
     rcases e1 : P b with _ | _
     . rw [List.filter_cons_of_neg (by rw [e1]; decide)]
       rcases e2 : Q b with _ | _
       . rw [List.filter_cons_of_neg (by rw [e2]; decide)]; exact e
       . rw [List.filter_cons_of_pos e2]; simp only [za0]; omega
     . rw [List.filter_cons_of_pos e1, List.filter_cons_of_pos (d e1)]
       simp only [za0];omega
theorem qoz {x y:Nat} (f:x<n) (g:y<n) (h:nmAt p x≠nmAt p y):fixs n (uniL p x y)<fixs n p:=by
 have d:max (nmAt p x) (nmAt p y)<n:=by have:=qat hp f;have:=qat hp g;omega
 have a:nmAt p (max (nmAt p x) (nmAt p y))=max (nmAt p x) (nmAt p y):=by
  rcases Nat.le_total (nmAt p x) (nmAt p y)with h|h
  .rw[Nat.max_eq_right h];exact(hp.at g).2.2
  .rw[Nat.max_eq_left h];exact(hp.at f).2.2
 refine qdz (fun i c b=>?_) ⟨max (nmAt p x) (nmAt p y),zdd.2 d,by simpa using a,?_⟩
 .rw[zdd]at c
  rw[zdx,q6p hp c]at b;rw[zdx]
  split at b
  .rename_i e
   have:=(hp.at c).2.1;omega
  .exact b
 .rw[zbj,q6p hp d,a,zam rfl]
  omega
end
def repI (n k:Nat) (p:List Int) (i j:Nat):Nat:=idx n ((digs n k i).set j (nmAt p ((digs n k i).getD j 0)))
def PrE (n:Nat) (p:List Int) (o:OpM) (i j:Nat):Prop:=nmAt p (nmAt o.2 i)=nmAt p (nmAt o.2 (repI n o.1.toNat p i j))
def q4h (n:Nat) (ops:List OpM) (p:List Int):Prop:=∀o∈ops,∀j,j<o.1.toNat->∀i,i<o.2.length->PrE n p o i j
theorem qmd {n k:Nat} {p:List Int} (a:0<n) (b:ParP n p) {i j:Nat}:repI n k p i j<n ^ k:=by
 refine q7d k _ (by rw[zcg,q1t]) fun d hd=>?_
 rcases zdk hd with h|h
 .exact q20 a h
 .subst h
  refine qat b ?_;rw[zak]
  rcases e:(digs n k i)[j]? with _|d
  .exact a
  .exact q20 a (zaf e)
theorem qi7 {n:Nat}:∀(k q i d:Nat),q<k->(digs n k i).getD (k - 1 - q) 0=i / n ^ q % n/\idx n (digs n k i)+d*n ^ q=idx n ((digs n k i).set (k - 1 - q) d)+(i / n ^ q % n)*n ^ q
 |0,q,i,d,h=>by omega
 | k + 1, 0, i, d, h => by
   have hl : (digs n k (i / n)).length = k := q1t n k _;rw [digs];simp only [zf8, Nat.sub_zero, zfw, Nat.div_one, Nat.mul_one];refine ⟨?_, ?_⟩
   . rw [zak, zbc (by omega), hl]
     simp
   . rw [zdz _ _ (by omega), hl]
     simp only [zda, List.set_cons_zero, q4s];omega
 | k + 1, q + 1, i, d, h => by
   have hl : (digs n k (i / n)).length = k := q1t n k _;obtain ⟨c, e⟩ := qi7 (n := n) k q (i / n) d (by omega);have a : k + 1 - 1 - (q + 1) = k - 1 - q := by omega
   have b : i / n ^ (q + 1) = i / n / n ^ q := by rw [zfi, zfh, Nat.div_div_eq_div_mul]
   rw [digs, a, b];refine ⟨?_, ?_⟩
   . rw [zak, zbv (by omega), <- zak]
     exact c
   . rw [List.set_append_left _ _ (by omega), q4s, q4s]
     have f := zav (· * n) e;simp only [Nat.add_mul] at f;rw [zfi, <- Nat.mul_assoc, <- Nat.mul_assoc];omega
theorem qok {n k q i:Nat} {p:List Int} (d:0<n) (e:q<k) (hi:i<n ^ k):(repI n k p i (k - 1 - q):Int)=(i:Int)+((nmAt p (i / n ^ q % n):Int) - ((i / n ^ q % n:Nat):Int))*((n ^ q:Nat):Int):=by
 obtain⟨b,a⟩:=qi7 (n:=n) k q i (nmAt p (i / n ^ q % n)) e;unfold repI;rw[b];rw[q4r d hi]at a;have c:((i+nmAt p (i / n ^ q % n)*n ^ q:Nat):Int)=((idx n ((digs n k i).set (k - 1 - q) (nmAt p (i / n ^ q % n)))+(i / n ^ q % n)*n ^ q:Nat):Int):=by rw[a]
 rw[Int.natCast_add,zbw,Int.natCast_add,zbw]at c;rw[Int.sub_mul];omega
structure PuI (n:Nat) (p out:List Int) (all:Prop):Prop where
 par:ParP n out
 keep:∀i j,i<n->j<n->nmAt p i=nmAt p j->nmAt out i=nmAt out j
 same:all->out=p
 back:out=p->all
theorem PuI.start {n:Nat} {p:List Int} (h:ParP n p):PuI n p p True:=⟨h,fun _ _ _ _ h=>h,fun _=>rfl,fun _=>trivial⟩
theorem PuI.congr {n:Nat} {p c:List Int} {a b:Prop} (h:PuI n p c a) (e:a↔b):PuI n p c b:=⟨h.par,h.keep,fun d=>h.same (e.2 d),fun d=>e.1 (h.back d)⟩
theorem qm4 {n:Nat} {p q:List Int} (a:ParP n p) (b:ParP n q) (h:∀i,i<n->nmAt p i=nmAt q i):p=q:=by
 apply zcl;intro i
 by_cases hi:i<n
 .rw[(a.at hi).1,(b.at hi).1,h i hi]
 .rw[zbl (by rw[a.1];omega),zbl (by rw[b.1];omega)]
theorem PuI.next {n:Nat} {p a:List Int} {c:Prop} (f:ParP n p) (h:PuI n p a c) {x y:Nat} (k:x<n) (l:y<n):PuI n p (uniL a x y) (c/\nmAt p x=nmAt p y):=by
 refine⟨qh6 h.par k l,fun i j b d e=>q8i h.par b d (h.keep i j b d e),fun⟨r,g⟩=>?_,fun e=>?_⟩
 .have:=h.same r
  subst this;exact qdl g
 .have o:nmAt p x=nmAt p y:=by rw[<-e];exact qff h.par k l
  refine⟨h.back ?_,o⟩;refine qm4 h.par f fun i b=>?_
  have q:∀i j,i<n->j<n->nmAt a i=nmAt a j->nmAt p i=nmAt p j:=fun i j b d m=>by
   rw[<-e];exact q8i h.par b d m
  have s:=h.par.at b;have t:=f.at b;have u:=h.keep (nmAt p i) i (by omega) b t.2.2;have v:=q (nmAt a i) i (by omega) b s.2.2;have w:=(h.par.at (show nmAt p i<n by omega)).2.1;have z:=(f.at (show nmAt a i<n by omega)).2.1;omega
theorem q9w:∀ {l m:List Int},l.Pairwise (· < ·)->m.Pairwise (· < ·)->(∀x,x∈l↔x∈m)->l=m
 | [], [],_,_,_=>rfl
 | [],b::m,_,_,h=>by have:=(h b).2 zaq;cases this
 |a::l, [],_,_,h=>by have:=(h a).1 zaq;cases this
 | a :: l, b :: m, hl, hm, h => by
   rw [zd4] at hl hm;have e : a = b := by
     rcases zbf.1 ((h a).1 zaq) with e | e
     . exact e
     . rcases zbf.1 ((h b).2 zaq) with d | d
       . exact d.symm
       . have f := hm.1 a e
         have g := hl.1 b d;omega
   subst e
   congr 1
   refine q9w hl.2 hm.2 fun x => ⟨fun c => ?_, fun c => ?_⟩
   . rcases zbf.1 ((h x).1 (zap _ c)) with e | e
     . subst e; have := hl.1 x c; omega
     . exact e
   . rcases zbf.1 ((h x).2 (zap _ c)) with e | e
     . subst e; have := hm.1 x c; omega
     . exact e
theorem qm5 {xs L:List Int} {y:Int} (h:xs.Pairwise (· < ·)) (v:PutP xs y L):L.Pairwise (· < ·)/\∀z,z∈L↔z∈xs\/z=y:=by
 obtain⟨k,A,o,⟨g,rfl⟩|⟨g,rfl⟩⟩:=v
 .refine⟨h,fun z=>⟨.inl,fun d=>?_⟩⟩
  rcases d with d|rfl
  .exact d
  .exact zaf g
 .have r:=h
  rw[<-zcv k xs,List.pairwise_append]at r;obtain⟨w,p,x⟩:=r;have m:∀z∈xs.drop k,y<z:=fun z d=>by
   rcases e:xs.drop k with _|⟨c,l⟩
   .rw[e]at d;cases d
   .have u:xs[k]?=some c:=by
     have:=zav (fun q=>q[0]?) e
     simpa[zds]using this
    have t:=g c u;rw[e]at d p
    rcases zbf.1 d with rfl|d
    .exact t
    .have:=(zd4.1 p).1 z d
     omega
  have n:∀z∈xs.take k,z<y:=fun z d=>by
   obtain⟨i,f⟩:=zbo d;rw[zd3]at f
   split at f
   .rename_i hik
    exact o i hik z f
   .cases f
  refine⟨List.pairwise_append.2 ⟨w,zd4.2 ⟨m,p⟩,fun a s b j=>?_⟩,fun z=>?_⟩
  .rcases zbf.1 j with rfl|j
   .exact n a s
   .exact x a s b j
  .rw[zau,zbf]
   have e:z∈xs↔z∈xs.take k\/z∈xs.drop k:=by rw[<-zau,zcv]
   rw[e];constructor
   .rintro(h|h|h)
    .exact .inl (.inl h)
    .exact .inr h
    .exact .inl (.inr h)
   .rintro((h|h)|h)
    .exact .inl h
    .exact .inr (.inr h)
    .exact .inr (.inl h)
theorem qi5 {n:Nat} {M:Nat->Bool} {y:Nat} {L:List Int} (e:y<n) (h:PutP (q1m n M) (y:Int) L):L=q1m n (fun z=>M z||z==y):=by
 obtain⟨c,d⟩:=qm5 (q2t n M) h;refine q9w c (q2t _ _) fun z=>?_
 rw[d,q40,q40];constructor
 .rintro(⟨x,b,a,rfl⟩|rfl)
  .exact⟨x,b,by rw[a];rfl,rfl⟩
  .exact⟨y,e,by simp,rfl⟩
 .rintro⟨x,b,a,rfl⟩
  rw[zee,zdx]at a
  rcases a with a|rfl
  .exact .inl ⟨x,b,a,rfl⟩
  .exact .inr rfl
def varM (t:List Int) (y:Nat):Bool:=hasI (y:Int) t
def q35 (L R:List Int):List Int:=q1m 6 fun y=>varM L y||varM R y
def q79 (t:List Int) (k:Nat) (y:Nat):Bool:=hasI (y:Int) (t.take k)
theorem qk0 (t:List Int) (y:Nat):q79 t 0 y=false:=rfl
theorem qc7 {t:List Int} {k:Nat} {v:Int} (h:t[k]?=some v) (y:Nat):q79 t (k+1) y=(q79 t k y||decide (v=(y:Int))):=by
 unfold q79;rw[zbp,h,zcc,zee,q3m,q3m,zau,zax];simp only[Option.toList_some,zb2];exact⟨fun h=>h.imp id Eq.symm,fun h=>h.imp id Eq.symm⟩
theorem qfi {t:List Int} {k:Nat} (h:t.length<=k) (y:Nat):q79 t k y=varM t y:=by unfold q79 varM;rw[zar h]
theorem qdo (L R:List Int) (y:Nat):varM (L++R) y=(varM L y||varM R y):=by
 unfold varM;rw[zcc,zee,q3m,q3m,q3m,zau]
def setV (vars:List Int) (ds:List Nat):Nat->List Int->List Int
 |0,V=>V
 |k+1,V=>(setV vars ds k V).set (vars.getD k 0).toNat ((ds.getD k 0:Nat):Int)
theorem q8d (vars:List Int) (ds:List Nat) (V:List Int):∀k,(setV vars ds k V).length=V.length
 |0=>rfl
 |k+1=>by rw[setV,zcg,q8d vars ds V k]
theorem qmf {n:Nat} {vars:List Int} {ds:List Nat} {V:List Int} (hd:∀d∈ds,d<n) (b:0<n) (a:∀x∈V,0<=x/\x<=(n:Int) - 1):∀k,∀x∈setV vars ds k V,0<=x/\x<=(n:Int) - 1
 |0,x,hx=>a x hx
 | k + 1, x, hx => by
   rw [setV] at hx
   rcases zdk hx with h | h
   . exact qmf hd b a k x h
   . subst h
     have : ds.getD k 0 < n := by
       rw [zak]
       rcases e : ds[k]? with _ | d
       . exact b
       . exact hd d (zaf e)
     omega
def mxV (vars:List Int):Nat:=(vars.getLast?.getD (-1)+1).toNat
def Wb (n:Nat) (vars:List Int):Nat->List Int
 |0=>List.replicate (mxV vars) 0
 |i+1=>setV vars (digs n vars.length i) vars.length (Wb n vars i)
theorem qdr (n:Nat) (vars:List Int):∀i,(Wb n vars i).length=mxV vars
 |0=>by simp[Wb]
 |i+1=>by rw[Wb,q8d,qdr n vars i]
theorem qiu {n:Nat} (a:0<n) (vars:List Int):∀i,∀x∈Wb n vars i,0<=x/\x<=(n:Int) - 1
 | 0, x, hx => by
   rw [Wb] at hx;have := (List.mem_replicate.1 hx).2;omega
 | i + 1, x, hx => by
   rw [Wb] at hx;exact qmf (fun d hd => q20 a hd) a (qiu a vars i) _ x hx
def TryP (n:Nat) (ops:List OpM) (L R:List Int) (i:Nat):Prop:=evT n ops (Wb n (q35 L R) (i+1)) L=evT n ops (Wb n (q35 L R) (i+1)) R
def q5h (n:Nat) (ops:List OpM) (L R:List Int):Prop:=∀i,i<n ^ (q35 L R).length->TryP n ops L R i
def askB (n:Nat) (ops:List OpM) (L R:List Int):Bool:=(q2e ops L &&q2e ops R) &&decide (n ^ (q35 L R).length<=5000)
noncomputable def q5r (n:Nat) (ops:List OpM) (L R:List Int):Bool:=askB n ops L R &&tt (q5h n ops L R)
def q3f (n:Nat) (ops:List OpM) (L R V:List Int):Bool:=q1z 0 ((n:Int) - 1) V &&(decide (V.length=mxV (q35 L R)) &&decide (evT n ops V L≠evT n ops V R))
theorem qhl {ops:List OpM}:∀ {l:List Int} {m:Nat},GoodS ops l m->∀v∈l,badV ops v=false
 | [],_,_,v,hv=>by cases hv
 | x :: l, m, h, v, hv => by
   obtain ⟨-, h1, h2⟩ := h.cons
   rcases zbf.1 hv with rfl | hv
   . exact h1
   . exact qhl h2 v hv
theorem q2y {ops:List OpM} {t:List Int} (h:q2e ops t=true):∀v∈t,badV ops v=false:=qhl (show GoodS ops t 1 from(q28 h).2)
theorem qc9:∀ {l:List Int},l.Pairwise (· < ·)->∀v∈l,v<=l.getLast?.getD (-1)
 | [],_,v,hv=>by cases hv
 | [a],_,v,hv=>by rw[zb2]at hv;subst hv;simp
 | a :: b :: l, h, v, hv => by
   rw [zd4] at h;have ih := qc9 h.2;rw [List.getLast?_cons_cons]
   rcases zbf.1 hv with rfl | hv
   . have c := h.1 b zaq
     have d := ih b zaq;omega
   . exact ih v hv
theorem qaz (L R:List Int):(q35 L R).length<=6:=q4u _ _
theorem q55 (L R:List Int):∀v∈q35 L R,0<=v/\v<=5:=fun v a=>by
 have:=q3h (n:=6) v a;omega
theorem qoa (L R:List Int):mxV (q35 L R)<=6:=by
 unfold mxV
 rcases e:(q35 L R).getLast? with _|v
 .simp
 .have:=q55 L R v (List.mem_of_getLast? e)
  show(v+1).toNat<=6;omega
theorem q6q {ops:List OpM} {L R:List Int} (b:q2e ops L=true) (c:q2e ops R=true) {v:Int} (a:v∈L\/v∈R):v<(mxV (q35 L R):Int):=by
 by_cases h0:0<=v
 .have e:v<6:=by
   rcases a with a|a
   .exact(q1v (q2y b v a)).1
   .exact(q1v (q2y c v a)).1
  obtain⟨y,rfl⟩:=zan h0;have d:(y:Int)∈q35 L R:=by
   refine q40.2 ⟨y,by omega,?_,rfl⟩;rw[zee];exact a.imp q3m.2 q3m.2
  have:=qc9 (q2t _ _) _ d;unfold mxV;show(y:Int)<(((q1m 6 _).getLast?.getD (-1)+1).toNat:Int);omega
 .omega
theorem qmz {L R:List Int} {v:Int} (a:v∈q35 L R):v<(mxV (q35 L R):Int):=by
 have b:=qc9 (q2t 6 _) v a;have c:=(q55 L R v a).1;unfold mxV;show v<(((q1m 6 _).getLast?.getD (-1)+1).toNat:Int)
 omega
theorem qd0 {vars:List Int} {v:Int} (h:vars.getLast?=some v) (a:0<=v):(mxV vars:Int)=v+1:=by
 unfold mxV;rw[h];show((v+1).toNat:Int)=v+1;omega
def HomP (n:Nat) (ops:List OpM) (f:List Int):Prop:=∀o∈ops,∀i,i<o.2.length->nmAt f (nmAt o.2 i)=nmAt o.2 (toI n o.1.toNat f i)
noncomputable def q2k (n:Nat) (ops:List OpM) (p:List Int):Bool:=tt (ParP n p) &&tt (q4h n ops p)
noncomputable def homB (n:Nat) (ops:List OpM) (f:List Int):Bool:=(decide (f.length=n) &&q1z 0 ((n:Int) - 1) f) &&tt (HomP n ops f)
noncomputable def subB (n:Nat) (ops:List OpM) (V:List Int):Bool:=(q1z 0 ((n:Int) - 1) V &&q24 V) &&decide ((genL n ops V).length=V.length)
noncomputable def genB (n:Nat) (ops:List OpM) (V:List Int):Bool:=(q1z 0 ((n:Int) - 1) V &&q24 V) &&decide ((genL n ops V).length=n)
theorem qkt {n:Nat} {ops:List OpM} {V:List Int} (h:∀v∈V,0<=v/\v<=(n:Int) - 1):∀v∈V,v∈genL n ops V:=fun v a=>by
 obtain⟨y,rfl⟩:=zan (h v a).1;have b:y<n:=by have:=(h _ a).2;omega
 refine q40.2 ⟨y,b,qfm n ops _ y b ?_,rfl⟩;refine q7y ?_;unfold inL;rw[za2,zeo b];show some (hasI (y:Int) V)=some true
 rw[q3m.2 a]
theorem qkr {n:Nat} {ops:List OpM} {V:List Int} (h:∀v∈V,0<=v/\v<=(n:Int) - 1) (d:q24 V=true):(genL n ops V).length=V.length↔genL n ops V=V:=by
 constructor
 .intro g
  have c:=q39.1 d;refine q9w (q2t _ _) c fun x=>⟨fun f=>?_,qkt h x⟩
  have a:V.Nodup:=c.imp fun h=>by omega
  by_cases hxV:x∈V
  .exact hxV
  .have:=qaq (l:=x::V) (m:=genL n ops V) (zd2.2 ⟨hxV,a⟩) fun y b=>by
    rcases zbf.1 b with rfl|b
    .exact f
    .exact qkt h y b
   simp only[za0]at this;omega
 .intro e
  rw[e]
noncomputable def q1c (x:qi) (f:qy):Bool:=
 if f.1=1 then q5r x.1.toNat x.2 f.2.1.1 f.2.1.2 &&decide (f.2.2.length=0)
 else if f.1=2 then askB x.1.toNat x.2 f.2.1.1 f.2.1.2 &&q3f x.1.toNat x.2 f.2.1.1 f.2.1.2 f.2.2
 else noEq f.2.1 &&(if f.1=3 then subB x.1.toNat x.2 f.2.2 else if f.1=4 then q2k x.1.toNat x.2 f.2.2 else if f.1=5 then genB x.1.toNat x.2 f.2.2 else if f.1=6 then homB x.1.toNat x.2 f.2.2 else false)
theorem q51 {n:Nat} {b:Bool} (h:decide (n=0)=b):((n:Int)==0)=b:=by rw[<-h,zcc,zdx,zax];omega
def comp (s t:List Int):List Int:=s.map (nmI t)
theorem PermL.atI {n:Nat} {s:List Int} (h:PermL n s) {v:Int} (b:0<=v) (c:v<=(n:Int) - 1):∃hl:v.toNat<s.length,nmI s v=s[v.toNat]/\s[v.toNat]?=some (nmI s v):=by
 have hl:v.toNat<s.length:=by rw[h.1];omega
 have e:s[v.toNat]?=some s[v.toNat]:=zae hl;have a:nmI s v=s[v.toNat]:=by unfold nmI;rw[zak,e];rfl
 exact⟨hl,a,by rw[a];exact e⟩
theorem qeq {n:Nat} {s:List Int} (h:PermL n s) {v:Int} (a:0<=v) (b:v<=(n:Int) - 1):0<=nmI s v/\nmI s v<=(n:Int) - 1:=by
 obtain⟨c,e,-⟩:=h.atI a b;rw[e];exact h.2.1 _ (zce c)
theorem q9n {α:Type}:∀ {l:List α},l.Nodup->∀ {i j:Nat} {v:α},l[i]?=some v->l[j]?=some v->i=j
 | [],_,i,j,v,hi,_=>by simp at hi
 |x::l,h,0,0,v,_,_=>rfl
 | x :: l, h, 0, j + 1, v, hi, hj => by
   rw [zd2] at h;simp at hi hj;subst hi;exact absurd (zaf hj) h.1
 | x :: l, h, i + 1, 0, v, hi, hj => by
   rw [zd2] at h;simp at hi hj;subst hj;exact absurd (zaf hi) h.1
 | x :: l, h, i + 1, j + 1, v, hi, hj => by
   rw [zd2] at h;simp at hi hj;rw [q9n h.2 hi hj]
theorem q6f {n:Nat} {s:List Int} (h:PermL n s) {a b:Int} (d:0<=a) (f:a<=(n:Int) - 1) (g:0<=b) (i:b<=(n:Int) - 1) (e:nmI s a=nmI s b):a=b:=by
 obtain⟨-,-,c⟩:=h.atI d f;obtain⟨-,-,j⟩:=h.atI g i;rw[e]at c;have:=q9n h.2.2 c j;omega
theorem q88 {α β:Type} {f:α->β} {l:List α} (h:l.Nodup) (c:∀a∈l,∀b∈l,f a=f b->a=b):(l.map f).Nodup:=by
 induction l with
 |nil=>simp
 | cons x l ih =>
   rw [zd2] at h;rw [zcz, zd2];refine ⟨fun j => ?_, ih h.2 fun a g b i => c a (by simp [g]) b (by simp [i])⟩;obtain ⟨y, d, e⟩ := zbe.1 j;have := c y (by simp [d]) x (by simp) e;subst this;exact h.1 d
theorem qki {n:Nat} {s t:List Int} (c:PermL n s) (g:PermL n t):PermL n (comp s t):=by
 refine⟨by unfold comp;rw[zbz];exact c.1,fun v j=>?_,q88 c.2.2 fun a h b i e=>?_⟩
 .obtain⟨y,k,rfl⟩:=zbe.1 j
  have:=c.2.1 y k;exact qeq g this.1 this.2
 .have d:=c.2.1 a h
  have f:=c.2.1 b i;exact q6f g d.1 d.2 f.1 f.2 e
theorem q7v {n:Nat} {s t:List Int} (d:PermL n s) {v:Int} (b:0<=v) (c:v<=(n:Int) - 1):nmI (comp s t) v=nmI t (nmI s v):=by
 obtain⟨f,e,a⟩:=d.atI b c;unfold comp;have:(s.map (nmI t))[v.toNat]?=some (nmI t (nmI s v)):=by rw[za2,a];rfl
 exact q3q this
theorem q27 {n:Nat} {s:List Int} (c:PermL n s) {x:Nat} (d:x<n):(nmAt s x:Int)=nmI s (x:Int):=by
 obtain⟨v,a,e,b⟩:=c.at d;rw[b];have:=q3q a;unfold nmI at this⊢;simp only[za5];exact this.symm
theorem q37 {n:Nat} {s:List Int} (a:PermL n s) {x:Nat} (b:x<n):nmAt s x<n:=by
 obtain⟨v,c,d,e⟩:=a.at b;omega
theorem qdv {n:Nat} {s t:List Int} (a:PermL n s) (c:PermL n t) {x:Nat} (b:x<n):nmAt (comp s t) x=nmAt t (nmAt s x):=by
 have d:=q27 (qki a c) b;have e:=q27 c (q37 a b);have f:=q27 a b;rw[q7v a (by omega) (by omega),<-f,<-e]at d;omega
theorem q8c {n:Nat} {s t:List Int} (a:s.length=n) (b:t.length=n) (h:∀x,x<n->nmI s (x:Int)=nmI t (x:Int)):s=t:=by
 apply zcl;intro i
 by_cases hi:i<n
 .have:=h i hi
  unfold nmI at this;simp only[za5,zak]at this;rw[zae (by omega),zae (by omega)]at this⊢
  simpa using this
 .rw[zbl (by omega),zbl (by omega)]
theorem q9t {n:Nat} {v:Int} (a:0<=v) (b:v<=(n:Int) - 1):nmI (upTo n) v=v:=by
 have:=q3q (qio (n:=n) (k:=v.toNat) (by omega));rw[zen a]at this;exact this
theorem q1y (s t:List Int):(comp s t).length=s.length:=by simp[comp]
theorem qs5 {n:Nat} {s:List Int} (a:PermL n s):comp s (upTo n)=s:=by
 refine q8c (n:=n) (by rw[q1y];exact a.1) a.1 fun x b=>?_
 have:=qeq a (v:=(x:Int)) (by omega) (by omega);rw[q7v a (by omega) (by omega),q9t this.1 this.2]
def posN:List Int->Int->Nat
 | [],_=>0
 |x::l,v=>if x=v then 0 else posN l v+1
theorem q3j:∀ {l:List Int} {v:Int},v∈l->l[posN l v]?=some v
 | [],v,h=>by simp at h
 | x :: l, v, h => by
   unfold posN
   by_cases e : x = v
   . rw [zam e, e]; rfl
   . rw [zaj e, zdh]
     refine q3j ?_
     rcases zbf.1 h with h | h
     . exact absurd h.symm e
     . exact h
def inv (n:Nat) (s:List Int):List Int:=(List.range n).map fun(y:Nat)=>(posN s (y:Int):Int)
theorem PermL.mem {n:Nat} {s:List Int} (h:PermL n s) {y:Nat} (d:y<n):(y:Int)∈s:=by
 obtain⟨x,c,e⟩:=h.surj d;obtain⟨v,a,f,b⟩:=h.at c;rw[<-e,b];exact zaf a
theorem qkz {n:Nat} {s:List Int} {y:Nat} (a:y<n):nmI (inv n s) (y:Int)=(posN s (y:Int):Int):=by
 have:(inv n s)[y]?=some (posN s (y:Int):Int):=by unfold inv;rw[za2,zeo a];rfl
 have:=q3q this;unfold nmI at this⊢
 simpa using this
theorem q1l {n:Nat} {s:List Int} (h:PermL n s):PermL n (inv n s):=by
 refine⟨by simp[inv],fun v i=>?_,q88 List.nodup_range fun a f b g e=>?_⟩
 .obtain⟨y,j,rfl⟩:=zbe.1 i
  have:=(zag.1 (q3j (h.mem (zdd.1 j)))).1;have:=h.1;omega
 .have c:=q3j (h.mem (zdd.1 f))
  have d:=q3j (h.mem (zdd.1 g));have e':posN s (a:Int)=posN s (b:Int):=by omega
  rw[e',d]at c;injection c with c
  omega
theorem qcb {n:Nat} {s:List Int} (h:PermL n s):comp s (inv n s)=upTo n:=by
 refine q8c (n:=n) (by rw[q1y];exact h.1) (qdm n) fun x c=>?_
 rw[q7v h (by omega) (by omega),q9t (by omega) (by omega)];obtain⟨v,a,b,d⟩:=h.at c;have e:nmI s (x:Int)=v:=by have:=q3q a;unfold nmI at this⊢;simpa using this
 rw[e,qkz b];have:=q9n h.2.2 (q3j (h.mem b)) a;omega
theorem qno {n:Nat} {s:List Int} (h:PermL n s):comp (inv n s) s=upTo n:=by
 refine q8c (n:=n) (by rw[q1y];exact(q1l h).1) (qdm n) fun x a=>?_
 rw[q7v (q1l h) (by omega) (by omega),q9t (by omega) (by omega),qkz a];have:=q3j (h.mem a);have:=q3q this;unfold nmI at this⊢
 simpa using this
theorem qil {n k:Nat} {s t:List Int} (a:0<n) (b:PermL n s) (e:PermL n t) (i:Nat):toI n k t (toI n k s i)=toI n k (comp s t) i:=by
 unfold toI;have c:∀d∈(digs n k i).map (nmAt s),d<n:=fun d hd=>by
  obtain⟨y,f,rfl⟩:=zbe.1 hd;exact q37 b (q20 a f)
 rw[q4q a k _ (by rw[zbz,q1t]) c,zfz]
 congr 1
 apply zec;intro d hd;rw[qdv b e (q20 a hd)];rfl
theorem qr8 {n k:Nat} {s:List Int} (b:0<n) (a:PermL n s) {i j:Nat} (hi:i<n ^ k) (f:j<n ^ k) (e:toI n k s i=toI n k s j):i=j:=by
 have c:=qil (k:=k) b a (q1l a) i;have d:=qil (k:=k) b a (q1l a) j;rw[qcb a,qpv b hi]at c;rw[qcb a,qpv b f]at d;rw[<-c,<-d,e]
theorem qf1 {n k:Nat} {s t T:List Int} (a:0<n) (b:PermL n s) (d:T.length=n ^ k):∀m,m<=n ^ k->∀i,i<m->(q2q n k s t T m)[toI n k s i]?=some (nmI s (t.getD i 0))
 |0,_,i,hi=>absurd hi (by omega)
 | m + 1, hm, i, hi => by
   rw [q2q, zcd]
   by_cases h : toI n k s m = toI n k s i
   . obtain rfl : m = i := qr8 a b (by omega) (by omega) h
     have := qim (k := k) a b m;rw [zam rfl, zam (by rw [q2u, d]; exact this)]
   . rw [zaj h]
     refine qf1 a b d m (by omega) i ?_
     rcases zc9 i m with c | c
     . exact c
     . obtain rfl : i = m := by omega
       exact absurd rfl h
theorem qmb {n:Nat} {s:List Int} {x:OpM} (a:0<n) (b:PermL n s) (h:OpP n x) {i:Nat} (hi:i<n ^ x.1.toNat):(q2l n s x).2[toI n x.1.toNat s i]?=some (nmI s (x.2.getD i 0)):=
 qf1 a b h.2.2.1 _ (Nat.le_of_eq h.2.2.1) i (by rw[h.2.2.1];exact hi)
def kerL (q:List Int):List Int:=q.map fun v=>(posN q v:Int)
theorem q9m (q:List Int):(kerL q).length=q.length:=zbz _
theorem qi3 {f:Int->Int}:∀ {q:List Int} {v:Int},(∀a∈q,f a=f v->a=v)->posN (q.map f) (f v)=posN q v
 | [],v,_=>rfl
 | x :: l, v, h => by
   rw [zcz, posN, posN]
   by_cases e : x = v
   . rw [zam e, zam (by rw [e])]
   . rw [zaj e, zaj fun e2 => e (h x (zaq ..) e2), qi3 fun a ha => h a (zap _ ha)]
theorem ql5 {n:Nat} {s q:List Int} (g:PermL n s) (d:∀v∈q,0<=v/\v<=(n:Int) - 1):kerL (comp q s)=kerL q:=by
 unfold kerL comp;rw[zfz];refine zec fun v h=>?_
 show(posN (q.map (nmI s)) (nmI s v):Int)=posN q v;rw[qi3 fun a f e=>?_];have b:=d a f;have c:=d v h;exact q6f g b.1 b.2 c.1 c.2 e
theorem q8t:∀ {q:List Int} {v:Int} {y:Nat},q[y]?=some v->posN q v<=y
 | [],v,y,h=>by simp at h
 | x :: l, v, 0, h => by
   simp at h;rw [posN, zam h]; exact zad _
 | x :: l, v, y + 1, h => by
   rw [posN]
   split
   . omega
   . rw [zdh] at h
     have := q8t h;omega
theorem q8s {q:List Int} {v:Int} {y:Nat} (h:q[y]?=some v) (c:∀z,z<y->q[z]?≠some v):posN q v=y:=by
 have e:=q8t h;have b:=q3j (zaf h)
 rcases zc9 (posN q v) y with a|d
 .exact absurd b (c _ a)
 .omega
def rfL (k:Int) (V s:List Int):List Int:=
 if k=2 then comp V s
 else if k=3\/k=5 then q1m s.length fun y=>hasI (y:Int) (comp V s)
 else if k=4 then kerL (comp (inv s.length s) V)
 else if k=6 then comp (comp (inv s.length s) V) s
 else V
def InL (n:Nat) (V:List Int):Prop:=∀v∈V,0<=v/\v<=(n:Int) - 1
theorem q44 {n:Nat} {V s:List Int} (b:PermL n s) (a:InL n V):InL n (comp V s):=fun v c=>by
 obtain⟨y,d,rfl⟩:=zbe.1 c;have:=a y d;exact qeq b this.1 this.2
theorem q5m {n:Nat} {V f:List Int} (g:f.length=n) (a:InL n f) (c:InL n V):InL n (comp V f):=fun v d=>by
 obtain⟨y,e,rfl⟩:=zbe.1 d;have h:=c y e;have b:y.toNat<f.length:=by omega
 have:nmI f y=f[y.toNat]:=by unfold nmI;rw[zak,zae b];rfl
 rw[this];exact a _ (zce b)
theorem q6w {n:Nat} {V s:List Int} (j:PermL n s) (f:InL n V) (i:V.Nodup):(comp V s).Nodup:=
 q88 i fun a g b h e=>by
  have c:=f a g;have d:=f b h;exact q6f j c.1 c.2 d.1 d.2 e
theorem q4p {x:qi} {f:qy} (h:q1c x f=true):InL x.1.toNat f.2.2/\(f.1=1->f.2.2= [])/\(f.1=3\/f.1=5->q24 f.2.2=true)/\(f.1=4\/f.1=6->f.2.2.length=x.1.toNat)/\1<=f.1/\f.1<=6:=by
 have g:∀ {V:List Int},V= []->InL x.1.toNat V:=fun e v b=>by rw[e]at b;cases b
 unfold q1c at h
 by_cases h1:f.1=1
 .rw[zam h1,zal,zax]at h
  have e:=zco.1 h.2;exact⟨g e,fun _=>e,by omega,by omega,by omega,by omega⟩
 rw[zaj h1]at h
 by_cases h2:f.1=2
 .rw[zam h2,zal]at h
  have a:=h.2;unfold q3f at a;rw[zal]at a;exact⟨q38.1 a.1,by omega,by omega,by omega,by omega,by omega⟩
 rw[zaj h2,zal]at h;replace h:=h.2
 by_cases a:f.1=3
 .rw[zam a]at h
  unfold subB at h;rw[zal,zal]at h;exact⟨q38.1 h.1.1,by omega,fun _=>h.1.2,by omega,by omega,by omega⟩
 rw[zaj a]at h
 by_cases h4:f.1=4
 .rw[zam h4]at h
  unfold q2k at h;rw[zal]at h;have d:ParP x.1.toNat f.2.2:=q2h.1 h.1;refine⟨fun v b=>?_,by omega,by omega,fun _=>d.1,by omega,by omega⟩;obtain⟨i,c⟩:=zbo b;have m:=(zag.1 c).1;have j:=d.1;obtain⟨k,n,-⟩:=d.2 i (by omega);have e:f.2.2.getD i 0=v:=by rw[zak,c];rfl
  rw[e]at k;have l:nmAt f.2.2 i=v.toNat:=q1d c;rw[l]at n;exact⟨k,by omega⟩
 rw[zaj h4]at h
 by_cases h5:f.1=5
 .rw[zam h5]at h
  unfold genB at h;rw[zal,zal]at h;exact⟨q38.1 h.1.1,by omega,fun _=>h.1.2,by omega,by omega,by omega⟩
 rw[zaj h5]at h
 by_cases h6:f.1=6
 .rw[zam h6]at h
  unfold homB at h;rw[zal,zal,zax]at h;exact⟨q38.1 h.1.2,by omega,by omega,fun _=>h.1.1,by omega,by omega⟩
 .rw[zaj h6]at h
  cases h
theorem q8e {n:Nat} {L:List Int} (l:L.Nodup) (j:InL n L):L.mergeSort (fun x y=>decide (x<=y))=q1m n fun y=>hasI (y:Int) L:=by
 have f:=List.mergeSort_perm L fun x y=>decide (x<=y)
 have m:=List.pairwise_mergeSort (le:=fun(x y:Int)=>decide (x<=y)) (fun a b c e i=>by simp at*;omega) (fun a b=>by simp;omega) L;have d:(L.mergeSort fun x y=>decide (x<=y)).Nodup:=f.nodup_iff.2 l;refine q9w ?_ (q2t _ _) fun z=>?_
 .have:=m.and d
  exact this.imp fun h=>by
   obtain⟨e,i⟩:=h;simp at e;omega
 .rw[f.mem_iff,q40]
  constructor
  .intro g
   have:=j z g;refine⟨z.toNat,by omega,?_,by omega⟩;rw[show((z.toNat:Nat):Int)=z by omega];exact q5q.2 g
  .rintro⟨y,o,k,rfl⟩
   exact q5q.1 k
theorem qlh {n:Nat} {L:List Int} {y:Nat} {P:List Int} (a:y<n) (h:PutP (q1m n fun z=>hasI (z:Int) L) (y:Int) P):P=q1m n fun z=>hasI (z:Int) (L++ [(y:Int)]):=by
 rw[qi5 a h];refine q22 fun z b=>?_
 rw[zcc,zee,q5q,q5q,zdx,zau,zb2];constructor
 .rintro(h|rfl)
  .exact .inl h
  .exact .inr rfl
 .rintro(h|h)
  .exact .inl h
  .exact .inr (by omega)
theorem qky {n:Nat} {s:List Int} (h:PermL n s) {x:Nat} (b:x<n):nmI (inv n s) (nmI s (x:Int))=(x:Int):=by
 have a:=qeq h (v:=(x:Int)) (by omega) (by omega);have:nmI (comp s (inv n s)) (x:Int)=nmI (upTo n) (x:Int):=by rw[qcb h]
 rwa [q7v h (by omega) (by omega),q9t (by omega) (by omega)]at this
theorem qkp {n:Nat} {s V a:List Int} (d:PermL n s) (q:V.length=n) (m:a.length=n) (h:∀x,x<n->a[nmAt s x]?=some (nmI s (V.getD x 0))):a=comp (comp (inv n s) V) s:=by
 have c:=q1l d;refine q8c (n:=n) m (by rw[q1y,q1y];exact c.1) fun y p=>?_
 obtain⟨x,f,e⟩:=d.surj p;have i:=h x f;rw[e]at i;have j:nmI a (y:Int)=nmI s (V.getD x 0):=by
  have:=q3q i;unfold nmI at this⊢
  simpa using this
 have g:nmI s (x:Int)=(y:Int):=by rw[<-q27 d f,e]
 have k:(inv n s)[y]?=some (x:Int):=by
  obtain⟨o,-,b⟩:=c.atI (v:=(y:Int)) (by omega) (by omega);rw[<-g,qky d f]at b;rw[g]at b
  simpa using b
 have b:(comp (comp (inv n s) V) s)[y]?=some (nmI s (nmI V (x:Int))):=by
  unfold comp;rw[za2,za2,k];rfl
 rw[j];have:=q3q b;have l:nmI V (x:Int)=V.getD x 0:=by unfold nmI;simp
 rw[l]at this;unfold nmI at this⊢
 simpa using this.symm
theorem qon {n:Nat} {s V c:List Int} (d:PermL n s) (l:c.length=n) {k:Nat} (f:k<n) (h:∀x,x<k->c[nmAt s x]?=some (nmI s (V.getD x 0))):∀x,x<k+1->(c.set (nmAt s k) (nmI s (V.getD k 0)))[nmAt s x]?=some (nmI s (V.getD x 0)):=fun x m=>by
 rw[zcd]
 by_cases e:x=k
 .subst e
  rw[zam rfl,zam (by have:=q37 d f;omega)]
 .rw[zaj fun g=>e ?_]
  .exact h x (by omega)
  .have i:=q27 d (x:=x) (by omega)
   have j:=q27 d f;have:=q6f d (a:=(x:Int)) (b:=(k:Int)) (by omega) (by omega) (by omega) (by omega) (by rw[<-i,<-j,g]);omega
theorem q92 {n:Nat} {s:List Int} (a:PermL n s):InL n (inv n s):=(q1l a).2.1
theorem ql7 {n:Nat} {q:List Int} (c:q.length=n):InL n (kerL q):=fun v a=>by
 obtain⟨y,b,rfl⟩:=zbe.1 a;have:=(zag.1 (q3j b)).1;exact⟨by omega,by omega⟩
theorem qrv {n:Nat} {k:Int} {V s:List Int} (a:PermL n s) (c:InL n V) (b:k=4\/k=6->V.length=n):InL n (rfL k V s):=by
 have d:s.length=n:=a.1;unfold rfL;rw[d]
 split
 .exact q44 a c
 .split
  .exact fun v e=>q3h v e
  .split
   .rename_i h4
    exact ql7 (by rw[q1y];exact(q1l a).1)
   .split
    .rename_i h6
     exact q44 a (q5m (b (.inr h6)) c (q92 a))
    .exact c
def rl (p:List Int) (x y:Nat):Prop:=nmAt p x=nmAt p y
def Cpt (n:Nat) (ops:List OpM) (R:Nat->Nat->Prop):Prop:=∀o∈ops,∀l:List Nat,l.length=o.1.toNat->(∀d∈l,d<n)->∀j,j<o.1.toNat->∀x y,x<n->y<n->R x y->R (nmAt o.2 (idx n (l.set j x))) (nmAt o.2 (idx n (l.set j y)))
structure EqvN (n:Nat) (E:Nat->Nat->Prop):Prop where
 rfl':∀x,x<n->E x x
 sym:∀x y,x<n->y<n->E x y->E y x
 trs:∀x y z,x<n->y<n->z<n->E x y->E y z->E x z
theorem qfg {n:Nat} {p:List Int} (P:ParP n p) {E:Nat->Nat->Prop} (d:EqvN n E) (k:∀x y,x<n->y<n->rl p x y->E x y) {a b:Nat} (e:a<n) (f:b<n) (j:E a b):∀x y,x<n->y<n->rl (uniL p a b) x y->E x y:=fun x y g c h=>by
 unfold rl at h;rw[q6p P g,q6p P c]at h;have:nmAt p x=nmAt p y\/(nmAt p x=nmAt p a/\nmAt p y=nmAt p b)\/(nmAt p x=nmAt p b/\nmAt p y=nmAt p a):=by
  have q:(max (nmAt p a) (nmAt p b)=nmAt p a/\min (nmAt p a) (nmAt p b)=nmAt p b)\/(max (nmAt p a) (nmAt p b)=nmAt p b/\min (nmAt p a) (nmAt p b)=nmAt p a):=by omega
  rcases q with⟨m,o⟩|⟨m,o⟩
  all_goals
   rw[m,o]at h
   split at h<;>split at h<;>omega
 rcases this with i|⟨i,l⟩|⟨i,l⟩
 .exact k x y g c i
 .exact d.trs x a y g e c (k x a g e i) (d.trs a b y e f c j (d.sym y b c f (k y b c f l)))
 .exact d.trs x b y g f c (k x b g f i) (d.trs b a y f e c (d.sym a b e f j) (d.sym y a c e (k y a c e l)))
def UL (n:Nat) (ops:List OpM) (p0 p:List Int):Prop:=(∀x y,x<n->y<n->rl p0 x y->rl p x y)/\∀E,EqvN n E->Cpt n ops E->(∀x y,x<n->y<n->rl p0 x y->E x y)->∀x y,x<n->y<n->rl p x y->E x y
theorem UL.refl (n:Nat) (ops:List OpM) (p:List Int):UL n ops p p:=⟨fun _ _ _ _ h=>h,fun _ _ _ h=>h⟩
theorem qmg {α:Type} {l:List α} {d:Nat} {z:α} (h:l[d]?=some z):l.set d z=l:=by
 apply zcl;intro i;rw[zcd]
 by_cases e:d=i
 .subst e
  rw[zam rfl,zam (zag.1 h).1,h]
 .rw[zaj e]
theorem UL.join {n:Nat} {ops:List OpM} {B p r:List Int} (h:UL n ops B p) (P:ParP n p) (R:ParP n r) (k:∀x y,x<n->y<n->rl r x y->rl p x y) (j:0<n) {o:OpM} (G:o∈ops) (H:OpP n o) {d q x y:Nat} (hd:d<o.1.toNat) (I:q<o.2.length) (K:nmAt o.2 q=x) (m:nmAt o.2 (repI n o.1.toNat r q d)=y) (l:x<n) (t:y<n):UL n ops B (uniL p x y):=by
 refine⟨fun a b w A J=>q8i P w A (h.1 a b w A J),fun E i g v=>qfg P i (h.2 E i g v) l t ?_⟩;have F:(digs n o.1.toNat q).length=o.1.toNat:=q1t _ _ _;obtain⟨z,u⟩:∃z,(digs n o.1.toNat q)[d]?=some z:=⟨_,zae (by omega)⟩;have c:z<n:=q20 j (zaf u);have C:=R.at c;have f:=g o G (digs n o.1.toNat q) F (fun e D=>q20 j D) d hd z (nmAt r z) c (by omega) (h.2 E i g v z (nmAt r z) c (by omega) (k z (nmAt r z) c (by omega) C.2.2.symm));rw[qmg u,q4r j (by rw[<-H.2.2.1];exact I),K]at f;unfold repI at m;rw[zak,u]at m;have s:nmAt o.2 (idx n ((digs n o.1.toNat q).set d (nmAt r z)))=y:=m;rw[s]at f;exact f
def q3n (p q:List Int):Nat->List Int
 |0=>p
 |k+1=>uniL (q3n p q k) k (nmAt q k)
def q69 (p q:List Int):List Int:=q3n p q q.length
def q5c (n:Nat) (p q:List Int):List Int:=(List.range n).map fun i=>((nmAt p i*n+nmAt q i:Nat):Int)
def q4k (p q:List Int):List Int:=kerL (q5c p.length p q)
theorem q4f {n:Nat} {p q:List Int} (P:ParP n p) (Q:ParP n q):∀k,k<=n->ParP n (q3n p q k)
 |0,_=>P
 |k+1,h=>qh6 (q4f P Q k (by omega)) (by omega) (by have:=(Q.at (i:=k) (by omega)).2.1;omega)
theorem qcs {n:Nat} {p q:List Int} (Q:ParP n q):q69 p q=q3n p q n:=by unfold q69;rw[Q.1]
theorem q81 {n:Nat} {p q:List Int} (P:ParP n p) (Q:ParP n q):ParP n (q69 p q):=by rw[qcs Q];exact q4f P Q n (zad _)
theorem qpi {n:Nat} {p:List Int} (P:ParP n p) (d:n<=1000):∀v∈p, -9223372036854775808<=v/\v<=9223372036854775807:=fun v c=>by
 obtain⟨i,a⟩:=zbo c;have b:i<n:=by rw[<-P.1];exact(zag.1 a).1
 have h:=P.at b;rw[a]at h;injection h.1 with h1
 have:=h.2.1;omega
theorem q8a (n:Nat) (p q:List Int):(q5c n p q).length=n:=by simp[q5c]
theorem q6i {n:Nat} {p q:List Int} {k:Nat} (h:k<n):(q5c n p q)[k]?=some ((nmAt p k*n+nmAt q k:Nat):Int):=by
 unfold q5c;rw[za2,zeo h];rfl
theorem qao {n:Nat} {p q:List Int} (P:ParP n p):q4k p q=kerL (q5c n p q):=by unfold q4k;rw[P.1]
theorem qlk {n:Nat} {p q:List Int} (P:ParP n p):(q4k p q).length=n:=by rw[qao P,q9m,q8a]
theorem qm2 {n a b c d:Nat} (g:b<n) (hd:d<n):a*n+b=c*n+d↔a=c/\b=d:=by
 constructor
 .intro h
  have e:(a*n+b) / n=a:=by rw[zfh,Nat.mul_add_div (by omega),Nat.div_eq_of_lt g];omega
  have f:(c*n+d) / n=c:=by rw[zfh,Nat.mul_add_div (by omega),Nat.div_eq_of_lt hd];omega
  rw[h,f]at e;subst e;exact⟨rfl,by omega⟩
 .rintro⟨rfl,rfl⟩;rfl
theorem qof {n:Nat} {p q:List Int} (P:ParP n p) (Q:ParP n q) (d:n<=1000):∀v∈q5c n p q, -9223372036854775808<=v/\v<=9223372036854775807:=fun v b=>by
 unfold q5c at b;obtain⟨i,c,rfl⟩:=zbe.1 b;have a:i<n:=zdd.1 c;have e:=(P.at a).2.1;have f:=(Q.at a).2.1;have g:nmAt p i*n<=1000*1000:=zci (by omega) d;omega
theorem q65 {n:Nat} {l:List Int} (h:InL n l) (a:0<n) (i:Nat):nmAt l i<n/\l.getD i 0=(nmAt l i:Int):=by
 unfold nmAt;rw[zak]
 rcases e:l[i]? with _|v
 .exact⟨a,rfl⟩
 .have:=h v (zaf e)
  exact⟨by show v.toNat<n;omega,by show v=(v.toNat:Int);omega⟩
theorem qpg {n:Nat} {s:List Int} (b:PermL n s) {v:Int} (a:0<=v) (c:v<=(n:Int) - 1):nmI s v=(nmAt s v.toNat:Int):=by
 rw[q27 b (by omega),zen a]
theorem qhw {n:Nat} {s:List Int} (c:PermL n s) {a b:Nat} (g:a<n) (h:b<n) (e:nmAt s a=nmAt s b):a=b:=by
 have d:=q27 c g;have f:=q27 c h;have:=q6f c (a:=a) (b:=b) (by omega) (by omega) (by omega) (by omega) (by rw[<-d,<-f,e]);omega
theorem qkb {n:Nat} {l s:List Int} (d:PermL n s) (c:InL n l) {i:Nat} (hi:i<l.length):nmAt (comp l s) i=nmAt s (nmAt l i):=by
 have h:=c l[i] (zce hi);have a:nmAt l i=(l[i]).toNat:=q1d (zae hi);have b:(comp l s)[i]?=some (nmI s l[i]):=by unfold comp;rw[za2,zae hi];rfl
 rw[q1d b,a,qpg d h.1 h.2];simp
theorem qrl {n:Nat} {s:List Int} (a:PermL n s) {x:Nat} (b:x<n):nmAt (inv n s) (nmAt s x)=x:=by
 have h:=qky a b;rw[<-q27 a b,<-q27 (q1l a) (q37 a b)]at h;omega
theorem qsb {n:Nat} {s:List Int} (a:PermL n s) {x:Nat} (b:x<n):nmAt s (nmAt (inv n s) x)=x:=by
 have:=qdv (q1l a) a b;rw[qno a,qlt b]at this;exact this.symm
theorem qkf {n:Nat} {s l:List Int} (a:PermL n s) (b:InL n l):comp (comp l (inv n s)) s=l:=by
 unfold comp;rw[zfz]
 conv=>rhs;rw[<-List.map_id l]
 refine zec fun v c=>?_
 have h:=b v c;show nmI s (nmI (inv n s) v)=v
 rw[qpg (q1l a) h.1 h.2,<-q27 a (q37 (q1l a) (by omega)),qsb a (by omega)];omega
theorem qhb {n:Nat} {s:List Int} (e:PermL n s):∀ {V W:List Int},InL n V->InL n W->comp V s=comp W s->V=W
 | [], [],_,_,_=>rfl
 | [],b::W,_,_,h=>by cases h
 |a::V, [],_,_,h=>by cases h
 | a :: V, b :: W, hV, hW, h => by
   injection h with h1 h2
   have ha := hV a zaq;have d := hW b zaq;rw [q6f e ha.1 ha.2 d.1 d.2 h1, qhb e (fun v c => hV v (zap _ c)) (fun v c => hW v (zap _ c)) h2]
theorem qbf {n:Nat} {s:List Int} {o:OpM} (a:0<n) (f:PermL n s) (e:OpP n o) {l:List Nat} (c:l.length=o.1.toNat) (hd:∀d∈l,d<n):nmAt (q2l n s o).2 (idx n (l.map (nmAt s)))=nmAt s (nmAt o.2 (idx n l)):=by
 have g:=q7d _ l c hd;have h:=qmb a f e g;unfold toI at h;rw[q4q a _ l c hd]at h;have b:=q65 e.2.2.2 a (idx n l);rw[q1d h,b.2,<-q27 f b.1];simp
theorem qpk {n:Nat} {s:List Int} {ops:List OpM} (a:0<n) (e:PermL n s) (b:∀o∈ops,OpP n o) {c:OpM} (h:c∈ops.map (q2l n s)) {j:Nat} (m:j<c.2.length):
  ∃o∈ops,∃i,i<o.2.length/\c.1=o.1/\c=q2l n s o/\digs n o.1.toNat j=(digs n o.1.toNat i).map (nmAt s)/\nmAt c.2 j=nmAt s (nmAt o.2 i):=by
 obtain⟨o,p,rfl⟩:=zbe.1 h;have f:=b o p;have q:(q2l n s o).2.length=n ^ o.1.toNat:=(q4m e f).2.2.1;rw[q]at m;obtain⟨i,g,rfl⟩:=qin (k:=o.1.toNat) a e m;refine⟨o,p,i,by rw[f.2.2.1];exact g,rfl,rfl,?_,?_⟩
 .unfold toI
  rw[q4q a _ _ (by rw[zbz,q1t])];intro d hd;obtain⟨x,r,rfl⟩:=zbe.1 hd;exact q37 e (q20 a r)
 .have:=qbf a e f (l:=digs n o.1.toNat i) (q1t _ _ _) (fun d hd=>q20 a hd)
  rw[q4r a g]at this;exact this
theorem qp8 (n:Nat) (s:List Int) (ops:List OpM) (v:Int):arF (ops.map (q2l n s)) v=arF ops v:=by
 unfold arF;rw[zak,zak,za2];cases ops[(-1 - v).toNat]?<;>rfl
theorem qq0 (n:Nat) (s:List Int) (ops:List OpM) (v:Int):badV (ops.map (q2l n s)) v=badV ops v:=by unfold badV;rw[zbz]
theorem qhd (n:Nat) (s:List Int) (ops:List OpM):∀(l:List Int) (m:Nat),endT (ops.map (q2l n s)) l m=endT ops l m
 | [],m=>rfl
 | v :: l, m => by
   have e : adV (ops.map (q2l n s)) v = adV ops v := by unfold adV; rw [qp8]
   unfold endT;rw [qq0, e, qhd n s ops l]
theorem q9r (n:Nat) (s:List Int) (ops:List OpM) (t:List Int):q2e (ops.map (q2l n s)) t=q2e ops t:=by unfold q2e endI;rw[qhd]
theorem qka (n:Nat) (s:List Int) (ops:List OpM) (L R:List Int):askB n (ops.map (q2l n s)) L R=askB n ops L R:=by unfold askB;rw[q9r,q9r]
theorem qkm {n:Nat} {s:List Int} {ops:List OpM} {vals:List Int} (c:0<n) (e:PermL n s) (a:∀o∈ops,OpP n o) (f:InL n vals):∀ {l:List Int} {m:Nat},GoodS ops l m->(∀v∈l,v<(vals.length:Int))->evS n (ops.map (q2l n s)) (comp vals s) l=(evS n ops vals l).map (nmAt s)
 | [],_,_,_=>rfl
 | v :: l, m, h, hl => by
   obtain ⟨h0, hb, h1⟩ := h.cons;have i := qkm c e a f h1 fun x g => hl x (zap _ g)
   have t := (h.room (n := n) (vals := vals)).2;have b := qhg c a f h1 fun x g => hl x (zap _ g)
   unfold evS
   by_cases h0v : 0 <= v
   . rw [zam h0v, zam h0v, zcz, i]
     congr 1
     exact qkb e f (by have := hl v zaq; omega)
   . rw [zaj h0v, zaj h0v, zcz, qp8, i, <- List.map_take, <- List.map_drop]
     obtain ⟨o, q, r, j, k, u⟩ := qjm a hb h0v;have p : tbF (ops.map (q2l n s)) v = (q2l n s o).2 := by
       unfold tbF;rw [zak, za2, q];rfl
     congr 1
     have := qbf c e r (l := (evS n ops vals l).take (arF ops v)) (by rw [za9, j]; have := t h0v; omega) fun d hd => b d (zbt hd)
     rw [p, k];exact this
theorem qch {n:Nat} {s:List Int} {ops:List OpM} {vals t:List Int} (f:0<n) (g:PermL n s) (a:∀o∈ops,OpP n o) (i:InL n vals) (h:q2e ops t=true) (c:∀v∈t,v<(vals.length:Int)):evT n (ops.map (q2l n s)) (comp vals s) t=nmAt s (evT n ops vals t):=by
 have b:GoodS ops t 1:=(q28 h).2;unfold evT;rw[qkm f g a i b c];have:=qa4 (n:=n) (vals:=vals) b
 rcases e:evS n ops vals t with _|⟨d,l⟩
 .rw[e]at this;cases this
 .rfl
theorem qa3 {n:Nat} {ops:List OpM} {V W:List Int}:∀ {l:List Int},(∀v∈l,0<=v->V.getD v.toNat 0=W.getD v.toNat 0)->evS n ops V l=evS n ops W l
 | [],_=>rfl
 | v :: l, h => by
   have ih := qa3 (n := n) (ops := ops) (l := l) fun x a => h x (zap _ a)
   unfold evS;rw [ih]
   by_cases h0 : 0 <= v
   . rw [zam h0, zam h0, h v zaq h0]
   . rw [zaj h0, zaj h0]
theorem qie {vars:List Int} {ds:List Nat} {V:List Int} (d:vars.Pairwise (· < ·)) (c:∀v∈vars,0<=v):∀(k:Nat),k<=vars.length->∀j,j<k->(vars.getD j 0).toNat<V.length->(setV vars ds k V).getD (vars.getD j 0).toNat 0=((ds.getD j 0:Nat):Int)
 |0,_,j,hj,_=>absurd hj (by omega)
 | k + 1, hk, j, hj, hl => by
   rw [setV, zak, zcd]
   by_cases e : j = k
   . subst e
     rw [zam rfl, zam (by rw [q8d]; exact hl)];rfl
   . have hjl : j < vars.length := by omega
     have a : k < vars.length := by omega
     have b : ¬ (vars.getD k 0).toNat = (vars.getD j 0).toNat := by
       have f := List.pairwise_iff_getElem.1 d j k hjl a (by omega);have g := c _ (zce hjl);rw [zak, zak, zae hjl, zae a];show ¬ (vars[k]).toNat = (vars[j]).toNat
       omega
     rw [zaj b, <- zak];exact qie d c k (by omega) j (by omega) hl
theorem qhm {n:Nat} {ops:List OpM} {L R:List Int} (f:0<n) (r:q2e ops L=true) (s:q2e ops R=true):q5h n ops L R↔∀V:List Int,V.length=mxV (q35 L R)->InL n V->evT n ops V L=evT n ops V R:=by
 constructor
 .intro h V A u
  have hd:∀d∈(q35 L R).map (fun v=>nmAt V v.toNat),d<n:=fun d hd=>by
   obtain⟨v,-,rfl⟩:=zbe.1 hd;exact(q65 u f _).1
  have x:=q7d (q35 L R).length _ (zbz _) hd;have b:=h _ x;unfold TryP at b;rw[Wb,q4q f _ _ (zbz _) hd]at b;have c:∀ {t:List Int},(t=L\/t=R)->∀v∈t,0<=v->(setV (q35 L R) ((q35 L R).map (fun v=>nmAt V v.toNat)) (q35 L R).length (Wb n (q35 L R) (idx n ((q35 L R).map (fun v=>nmAt V v.toNat))))).getD v.toNat 0=V.getD v.toNat 0:=by
   intro t m v g q;have a:v∈L\/v∈R:=by rcases m with rfl|rfl;exact .inl g;exact .inr g
   have z:v<6:=by
    rcases a with a|a
    .exact(q1v (q2y r v a)).1
    .exact(q1v (q2y s v a)).1
   have y:=q6q r s a;have o:v∈q35 L R:=by
    refine q40.2 ⟨v.toNat,by omega,?_,by omega⟩;rw[zee,zen q|>fun e=>show varM L v.toNat=hasI v L by unfold varM;rw[e],zen q|>fun e=>show varM R v.toNat=hasI v R by unfold varM;rw[e]];exact a.imp q3m.2 q3m.2
   obtain⟨j,k⟩:=zbo o;have l:=(zag.1 k).1;have p:(q35 L R).getD j 0=v:=by rw[zak,k];rfl
   have w:=qie (vars:=q35 L R) (ds:=(q35 L R).map (fun v=>nmAt V v.toNat)) (V:=Wb n (q35 L R) (idx n ((q35 L R).map (fun v=>nmAt V v.toNat)))) (q2t _ _) (fun v g=>(q55 L R v g).1) (q35 L R).length (zad _) j l (by rw[p,qdr];omega);rw[p]at w;rw[w,zak,za2,k,(q65 u f v.toNat).2];rfl
  unfold evT at b⊢;rw[qa3 (c (.inl rfl)),qa3 (c (.inr rfl))]at b;exact b
 .intro h i x
  exact h _ (qdr _ _ _) (qiu f _ _)
theorem q56 {n:Nat} {ops:List OpM} {L R:List Int} (h:askB n ops L R=true):q2e ops L=true/\q2e ops R=true:=by
 unfold askB at h;rw[zal,zal]at h;exact h.1
theorem qnl {n:Nat} {s:List Int} {ops:List OpM} {L R:List Int} (f:0<n) (b:PermL n s) (a:∀o∈ops,OpP n o) (h:q5r n ops L R=true):q5r n (ops.map (q2l n s)) L R=true:=by
 unfold q5r at h⊢;rw[qka];rw[zal]at h⊢;obtain⟨j,p⟩:=h;obtain⟨c,d⟩:=q56 j;refine⟨j,q2h.2 ((qhm f (by rw[q9r];exact c) (by rw[q9r];exact d)).2 fun V l e=>?_)⟩;have q:=(qhm f c d).1 (q2h.1 p) (comp V (inv n s)) (by rw[q1y];exact l) (q44 (q1l b) e);have k:∀ {t:List Int},(t=L\/t=R)->∀v∈t,v<((comp V (inv n s)).length:Int):=fun r v m=>by
  rw[q1y,l];exact q6q c d (by rcases r with rfl|rfl;exact .inl m;exact .inr m)
 have g:=qch f b a (q44 (q1l b) e) c (k (.inl rfl));have i:=qch f b a (q44 (q1l b) e) d (k (.inr rfl));rw[qkf b e]at g i;rw[g,i,q]
theorem qng {n:Nat} {s:List Int} {ops:List OpM} {L R V:List Int} (d:0<n) (f:PermL n s) (a:∀o∈ops,OpP n o) (m:askB n ops L R=true) (h:q3f n ops L R V=true):q3f n (ops.map (q2l n s)) L R (comp V s)=true:=by
 unfold q3f at h⊢;rw[zal,zal,zax,zax,q3e]at h⊢;obtain⟨b,j,l⟩:=h;obtain⟨g,i⟩:=q56 m;refine⟨q44 f b,by rw[q1y];exact j,?_⟩;have c:∀ {t:List Int},(t=L\/t=R)->∀v∈t,v<(V.length:Int):=fun p v k=>by
  rw[j];exact q6q g i (by rcases p with rfl|rfl;exact .inl k;exact .inr k)
 rw[qch d f a b g (c (.inl rfl)),qch d f a b i (c (.inr rfl))];exact fun e=>l (qhw f (qpa d a b g (c (.inl rfl))) (qpa d a b i (c (.inr rfl))) e)
def bls (L:List Bool):List Value:=L.map fun b=>.bool b
theorem q66 {L:List Bool} {y:Nat} (h:y<L.length):(bls L)[y]?=some (.bool (gB L y)):=by unfold bls;rw[za2,qni h];rfl
theorem q7i (L:List Bool) (y:Nat) (b:Bool):(bls L).set y (.bool b)=bls (L.set y b):=by simp[bls,List.map_set]
theorem qq1 (n:Nat):bls (List.replicate n false)=List.replicate n (.bool false):=by simp[bls]
theorem qkw:(Tryz.prog.info? 4).map (fun i=>(i.zero,i.size,i.bytes))=some (some (.bool false),1,1):=by kernel_rfl
theorem qam (w:World) {ops:Array Oper} {d:List Oper} {o:Oper} {a:Act} {Q:Exit->Act->World->Prop} (p:o.guard=none) (l c:Operand) (f:o.op=Op.makeSlice 146 l c)
  (n:Nat) (r:a.eval l=.int .i64 n) (m:a.eval c=.int .i64 n) (b:n<=17592186044416)
  (hK:∀w',w'.ownsRow w.heap.size 4 1 (.slice (some ⟨w.heap.size,0,none⟩) n n) n (bls (List.replicate n false))->w.grownBy w' none->wpList Tryz.prog ops Q d (a.put o.dst (.slice (some ⟨w.heap.size,0,none⟩) n n)) w'):
  wpList Tryz.prog ops Q (o::d) a w:=by
 obtain⟨s,q,g,h,i⟩:=info_parts qkw;refine wpList_make_full w p l c 146 f w.heap.size 4 s (.bool false) 1 Tryz.underlying146 q g h .i64 .i64 n n n r m rfl rfl (by rw[i];omega) (by unfold maxLen;omega) (zad _) ?_;intro w' j k;refine hK w' ?_ k;have e:(madeCells (Value.bool false).cells (n*1)).toList=List.replicate n (.bool false):=by rw[Nat.mul_one];exact toList_madeCells_one (.bool false) n
 rw[qq1,<-e];exact j
theorem qi1 {w:World} {base:Nat} {e:TypeId} {A:Option Addr} {n c k:Nat} {xs:List Value} (h:w.ownsRow base e 1 (.slice A n c) n xs) (s:k<=n):w.ownsRow base e 1 (.slice A k c) k (xs.take k):=by
 obtain⟨q,b⟩:=h;refine⟨by rw[za9];omega,?_⟩
 rcases b with⟨b,r⟩|⟨g,i,a,p,j,l,m,d,f,o⟩
 .left
  injection b with e1 e2 e3
  subst e1;subst e3;obtain rfl:k=0:=by omega
  exact⟨rfl,rfl⟩
 .right
  injection p with e1 e2 e3
  subst e1;subst e3;refine⟨g,_,a,rfl,j,l,by omega,d,f,?_⟩;rw[<-o,List.take_take]
  congr 1
  omega
def OwI (w:World) (L:List Int) (e:Ending) (w':World):Prop:=∃A c,e=.returned (.slice A L.length c)/\w'.ownsRow w.heap.size 3 1 (.slice A L.length c) L.length (ints L)/\Below w.heap.size w w'
theorem qo3 (n:Nat) (M:Nat->Bool) (b:n<=1048576):∀v∈q1m n M, -9223372036854775808<=v/\v<=9223372036854775807:=fun v a=>by
 have:=q3h v a;omega
theorem qbv (A:Option Addr) (n c:Nat) (L:List Bool) (w:World) (h:RdL RB w A n L) (J:n<=1000):
  Calls Tryz.prog 178 #[.slice A n c] w (OwI w (q1m n (gB L))):=by
 have C:=qm w (.cells #[] 3);have t:=zaa h.len
 go_enter Tryz.func178,Tryz.ntmps178
 go_wp2_with fail
 go_loopw [3,4,5,9] (fun s _ _ i wr=>∃(k m:Nat) (g:Option Addr) (j:Nat),k<=n/\i=.int .i64 k/\s=.slice g m j/\m=(q1m k (gB L)).length/\wr.ownsRow w.heap.size 3 1 (.slice g m j) m (ints (q1m k (gB L)))/\Below w.heap.size w wr) (fun _ _ _ i _=>n - (intOf i).toNat)
 case atStart=>exact⟨0,0,some ⟨w.heap.size,0,none⟩,0,zah _,rfl,rfl,rfl,zb7 w #[] 0 (zad _) (zah _) rfl,C⟩
 case round=>
  obtain⟨k,m,g,j,I,rfl,rfl,p,e,d⟩:=hrel;have F:m<=k:=by rw[p];exact q4u k (gB L)
  by_cases hlt:k<n
  .have E:(0:Int)<=(k:Int):=by omega
   have r:(k:Int)<(n:Int):=by omega
   obtain⟨b,o,u,v,rfl,H,rfl,-,x⟩:=(h.next qax d).at hlt;have z:=zaa (q7y x);have l:=zaa (qbu k (gB L));rw[z.out]at l;have a:=zaa p;clear x p
   rcases v with _|_
   .go_wp2_with fail
    go_roundw
    case rel=>exact⟨k+1,m,g,j,by omega,by go_num,rfl,by rw[l.out];simpa using a.out,by rw[l.out];simpa using e,d⟩
    case measure=>simp[intOf];omega
   .have G:=d.size
    go_wp2_with (at_builtin;refine app1 wr rfl _ _ 43 3 rfl (.int .i64 0) 8 za1 q14 rfl (by decide) w.heap.size m j g (ints (q1m k (gB L))) rfl e (.int .i64 (k:Int)) rfl rfl (by omega) (by omega) ?_;intro y B K f D q)
    go_roundw
    case rel=>exact⟨k+1,m+1,y,B,by omega,by go_num,rfl,by rw[l.out];simpa using a.out,by rw[l.out];simpa[ints]using f,d.trans q⟩
    case measure=>simp[intOf];omega
  .have r:¬(k:Int)<(n:Int):=by omega
   obtain rfl:k=n:=by omega
   have a:=zaa p;clear p;go_wp2_with fail;go_ret;exact⟨g,j,by rw[a.out];rfl,by rw[<-a.out];exact e,d⟩
theorem qcn {n y:Nat} {S:List Int} (h:y<n):gB (inL n S) y=hasI (y:Int) S:=by
 refine q7y ?_;unfold inL;rw[za2,zeo h];rfl
theorem qco {n k x:Nat} {S:List Int} (c:S[k]?=some (x:Int)) (a:x<n):(inL n (S.take k)).set x true=inL n (S.take (k+1)):=by
 refine qkq (n:=n) (by rw[zcg,q5s]) (q5s _ _) fun y b=>?_
 rw[qe1 (by rw[q5s];exact a),qcn b,qcn b,zbp,c];rw[zcc]
 by_cases e:y=x
 .subst e;simp[q3m]
 .rw[zaj e,q3m,q3m,zau]
  constructor
  .exact .inl
  .rintro(h|h)
   .exact h
   .simp at h;omega
end Go.Proofs.YtfnmkbpogbekpaaGreatDoor
