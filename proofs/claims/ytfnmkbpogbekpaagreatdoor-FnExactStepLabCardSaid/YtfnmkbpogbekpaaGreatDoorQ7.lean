import Derived.Test.YtfnmkbpogbekpaaGreatDoorQ6
import Derived.Sort.OwnSortedInts
set_option linter.unusedVariables false
set_option linter.unusedSimpArgs false
set_option maxRecDepth 100000
set_option maxHeartbeats 32000000
namespace Go.Proofs.YtfnmkbpogbekpaaGreatDoor
open Go.RowKit
theorem qly {n:Nat} {s Q:List Int} (a:PermL n s) (g:Q.length=n) (h:∀x,x<n->Q[nmAt s x]?=some (x:Int)):Q=inv n s:=by
 refine q9g (n:=n) g (q5g a).1 fun y i=>?_
 obtain⟨x,b,e⟩:=a.surj i;have d:=h x b;have f:nmI s (x:Int)=(y:Int):=by rw[<-q5l a b,e]
 have c:=qng a b;rw[f]at c;rw[c];rw[e]at d;have:=q49 d;unfold nmI at this⊢
 simpa using this
theorem qok {n k:Nat} {s Q:List Int} (c:PermL n s) (j:Q.length=n) (d:k<n) (h:∀x,x<k->Q[nmAt s x]?=some (x:Int)):∀x,x<k+1->(Q.set (nmAt s k) (k:Int))[nmAt s x]?=some (x:Int):=fun x l=>by
 rw[zck]
 by_cases e:x=k
 .subst e
  rw[zao rfl,zao (by have:=qk6 c d;omega)]
 .rw[zaj fun f=>e ?_]
  .exact h x (by omega)
  .have g:=q5l c (x:=x) (by omega)
   have i:=q5l c d;have:=qci c (a:=(x:Int)) (b:=(k:Int)) (by omega) (by omega) (by omega) (by omega) (by rw[<-g,<-i,f]);omega
theorem q56 (n:Nat):List.replicate n (Value.int .i64 0)=ints (List.replicate n 0):=by simp[ints]
theorem q50 {w:World} {base g n c k:Nat} {Q:List Int} (h:w.ownsRow base 3 1 (.slice (some ⟨g,0,none⟩) n c) n (ints Q)) (b:Q.length=n) (a:k<n):∃z,w.cell? ⟨g,k,none⟩=some (.int .i64 z):=by
 refine⟨Q[k]'(by omega),?_⟩;rw[h.cellAt k (by omega)];unfold ints;rw[za6,zae (by omega)];rfl
theorem qfb (A:Option Addr) (n c:Nat) (s:List Int) (w:World) (h:RdL RI w A n s) (C:PermL n s) (S:n<=1000):
  Calls Tryz.prog 151 #[.slice A n c] w (OwI w (inv n s)):=by
 have K:=h.le;have z:=zaa C;have g:Hid ((inv n s).length=n):=(q5g C).1;clear C
 go_enter Tryz.func151,Tryz.ntmps151
 go_wp2_with (at_make;refine q2w w rfl _ _ rfl n rfl rfl (by omega) ?_;intro T d m)
 have l:=(zab w.heap.size w).grown m (zad _) (by simp);rw[q56]at d;clear m
 go_loopw [11] (fun i wr=>∃(k:Nat) (Q:List Int),k<=n/\i=.int .i64 k/\wr.ownsRow w.heap.size 3 1 (.slice (some ⟨w.heap.size,0,none⟩) n n) n (ints Q)/\Hid (Q.length=n)/\Hid (∀x,x<k->Q[nmAt s x]?=some (x:Int))/\Below w.heap.size w wr) (fun i _=>n - (intOf i).toNat)
 case atStart=>exact⟨0,_,zah _,rfl,d,zej ..,(fun x r=>absurd r (by omega)),l⟩
 case round=>
  clear d l;obtain⟨k,Q,R,rfl,a,e,F,f⟩:=hrel
  by_cases hlt:k<n
  .have J:(0:Int)<=(k:Int):=by omega
   have B:(k:Int)<(n:Int):=by omega
   obtain⟨b,o,u,v,rfl,G,⟨rfl,L,M⟩,-,r⟩:=h.at hlt;obtain⟨y,D,E,q⟩:=z.out.at hlt;obtain rfl:v=(y:Int):=by rw[r]at D;injection D
   replace G:=qe f G;have I:=a.frozenAt y;obtain⟨U,P⟩:=q50 a e.out E;have p:=(a.stored y (.int .i64 (k:Int))).1;rw[q2a]at p;have t:Hid (∀x,x<k+1->(Q.set y (k:Int))[nmAt s x]?=some (x:Int)):=by
    have:=qok z.out e.out hlt F.out
    rwa [q]at this
   have j:Hid ((Q.set y (k:Int)).length=n):=by show _=_;rw[zcn];exact e.out
   have N:(0:Int)<=(y:Int):=by omega
   have O:(y:Int)<(n:Int):=by omega
   clear r a D q;go_wp2_with fail
   go_roundw
   case rel=>exact⟨k+1,_,by omega,by go_num,p,j,t,f.setCell (zad _) _⟩
   case measure=>simp[intOf];try omega
  .obtain rfl:k=n:=by omega
   have B:¬(k:Int)<(k:Int):=by omega
   have H:=zaa (qly z.out e.out F.out);go_wp2_with fail;go_ret;exact⟨some ⟨w.heap.size,0,none⟩,k,by rw[g.out];rfl,by rw[g.out,<-H.out];exact a,f⟩
theorem qj1 {V f Q:List Int} (a:Q.length=V.length) (h:∀x,x<V.length->Q[x]?=some (nmI f (V.getD x 0))):Q=comp V f:=by
 apply zcp;intro i;unfold comp;rw[za6]
 by_cases hi:i<V.length
 .rw[h i hi,zae hi,zan,zae hi]
  rfl
 .rw[zbs (by omega),zbs (by omega)]
  rfl
theorem qmt {n k:Nat} {Q:List Int} {F:Nat->Int} (b:Q.length=n) (a:k<n) (h:∀x,x<k->Q[x]?=some (F x)):∀x,x<k+1->(Q.set k (F k))[x]?=some (F x):=fun x c=>by
 rw[zck]
 by_cases e:k=x
 .subst e
  rw[zao rfl,zao (by omega)]
 .rw[zaj e]
  exact h x (by omega)
theorem q35 (A C:Option Addr) (n c m d:Nat) (V f:List Int) (w:World) (h:RdL RI w A n V) (G:RdL RI w C m f) (N:InL m V) (hn:n<=1000):
  Calls Tryz.prog 152 #[.slice A n c,.slice C m d] w (OwI w (comp V f)):=by
 have Y:=h.le;have R:=G.le;have U:=zaa N;have K:=zaa h.len;have T:=zaa G.len;have l:Hid ((comp V f).length=n):=by show _=_;rw[q25];exact h.len
 clear N
 go_enter Tryz.func152,Tryz.ntmps152
 go_wp2_with (at_make;refine q2w w rfl _ _ rfl n rfl rfl (by omega) ?_;intro w1 e s)
 have q:=(zab w.heap.size w).grown s (zad _) (by simp);rw[q56]at e;clear s
 go_loopw [13] (fun i wr=>∃(k:Nat) (Q:List Int),k<=n/\i=.int .i64 k/\wr.ownsRow w.heap.size 3 1 (.slice (some ⟨w.heap.size,0,none⟩) n n) n (ints Q)/\Hid (Q.length=n)/\Hid (∀x,x<k->Q[x]?=some (nmI f (V.getD x 0)))/\Below w.heap.size w wr) (fun i _=>n - (intOf i).toNat)
 case atStart=>exact⟨0,_,zah _,rfl,e,zej ..,(fun x B=>absurd B (by omega)),q⟩
 case round=>
  clear e q;obtain⟨k,Q,hk,rfl,a,g,L,j⟩:=hrel
  by_cases hlt:k<n
  .have X:(0:Int)<=(k:Int):=by omega
   have H:(k:Int)<(n:Int):=by omega
   obtain⟨b,o,u,v,rfl,O,⟨rfl,Z,aa⟩,-,B⟩:=h.at hlt;have I:=U.out v (zaf B);obtain⟨y,rfl⟩:=zam I.1;have J:y<m:=by omega
   obtain⟨b2,o2,u2,z,rfl,r,⟨rfl,ad,ae⟩,-,D⟩:=G.at J;replace O:=qe j O;replace r:=qe j r;have W:=a.frozenAt k;obtain⟨z0,P⟩:=q50 a g.out hlt;have t:=(a.stored k (.int .i64 z)).1;rw[q2a]at t;have M:nmI f (V.getD k 0)=z:=by
    rw[zan,B];unfold nmI;show f.getD (y:Int).toNat 0=z
    rw[za1,zan,D];rfl
   have E:Hid (∀x,x<k+1->(Q.set k z)[x]?=some (nmI f (V.getD x 0))):=by
    have:=qmt (F:=fun x=>nmI f (V.getD x 0)) g.out hlt L.out;simp only[M]at this;exact this
   have p:Hid ((Q.set k z).length=n):=by show _=_;rw[zcn];exact g.out
   have ab:(0:Int)<=(y:Int):=by omega
   have ac:(y:Int)<(m:Int):=by omega
   clear B a D M;go_wp2_with fail
   go_roundw
   case rel=>exact⟨k+1,_,by omega,by go_num,t,p,E,j.setCell (zad _) _⟩
   case measure=>simp[intOf];try omega
  .obtain rfl:k=n:=by omega
   have H:¬(k:Int)<(k:Int):=by omega
   have S:Hid (Q=comp V f):=qj1 (by rw[g.out,K.out]) (by rw[K.out];exact L.out);go_wp2_with fail;go_ret;exact⟨some ⟨w.heap.size,0,none⟩,k,by rw[l.out];rfl,by rw[l.out,<-S.out];exact a,j⟩
theorem qjk {q Q:List Int} (a:Q.length=q.length) (h:∀x,x<q.length->Q[x]?=some ((posN q (q.getD x 0):Nat):Int)):Q=kerL q:=by
 apply zcp;intro i;unfold kerL;rw[za6]
 by_cases hi:i<q.length
 .rw[h i hi,zae hi,zan,zae hi]
  rfl
 .rw[zbs (by omega),zbs (by omega)]
  rfl
def qn5 (w:World) (g k:Nat):Nat:=match w.cell? ⟨g,k,none⟩with|some (.int .i64 y)=>y.toNat|_=>0
theorem qhj {w:World} {g k y:Nat} (h:w.cell? ⟨g,k,none⟩=some (.int .i64 (y:Int))):qn5 w g k=y:=by unfold qn5;rw[h];simp
theorem q8t (A:Option Addr) (n c:Nat) (q:List Int) (w:World) (h:RdL RI w A n q) (hn:n<=1000):
  Calls Tryz.prog 154 #[.slice A n c] w (OwI w (kerL q)):=by
 have hle:=h.le;have X:=zaa h.len;have B:Hid ((kerL q).length=n):=by show _=_;rw[q9c];exact h.len
 go_enter Tryz.func154,Tryz.ntmps154
 go_wp2_with (at_make;refine q2w w rfl _ _ rfl n rfl rfl (by omega) ?_;intro w1 d I)
 have G:=(zab w.heap.size w).grown I (zad _) (by simp);rw[q56]at d;clear I
 go_loopw [10] (fun i wr=>∃(k:Nat) (Q:List Int),k<=n/\i=.int .i64 k/\wr.ownsRow w.heap.size 3 1 (.slice (some ⟨w.heap.size,0,none⟩) n n) n (ints Q)/\Hid (Q.length=n)/\Hid (∀x,x<k->Q[x]?=some ((posN q (q.getD x 0):Nat):Int))/\Below w.heap.size w wr) (fun i _=>n - (intOf i).toNat)
 case atStart=>exact⟨0,_,zah _,rfl,d,zej ..,(fun x l=>absurd l (by omega)),G⟩
 case round=>
  clear d G;obtain⟨k,Q,hk,rfl,a,g,Y,F⟩:=hrel
  by_cases hlt:k<n
  .have hk0:(0:Int)<=(k:Int):=by omega
   have T:(k:Int)<(n:Int):=by omega
   obtain⟨b,o,u,v,rfl,hc,⟨rfl,hv0,hv1⟩,-,l⟩:=h.at hlt;have hfz:=a.frozenAt k;obtain⟨z0,hcz0⟩:=q50 a g.out hlt;have r:=(a.stored k (.int .i64 0)).1;rw[q2a]at r;have Z:=zaa l;have HV:Hid (q.getD k 0=v):=by show _=_;rw[zan,l];rfl
   have T2:Below w.heap.size w (wr.setCell ⟨w.heap.size,k,none⟩ (.int .i64 0)):=F.setCell (zad _) _;have R:Hid (∀y:Nat,∀x,x<k->(Q.set k (y:Int))[x]?=some ((posN q (q.getD x 0):Nat):Int)):=fun y x l=>by
    rw[zck,zaj (by omega)];exact Y.out x l
   clear l a hc;go_wp2_with fail
   go_loopw [28] (fun _ L=>∃y:Nat,y<=k/\L.ownsRow w.heap.size 3 1 (.slice (some ⟨w.heap.size,0,none⟩) n n) n (ints (Q.set k (y:Int)))/\Hid (∀z,z<y->q[z]?≠some v)/\Below w.heap.size w L) (fun _ L=>n - qn5 L w.heap.size k)
   case atStart=>exact⟨0,zah _,r,(fun z hz=>absurd hz (by omega)),T2⟩
   case round=>
    clear r T2;obtain⟨y,hy,a,W,j⟩:=hrel;have V:y<n:=by omega
    obtain⟨uk,t,hck,⟨rfl,-,-⟩,-,s⟩:=(h.next qd j).at' hlt;obtain rfl:t=v:=by rw[Z.out]at s;injection s with e;exact e.symm
    obtain⟨uy,K,hcy,⟨rfl,-,-⟩,-,J⟩:=(h.next qd j).at' V;have p:wr.cell? ⟨w.heap.size,k,none⟩=some (.int .i64 (y:Int)):=by
     rw[a.cellAt k (by omega)];unfold ints;rw[za6,zck,zao rfl,zao (by rw[g.out];exact hlt)];rfl
    have hy0:(0:Int)<=(y:Int):=by omega
    have hy1:(y:Int)<(n:Int):=by omega
    have hfz2:=a.frozenAt k;have HM:=zaa (qhj p);obtain⟨ne,U⟩:∃b,(K !=t)=b:=⟨_,rfl⟩;have C:=zaa U;have m:=zaa J;clear s J;go_wp2_with fail
    go_quiet (fail)
    rcases ne with _|_
    .have N:Hid (K=t):=by have:=C.out;show K=t;simpa using this
     have HP:Hid (posN q (q.getD k 0)=y):=by
      show _=_
      rw[HV.out];exact q8h (by rw[m.out,N.out]) W.out
     have P:Hid (∀x,x<k+1->(Q.set k (y:Int))[x]?=some ((posN q (q.getD x 0):Nat):Int)):=fun x l=>by
      by_cases e:x=k
      .subst e
       rw[zck,zao rfl,zao (by rw[g.out];exact hlt),HP.out]
      .exact R.out y x (by omega)
     have E:Hid ((Q.set k (y:Int)).length=n):=by show _=_;rw[zcn];exact g.out
     go_wp2_with fail
     go_roundw
     case rel=>exact⟨k+1,_,by omega,by go_num,by first|exact a|exact ql a (qc (zab _ _) _),E,P,by first|exact j|exact qc j _⟩
     case measure=>simp[intOf];try omega
    .have D:Hid (¬K=t):=by have:=C.out;show ¬K=t;simpa using this
     have hyk:y≠k:=fun e=>by
      subst e;have:=m.out;rw[Z.out]at this;injection this with this
      exact D.out this.symm
     have f:=(a.stored k (.int .i64 ((y:Int)+1))).1;rw[q2a,List.set_set]at f;have M:Hid (∀z,z<y+1->q[z]?≠some t):=fun z hz=>by
      by_cases e:z=y
      .subst e
       rw[m.out];intro S;injection S with S
       exact D.out S
      .exact W.out z (by omega)
     have H:(wr.setCell ⟨w.heap.size,k,none⟩ (.int .i64 ((y:Int)+1))).cell? ⟨w.heap.size,k,none⟩=some (.int .i64 ((y+1:Nat):Int)):=by
      rw[f.cellAt k (by omega)];unfold ints;rw[za6,zck,zao rfl,zao (by rw[g.out];exact hlt)];show some _=some _
      congr 1
     have O:=zaa (qhj H);have hw64:IntKind.i64.wrap ((y:Int)+1)=(y:Int)+1:=zcg _ (by omega);clear H;go_wp2_with fail
     go_roundw
     case rel=>exact⟨y+1,by omega,by push_cast;first|exact f|exact ql f (qc (zab _ _) _),M,by first|exact j.setCell (zad _) _|exact(qc j _).setCell (zad _) _⟩
     case measure=>
      rw[HM.out];refine Nat.lt_of_le_of_lt (Nat.le_of_eq (zav (fun z=>n - z) (show qn5 _ w.heap.size k=y+1 from O.out))) ?_;show n - (y+1)<n - y
      omega
  .obtain rfl:k=n:=by omega
   have T:¬(k:Int)<(k:Int):=by omega
   have HD:Hid (Q=kerL q):=qjk (by rw[g.out,X.out]) (by rw[X.out];exact Y.out);go_wp2_with fail;go_ret;exact⟨some ⟨w.heap.size,0,none⟩,k,by rw[B.out];rfl,by rw[B.out,<-HD.out];exact a,F⟩
theorem qdr (A:Option Addr) (n c:Nat) (q:List Int) (w:World) (h:RdL RI w A n q) (hn:n<=1000):
  Calls Tryz.prog 119 #[.slice A n c] w (OwI w (kerL q)):=by
 have ac:=h.le;have HL:=zaa h.len;have l:Hid ((kerL q).length=n):=by show _=_;rw[q9c];exact h.len
 have R:=qm w (.cells #[] 3);have Q:=zby (base:=w.heap.size) (e:=3) (size:=1) w #[] 0 (zad _) (zah _) rfl
 go_enter Tryz.func119,Tryz.ntmps119
 go_wp2_with fail
 go_loopw [3,4] (fun s i wr=>∃(k:Nat) (t:Option Addr) (x:Nat),k<=n/\i=.int .i64 k/\s=.slice t k x/\wr.ownsRow w.heap.size 3 1 (.slice t k x) k (ints ((kerL q).take k))/\Below w.heap.size w wr) (fun _ i _=>n - (intOf i).toNat)
 case atStart=>exact⟨0,_,_,zah _,rfl,rfl,Q,R⟩
 case round=>
  clear Q R;obtain⟨k,t,x,hk,rfl,rfl,a,f⟩:=hrel
  by_cases hlt:k<n
  .have ab:(0:Int)<=(k:Int):=by omega
   have M:(k:Int)<(n:Int):=by omega
   obtain⟨b,o,u,v,rfl,X,⟨rfl,ad,ae⟩,-,S⟩:=(h.next qd f).at hlt;have K:=zaa S;have J:=zaa (h.next qd f);clear S;go_wp2_with fail
   go_loopw [5] (fun j T=>∃y:Nat,y<=k/\j=.int .i64 (y:Int)/\Hid (∀z,z<y->q[z]?≠some v)/\T.ownsRow w.heap.size 3 1 (.slice t k x) k (ints ((kerL q).take k))/\Below w.heap.size w T) (fun j _=>n - (intOf j).toNat)
   case atStart=>exact⟨0,zah _,rfl,(fun z G=>absurd G (by omega)),a,f⟩
   case round=>
    clear a f X J;obtain⟨y,hy,rfl,P,a,d⟩:=hrel;have O:y<n:=by omega
    obtain⟨uk,g,Y,⟨rfl,-,-⟩,-,r⟩:=(h.next qd d).at' hlt;obtain rfl:g=v:=by rw[K.out]at r;injection r with e;exact e.symm
    obtain⟨uy,F,Z,⟨rfl,-,-⟩,-,E⟩:=(h.next qd d).at' O;have af:(0:Int)<=(y:Int):=by omega
    have ag:(y:Int)<(n:Int):=by omega
    obtain⟨ne,N⟩:∃b,(F !=g)=b:=⟨_,rfl⟩;have B:=zaa N;have m:=zaa E;have G:=d.size;clear E r;go_wp2_with fail
    go_quiet (fail)
    rcases ne with _|_
    .have I:Hid (F=g):=by have:=B.out;show F=g;simpa using this
     have V:Hid ((kerL q).take (k+1)=(kerL q).take k++ [(y:Int)]):=by
      show _=_
      have:(kerL q)[k]?=some (y:Int):=by
       unfold kerL;rw[za6,K.out];show some ((posN q g:Nat):Int)=_
       rw[q8h (by rw[m.out,I.out]) P.out]
      rw[zbj,this];rfl
     go_wp2_with (at_builtin;refine app1 _ rfl _ _ 43 3 rfl (.int .i64 0) 8 zax q15 rfl (by decide) w.heap.size k x t (ints ((kerL q).take k)) rfl (by first|exact a|exact ql a (qc (zab _ _) _)) (.int .i64 (y:Int)) rfl rfl (by omega) (by first|exact G|(simp;omega)) ?_;intro U W w2 p aa D)
     go_roundw
     case rel=>exact⟨k+1,U,W,by omega,by go_num,rfl,by rw[V.out,q2y];exact p,by first|exact d.trans D|exact(qc d _).trans D⟩
     case measure=>simp[intOf];try omega
    .have C:Hid (¬F=g):=by have:=B.out;show ¬F=g;simpa using this
     have ah:y≠k:=fun e=>by
      subst e;have:=m.out;rw[K.out]at this;injection this with this
      exact C.out this.symm
     have H:Hid (∀z,z<y+1->q[z]?≠some g):=fun z G=>by
      by_cases e:z=y
      .subst e
       rw[m.out];intro L;injection L with L
       exact C.out L
      .exact P.out z (by omega)
     go_wp2_with fail
     go_roundw
     case rel=>exact⟨y+1,by omega,by go_num,H,by first|exact a|exact ql a (qc (zab _ _) _),by first|exact d|exact qc d _⟩
     case measure=>simp[intOf];try omega
  .obtain rfl:k=n:=by omega
   have M:¬(k:Int)<(k:Int):=by omega
   rw[zaq (by rw[l.out];exact zad _)]at a;go_wp2_with fail;go_ret;exact⟨t,x,by rw[l.out];rfl,by rw[l.out];exact a,f⟩
def Apart (v u:Value):Prop:=∀b,v.ownBlock=some b->u.ownBlock≠some b
theorem Apart.symm {v u:Value} (h:Apart v u):Apart u v:=fun b a c=>h b c a
theorem qx {w w':World} {c a d e l m j k:Nat} {v u:Value} {xs n:List Value} (h:w.ownsRow c d l v j xs) (f:w'.ownsRow a e m u k n) (o:w.heap.size<=a):Apart v u:=fun b g i=>by
 have:=(h.lt b g).2;have:=(f.lt b i).1;omega
theorem qy {w:World} {base e size n:Nat} {v:Value} {xs:List Value} {p:Addr} {u:Value} (h:w.ownsRow base e size v n xs) (c:p.block<base):(w.setCell p u).ownsRow base e size v n xs:=
 q2f h fun b a=>zal w p u b (by have:=(h.lt b a).1;omega)
def CeE (w:World) (L R:List Int) (e:Ending) (w':World):Prop:=∃A1 c1 A2 c2,e=.returned (.agg #[.slice A1 L.length c1,.slice A2 R.length c2])/\w'.ownsRow w.heap.size 3 1 (.slice A1 L.length c1) L.length (ints L)/\w'.ownsRow w.heap.size 3 1 (.slice A2 R.length c2) R.length (ints R)/\Apart (.slice A1 L.length c1) (.slice A2 R.length c2)/\Below w.heap.size w w'
theorem qf0 (t:Option Addr) (b F:Nat) (x:Option Addr) (c G:Nat) (L R:List Int) (w:World) (H:RdL RI w t b L) (I:RdL RI w x c R) (h1:b<=1048576) (h2:c<=1048576):
  Calls Tryz.prog 136 #[.agg #[.slice t b F,.slice x c G]] w (CeE w L R):=by
 obtain rfl:L.length=b:=H.len;obtain rfl:R.length=c:=I.len;obtain⟨b,O⟩:∃n,Hid (L.length=n):=⟨_,rfl⟩;obtain⟨c,P⟩:∃n,Hid (R.length=n):=⟨_,rfl⟩;unfold CeE;rw[O.out]at H h1⊢;rw[P.out]at I h2⊢;obtain⟨i,E,V,D,BP,s⟩:=q1p w #[.slice t b F,.slice x c G] #[.slice none 0 0,.slice none 0 0] 55 55;have U:=zaa E;have M:Hid (∀h,Below i.heap.size i h->Calls Tryz.prog 137 #[.slice t b F] h fun e w'=>∃A' c',e=.returned (.slice A' b c')/\w'.ownsRow h.heap.size 3 1 (.slice A' b c') b (ints L)/\Below h.heap.size h w'):=fun h Y=>q43 t b F L h ((H.next qd V).next qd Y) h1
 have N:Hid (∀h,Below i.heap.size i h->Calls Tryz.prog 137 #[.slice x c G] h fun e w'=>∃A' c',e=.returned (.slice A' c c')/\w'.ownsRow h.heap.size 3 1 (.slice A' c c') c (ints R)/\Below h.heap.size h w'):=fun h Y=>q43 x c G R h ((I.next qd V).next qd Y) h2
 obtain⟨y,z⟩:=cl2 BP;obtain⟨A,B⟩:=cl2 s;have hne:w.heap.size+1≠w.heap.size:=by omega
 have a:Below i.heap.size i i:=zab _ _;have o:w.heap.size+1<i.heap.size:=by omega
 have q:=zaa V;clear E D H I
 go_enter Tryz.func136,Tryz.ntmps136
 go_upto_region 1 with fail;rw[<-U.out]
 first|(go_region_law (first|(go_simp;go_at_call 137;(with_reducible refine(M.out _ ?_).mono ?_);(first|exact a|exact zai a|exact qc (zab _ _) _|exact qc a _);rintro e wn ⟨j,l,rfl,d,g⟩;(try (have r:=(qx f d (by first|exact zad _|(simp;omega))).symm));(try replace f:=ql f (by first|exact g|exact(qc (zab _ _) _).trans g));replace d:=qh (base':=i.heap.size) d (by exact a.size);replace a:=q9 (by first|exact a|exact zai a|exact qc (zab _ _) _|exact qc a _) g rfl;have Z:=qe a y;have aa:=qe a z;have ab:=qe a A;have ac:=qe a B;have W:=(s.next a).frozen 0;have X:=(s.next a).frozen 1)|(go_simp;go_at_call 137;(with_reducible refine(N.out _ ?_).mono ?_);(first|exact a|exact zai a|exact qc (zab _ _) _|exact qc a _);rintro e wn ⟨k,m,rfl,f,g⟩;(try (have r:=qx d f (by first|exact zad _|(simp;omega))));(try replace d:=ql d (by first|exact g|exact(qc (zab _ _) _).trans g));replace f:=qh (base':=i.heap.size) f (by exact a.size);replace a:=q9 (by first|exact a|exact zai a|exact qc (zab _ _) _|exact qc a _) g rfl;have Z:=qe a y;have aa:=qe a z;have ab:=qe a A;have ac:=qe a B;have W:=(s.next a).frozen 0;have X:=(s.next a).frozen 1)))|fail
 all_goals
  have BR:=s.next a;have J:Blk ((wn.setCell ⟨w.heap.size+1,0,none⟩ (.slice j b l)).setCell ⟨w.heap.size+1,1,none⟩ (.slice k c m)) (w.heap.size+1) 55 #[.slice j b l,.slice k c m]:=by simpa using(BR.set_ 0 (.slice j b l)).set_ 1 (.slice k c m)
  have Q:=zaa (qy (qy (p:=⟨w.heap.size+1,0,none⟩) (u:=.slice j b l) d o) (p:=⟨w.heap.size+1,1,none⟩) (u:=.slice k c m) o);have S:=zaa (qy (qy (p:=⟨w.heap.size+1,0,none⟩) (u:=.slice j b l) f o) (p:=⟨w.heap.size+1,1,none⟩) (u:=.slice k c m) o);have C:=((q9 q.out a rfl).setCell (p:=⟨w.heap.size+1,0,none⟩) (show w.heap.size<=w.heap.size+1 by omega) (.slice j b l)).setCell (p:=⟨w.heap.size+1,1,none⟩) (show w.heap.size<=w.heap.size+1 by omega) (.slice k c m);have T:=zaa C;have K:=zaa r;clear C r d f BR;go_wp2_with fail
  (try simp only[Exit.inBlock,Exit.then])
  refine zas (v:=.agg #[.slice j b l,.slice k c m]) (zb3 rfl _ _ (w.heap.size+1) 55 #[.slice j b l,.slice k c m] (0,0) _ (by simp) J Tryz.underlying55 rfl (by kernel_rfl)) rfl ?_;exact⟨j,l,k,m,rfl,qh Q.out q.out.size,qh S.out q.out.size,K.out,T.out⟩
def CfE (w:World) (f:q12) (e:Ending) (w':World):Prop:=∃A1 c1 A2 c2 A3 c3,e=.returned (.agg #[.int .i64 f.1,.slice A1 f.2.1.1.length c1,.slice A2 f.2.1.2.length c2,.slice A3 f.2.2.length c3])/\w'.ownsRow w.heap.size 3 1 (.slice A1 f.2.1.1.length c1) f.2.1.1.length (ints f.2.1.1)/\w'.ownsRow w.heap.size 3 1 (.slice A2 f.2.1.2.length c2) f.2.1.2.length (ints f.2.1.2)/\w'.ownsRow w.heap.size 3 1 (.slice A3 f.2.2.length c3) f.2.2.length (ints f.2.2)/\
 Apart (.slice A1 f.2.1.1.length c1) (.slice A2 f.2.1.2.length c2)/\Apart (.slice A1 f.2.1.1.length c1) (.slice A3 f.2.2.length c3)/\Apart (.slice A2 f.2.1.2.length c2) (.slice A3 f.2.2.length c3)/\Below w.heap.size w w'
theorem qdq (t:Option Addr) (b F:Nat) (x:Option Addr) (c G:Nat) (L R:List Int) (w:World) (H:RdL RI w t b L) (I:RdL RI w x c R) (h1:b<=1048576) (h2:c<=1048576):
  Calls Tryz.prog 109 #[.agg #[.slice t b F,.slice x c G]] w (CeE w L R):=by
 obtain rfl:L.length=b:=H.len;obtain rfl:R.length=c:=I.len;obtain⟨b,O⟩:∃n,Hid (L.length=n):=⟨_,rfl⟩;obtain⟨c,P⟩:∃n,Hid (R.length=n):=⟨_,rfl⟩;unfold CeE;rw[O.out]at H h1⊢;rw[P.out]at I h2⊢;obtain⟨i,E,V,D,BP,s⟩:=q1p w #[.slice t b F,.slice x c G] #[.slice none 0 0,.slice none 0 0] 55 55;have U:=zaa E;have M:Hid (∀h,Below i.heap.size i h->Calls Tryz.prog 110 #[.slice t b F] h fun e w'=>∃A' c',e=.returned (.slice A' b c')/\w'.ownsRow h.heap.size 3 1 (.slice A' b c') b (ints L)/\Below h.heap.size h w'):=fun h Y=>q2h t b F L h ((H.next qd V).next qd Y) h1
 have N:Hid (∀h,Below i.heap.size i h->Calls Tryz.prog 110 #[.slice x c G] h fun e w'=>∃A' c',e=.returned (.slice A' c c')/\w'.ownsRow h.heap.size 3 1 (.slice A' c c') c (ints R)/\Below h.heap.size h w'):=fun h Y=>q2h x c G R h ((I.next qd V).next qd Y) h2
 obtain⟨y,z⟩:=cl2 BP;obtain⟨A,B⟩:=cl2 s;have hne:w.heap.size+1≠w.heap.size:=by omega
 have a:Below i.heap.size i i:=zab _ _;have o:w.heap.size+1<i.heap.size:=by omega
 have q:=zaa V;clear E D H I
 go_enter Tryz.func109,Tryz.ntmps109
 go_upto_region 1 with fail;rw[<-U.out]
 first|(go_region_law (first|(go_simp;go_at_call 110;(with_reducible refine(M.out _ ?_).mono ?_);(first|exact a|exact zai a|exact qc (zab _ _) _|exact qc a _);rintro e wn ⟨j,l,rfl,d,g⟩;(try (have r:=(qx f d (by first|exact zad _|(simp;omega))).symm));(try replace f:=ql f (by first|exact g|exact(qc (zab _ _) _).trans g));replace d:=qh (base':=i.heap.size) d (by exact a.size);replace a:=q9 (by first|exact a|exact zai a|exact qc (zab _ _) _|exact qc a _) g rfl;have Z:=qe a y;have aa:=qe a z;have ab:=qe a A;have ac:=qe a B;have W:=(s.next a).frozen 0;have X:=(s.next a).frozen 1)|(go_simp;go_at_call 110;(with_reducible refine(N.out _ ?_).mono ?_);(first|exact a|exact zai a|exact qc (zab _ _) _|exact qc a _);rintro e wn ⟨k,m,rfl,f,g⟩;(try (have r:=qx d f (by first|exact zad _|(simp;omega))));(try replace d:=ql d (by first|exact g|exact(qc (zab _ _) _).trans g));replace f:=qh (base':=i.heap.size) f (by exact a.size);replace a:=q9 (by first|exact a|exact zai a|exact qc (zab _ _) _|exact qc a _) g rfl;have Z:=qe a y;have aa:=qe a z;have ab:=qe a A;have ac:=qe a B;have W:=(s.next a).frozen 0;have X:=(s.next a).frozen 1)))|fail
 all_goals
  have BR:=s.next a;have J:Blk ((wn.setCell ⟨w.heap.size+1,0,none⟩ (.slice j b l)).setCell ⟨w.heap.size+1,1,none⟩ (.slice k c m)) (w.heap.size+1) 55 #[.slice j b l,.slice k c m]:=by simpa using(BR.set_ 0 (.slice j b l)).set_ 1 (.slice k c m)
  have Q:=zaa (qy (qy (p:=⟨w.heap.size+1,0,none⟩) (u:=.slice j b l) d o) (p:=⟨w.heap.size+1,1,none⟩) (u:=.slice k c m) o);have S:=zaa (qy (qy (p:=⟨w.heap.size+1,0,none⟩) (u:=.slice j b l) f o) (p:=⟨w.heap.size+1,1,none⟩) (u:=.slice k c m) o);have C:=((q9 q.out a rfl).setCell (p:=⟨w.heap.size+1,0,none⟩) (show w.heap.size<=w.heap.size+1 by omega) (.slice j b l)).setCell (p:=⟨w.heap.size+1,1,none⟩) (show w.heap.size<=w.heap.size+1 by omega) (.slice k c m);have T:=zaa C;have K:=zaa r;clear C r d f BR;go_wp2_with fail
  (try simp only[Exit.inBlock,Exit.then])
  refine zas (v:=.agg #[.slice j b l,.slice k c m]) (zb3 rfl _ _ (w.heap.size+1) 55 #[.slice j b l,.slice k c m] (0,0) _ (by simp) J Tryz.underlying55 rfl (by kernel_rfl)) rfl ?_;exact⟨j,l,k,m,rfl,qh Q.out q.out.size,qh S.out q.out.size,K.out,T.out⟩
theorem q5a (k:Int) (G:Option Addr) (g cL:Nat) (H:Option Addr) (i cR:Nat) (I:Option Addr) (j cV:Nat) (L R V:List Int) (w:World) (hL:RdL RI w G g L) (hR:RdL RI w H i R) (hV:RdL RI w I j V) (h1:g<=1048576) (h2:i<=1048576) (h3:j<=1048576):
  Calls Tryz.prog 79 #[.agg #[.int .i64 k,.slice G g cL,.slice H i cR,.slice I j cV]] w (CfE w (k,(L,R),V)):=by
 obtain rfl:L.length=g:=hL.len;obtain rfl:R.length=i:=hR.len;obtain rfl:V.length=j:=hV.len;obtain⟨g,J⟩:∃n,Hid (L.length=n):=⟨_,rfl⟩;obtain⟨i,K⟩:∃n,Hid (R.length=n):=⟨_,rfl⟩;obtain⟨j,HNV⟩:∃n,Hid (V.length=n):=⟨_,rfl⟩;unfold CfE;simp only;rw[J.out]at hL h1⊢;rw[K.out]at hR h2⊢;rw[HNV.out]at hV h3⊢;obtain⟨m,X,Z,W,BP,t⟩:=q1p w #[.int .i64 k,.slice G g cL,.slice H i cR,.slice I j cV] #[.int .i64 0,.slice none 0 0,.slice none 0 0,.slice none 0 0] 57 57;have HW0:=zaa X;have HC1:Hid (∀l,Below m.heap.size m l->Calls Tryz.prog 136 #[.agg #[.slice G g cL,.slice H i cR]] l fun e w'=>∃r u s x,e=.returned (.agg #[.slice r g u,.slice s i x])/\w'.ownsRow l.heap.size 3 1 (.slice r g u) g (ints L)/\w'.ownsRow l.heap.size 3 1 (.slice s i x) i (ints R)/\Apart (.slice r g u) (.slice s i x)/\Below l.heap.size l w'):=fun l hz=>by
  have:=qf0 G g cL H i cR L R l ((hL.next qd Z).next qd hz) ((hR.next qd Z).next qd hz) h1 h2;unfold CeE at this;rw[J.out,K.out]at this;exact this
 have HC2:Hid (∀l,Below m.heap.size m l->Calls Tryz.prog 137 #[.slice I j cV] l fun e w'=>∃A' c',e=.returned (.slice A' j c')/\w'.ownsRow l.heap.size 3 1 (.slice A' j c') j (ints V)/\Below l.heap.size l w'):=fun l hz=>q43 I j cV V l ((hV.next qd Z).next qd hz) h3
 obtain⟨M,N,O,P⟩:=cl4 BP;obtain⟨Q,S,T,U⟩:=cl4 t;have hne:w.heap.size+1≠w.heap.size:=by omega
 have a:Below m.heap.size m m:=zab _ _;have B:w.heap.size+1<m.heap.size:=by omega
 have y:=zaa Z;clear X W hL hR hV
 go_enter Tryz.func79,Tryz.ntmps79
 go_upto_region 1 with fail;rw[<-HW0.out]
 first|(go_region_law (first|(go_simp;go_at_call 136;(with_reducible refine(HC1.out _ ?_).mono ?_);(first|exact a|exact zai a|exact qc (zab _ _) _|exact qc a _);rintro e wn ⟨r,u,s,x,rfl,d,f,C,c⟩;(try (have o:=(qx b d (by first|exact zad _|(simp;omega))).symm));(try (have q:=(qx b f (by first|exact zad _|(simp;omega))).symm));(try replace b:=ql b (by first|exact c|exact(qc (zab _ _) _).trans c));replace d:=qh (base':=m.heap.size) d (by exact a.size);replace f:=qh (base':=m.heap.size) f (by exact a.size);replace a:=q9 (by first|exact a|exact zai a|exact qc (zab _ _) _|exact qc a _) c rfl;have xP0:=qe a M;have xP1:=qe a N;have xP2:=qe a O;have xP3:=qe a P;have xR0:=qe a Q;have xR1:=qe a S;have xR2:=qe a T;have xR3:=qe a U;have fR0:=(t.next a).frozen 0;have fR1:=(t.next a).frozen 1;have fR2:=(t.next a).frozen 2;have fR3:=(t.next a).frozen 3)|(go_simp;go_at_call 137;(with_reducible refine(HC2.out _ ?_).mono ?_);(first|exact a|exact zai a|exact qc (zab _ _) _|exact qc a _);rintro e wn ⟨E,F,rfl,b,c⟩;(try (have o:=qx d b (by first|exact zad _|(simp;omega))));(try (have q:=qx f b (by first|exact zad _|(simp;omega))));(try replace d:=ql d (by first|exact c|exact(qc (zab _ _) _).trans c));(try replace f:=ql f (by first|exact c|exact(qc (zab _ _) _).trans c));replace b:=qh (base':=m.heap.size) b (by exact a.size);replace a:=q9 (by first|exact a|exact zai a|exact qc (zab _ _) _|exact qc a _) c rfl;have xP0:=qe a M;have xP1:=qe a N;have xP2:=qe a O;have xP3:=qe a P;have xR0:=qe a Q;have xR1:=qe a S;have xR2:=qe a T;have xR3:=qe a U;have fR0:=(t.next a).frozen 0;have fR1:=(t.next a).frozen 1;have fR2:=(t.next a).frozen 2;have fR3:=(t.next a).frozen 3)))|fail
 all_goals
  have BR:=t.next a;obtain⟨Y,z⟩:∃Y,Hid (Y=(((wn.setCell ⟨w.heap.size+1,0,none⟩ (.int .i64 k)).setCell ⟨w.heap.size+1,1,none⟩ (.slice r g u)).setCell ⟨w.heap.size+1,2,none⟩ (.slice s i x)).setCell ⟨w.heap.size+1,3,none⟩ (.slice E j F)):=⟨_,rfl⟩;have BRR:Blk Y (w.heap.size+1) 57 #[.int .i64 k,.slice r g u,.slice s i x,.slice E j F]:=by rw[z.out];simpa using(((BR.set_ 0 (.int .i64 k)).set_ 1 (.slice r g u)).set_ 2 (.slice s i x)).set_ 3 (.slice E j F)
  have A:∀ {v:Value} {n:Nat} {xs:List Value},wn.ownsRow m.heap.size 3 1 v n xs->Y.ownsRow m.heap.size 3 1 v n xs:=fun h=>by
   rw[z.out];exact qy (qy (qy (qy h (by exact B)) (by exact B)) (by exact B)) (by exact B)
  have HO1:=zaa (A d);have HO2:=zaa (A f);have HO3:=zaa (A b);have HTT:Hid (Below w.heap.size w Y):=by
   show Below _ _ _
   rw[z.out];exact((((q9 y.out a rfl).setCell (p:=⟨w.heap.size+1,0,none⟩) (show w.heap.size<=w.heap.size+1 by omega) _).setCell (p:=⟨w.heap.size+1,1,none⟩) (show w.heap.size<=w.heap.size+1 by omega) _).setCell (p:=⟨w.heap.size+1,2,none⟩) (show w.heap.size<=w.heap.size+1 by omega) _).setCell (p:=⟨w.heap.size+1,3,none⟩) (show w.heap.size<=w.heap.size+1 by omega) _
  have D:=zaa (zap C (zap o q));clear d f b BR C o q A;go_wp2_with fail;rw[<-z.out]
  (try simp only[Exit.inBlock,Exit.then])
  refine zas (v:=.agg #[.int .i64 k,.slice r g u,.slice s i x,.slice E j F]) (zb3 rfl _ _ (w.heap.size+1) 57 #[.int .i64 k,.slice r g u,.slice s i x,.slice E j F] (0,0) _ (by simp) BRR zcr rfl (by kernel_rfl)) rfl ?_;exact⟨r,u,s,x,E,F,rfl,qh HO1.out y.out.size,qh HO2.out y.out.size,qh HO3.out y.out.size,D.out.1,D.out.2.1,D.out.2.2,HTT.out⟩
noncomputable def paA (s:ByteArray):qi:=(parA s).getD (0, [])
noncomputable def paB (s:ByteArray):Bool:=(parA s).isSome
theorem qcj {s:ByteArray} {x:qi} (h:parA s=some x):paA s=x/\paB s=true:=by unfold paA paB;rw[h];exact⟨rfl,rfl⟩
theorem qg0 {s:ByteArray} (h:parA s=none):paA s=(0, [])/\paB s=false:=by unfold paA paB;rw[h];exact⟨rfl,rfl⟩
theorem q7e {s:ByteArray} (h:∀x,GoodA x->s=mk (txA x)->False):paA s=(0, [])/\paB s=false:=qg0 (qec fun x a b=>h x a b)
theorem qlh (w:World):qf.own w [.int .i64 0,.slice none 0 0] (0, []) []:=
 ⟨[.int .i64 0], [.slice none 0 0], [], [],rfl,rfl,⟨_,rfl,⟨rfl,by decide,by decide⟩,rfl⟩,⟨_, [], [],rfl,⟨⟨rfl,.inl ⟨rfl,rfl⟩⟩,rfl,rfl,fun k c x a h=>by simp at h⟩,rfl⟩⟩
theorem q5y {w w':World} {s:ByteArray} (h:paA s=(0, [])/\paB s=false) (a:Below w.heap.size w w'):OwA qf w (paA s) (paB s) (.returned (.tuple #[.agg #[.int .i64 0,.slice none 0 0],.bool false])) w':=by
 rw[h.1,h.2];exact⟨_, [],rfl,qlh w',Iv.nil _ _,a⟩
theorem qo1 {s:ByteArray} {x:qi} (h:GoodA x) (e:s=mk (txA x)):Lib.split (bs s) [59,32]=Lib.itoa x.1::(x.2.map fun o=>q1r [32] (wsT o.2))/\InD x.1/\OpsIs x.1.toNat (x.2.map fun o=>q1r [32] (wsT o.2)) x.2:=by
 rw[e,q85];exact qhu h
theorem qep (s sep:Bs):0<(Lib.split s sep).length:=by
 unfold Lib.split;cases Lib.count s sep with
 |zero=>exact Nat.one_pos
 | succ k =>
   unfold Lib.splitK
   split
   . exact Nat.one_pos
   . simp
theorem qmq {α:Type} {R:World->Value->α->Prop} {w:World} {g o n:Nat} {x:α} {xs:List α} (h:RdL R w (some ⟨g,o,none⟩) (n+1) (x::xs)):RdL R w (some ⟨g,o+1,none⟩) n xs:=by
 obtain⟨a,j,c⟩:=h;refine⟨by simpa using a,by omega,fun k y f=>?_⟩;obtain⟨b,l,v,e,d,i⟩:=c (k+1) y f;injection e with e
 injection e with e1 e2
 subst e1;subst e2;exact⟨_,_,v,rfl,by rw[<-d];congr 2;omega,i⟩
theorem q91 {sep:Bs}:∀(k:Nat) (l:Bs),∀p∈Lib.splitK sep 0 k l,p.length<=l.length
 | 0, l, p, h => by
   rw [Lib.splitK] at h;rw [zcf.1 h];exact zad _
 | k + 1, l, p, h => by
   rw [Lib.splitK] at h
   split at h
   . rw [zcf.1 h]
     exact zad _
   . rcases zbq.1 h with rfl | h
     . rw [za8]; omega
     . have := q91 k _ p h
       rw [zcq] at this;omega
theorem qah {l sep:Bs}:∀p∈Lib.split l sep,p.length<=l.length:=fun p h=>q91 _ _ p h
theorem qmu (l sep:Bs) (h:1<=sep.length):(Lib.split l sep).length<=l.length+2:=by
 have a:=q6z (mk l) (mk sep);rw[q85,q85]at a;rw[<-a,zcv,q86 (mk l) (mk sep) h];have b:Lib.countB (mk l) (mk sep)<=(bs (mk l)).length+1:=Lib.count_le _ _;rw[q85]at b;omega
theorem qp9 {w w':World} {g o n:Nat} {xs:List Bs} (h:RdL RSb w (some ⟨g,o,none⟩) n xs) (f:w'.heap[g]?=w.heap[g]?):RdL RSb w' (some ⟨g,o,none⟩) n xs:=by
 refine⟨h.1,h.2.1,fun k x c=>?_⟩;obtain⟨b,i,v,e,a,d⟩:=h.2.2 k x c;injection e with e
 injection e with e1 e2
 subst e1;subst e2;exact⟨_,_,v,rfl,(zb9 (w:=w) f).trans a,d⟩
theorem OpsIs.nil (n:Nat):OpsIs n [] []:=⟨rfl,fun k p o h=>by simp at h⟩
theorem OpsIs.snoc {n:Nat} {c:List Bs} {ops:List OpM} (h:OpsIs n c ops) {p:Bs} {T:List Int} (f:WsIs (Lib.split p [32]) T):OpsIs n (c++ [p]) (ops++ [(arL n T.length,T)]):=by
 refine⟨by simp[h.1],fun k q o a b=>?_⟩
 by_cases hk:k<c.length
 .rw[zbw hk]at a
  rw[zbw (by rw[<-h.1];exact hk)]at b;exact h.2 k q o a b
 .have d:=(zag.1 a).1
  rw[zbl,List.length_singleton]at d;have e:k=c.length:=by omega
  subst e;rw[za9 (zad _),zc8]at a;rw[h.1,za9 (zad _),zc8]at b;simp at a b;subst a;subst b;exact⟨f,rfl⟩
theorem OpsIs.unique {n:Nat} {d:List Bs} {a b:List OpM} (h:OpsIs n d a) (c:OpsIs n d b):a=b:=by
 apply zcp;intro k
 by_cases hk:k<d.length
 .have f:a[k]?=some (a[k]'(by rw[<-h.1];exact hk)):=zae _
  have g:b[k]?=some (b[k]'(by rw[<-c.1];exact hk)):=zae _;obtain⟨⟨i,-⟩,j⟩:=h.2 k _ _ (zae hk) f;obtain⟨⟨l,-⟩,m⟩:=c.2 k _ _ (zae hk) g;have e:=qd5 (i.symm.trans l);rw[f,g]
  congr 1
  refine Prod.ext ?_ e;rw[j,m,e]
 .rw[zbs (by rw[<-h.1];omega),zbs (by rw[<-c.1];omega)]
theorem WsIs.bad {b:List Bs} {j:Nat} {p:Bs} (a:b[j]?=some p) (e:q34 (mk p)=none):∀T,¬WsIs b T:=fun T h=>by
 obtain⟨c,d⟩:=h;rw[c]at a;unfold wsT at a;rw[za6]at a;cases hv:T[j]? with
 |none=>rw[hv]at a;cases a
 | some v =>
   rw [hv] at a;injection a with a
   have := q39 (d v (zaf hv)) (show mk p = mk (Lib.itoa v) by rw [<- a]);rw [e] at this;cases this
theorem qcm {P:Program} (t e:TypeId) (i:TypeInfo) (A:Option Addr) (n c:Nat) (b:P.underlying t=some (.slice e)) (hi:P.info? e=some i) (d:1<=n) (w:World):
  (Instr.slice t (.slice A n c) (some (.int .i64 1)) none none).run P w=.ok (.slice (if c=1 then A else A.map (·.add (1*i.size))) (n - 1) (c - 1)) w:=by
 have a:(1:Int)<=(n:Int):=by omega
 simp[Instr.slice,run_underlying b,Instr.sliceBounds,run_sliceBound,sizeOf,typeInfo,hi,a]
theorem q95 (s:ByteArray) (w:World) (hs:s.size<=1048576) (ht:TabP w):
  Calls Tryz.prog 44 #[.string s] w (OwA qf w (paA s) (paB s)):=by
 obtain⟨U,hw0,T0,hsz0,BR⟩:=q16 w #[.int .i64 0,.slice none 0 0] 24;have HW0:=zaa hw0;obtain⟨P,HP⟩:∃P,Hid (Lib.split (bs s) [59,32]=P):=⟨_,zaa rfl⟩;have hp0:0<P.length:=by rw[<-HP.out];exact qep _ _
 have HSP:Hid (Calls Tryz.prog 80 #[.string s,.string ⟨#[59,32]⟩] U fun e w'=>e=.returned (.slice (some ⟨U.heap.size,0,none⟩) P.length P.length)/\RdL RSb w' (some ⟨U.heap.size,0,none⟩) P.length P/\Below U.heap.size U w'):=by
  have:=q81 s ⟨#[59,32]⟩ U (by omega) (by decide) (ht.next T0);rw[show bs (⟨#[59,32]⟩:ByteArray)= [59,32]from rfl,HP.out]at this;exact this
 have HTB:Hid (∀F,Below U.heap.size U F->TabP F):=fun F Z=>(ht.next T0).next Z
 have HT0:=zaa T0;obtain⟨p0,f,rfl⟩:∃p f,P=p::f:=by
  rcases P with _|⟨p,f⟩
  .simp at hp0
  .exact⟨p,f,rfl⟩
 rw[za0]at HSP;have hpl:f.length+1<=1048578:=by
  have B:=zav List.length HP.out;rw[za0]at B;have C:(Lib.split (bs s) [59,32]).length=Lib.countB s ⟨#[59,32]⟩+1:=by
   have:=q6z s ⟨#[59,32]⟩;rw[show bs (⟨#[59,32]⟩:ByteArray)= [59,32]from rfl]at this;rw[<-this,zcv,q86 _ _ (by decide)]
  have J:Lib.countB s ⟨#[59,32]⟩<=s.size+1:=Lib.count_le _ _;omega
 have HPS:Hid (∀p∈p0::f,p.length<=1048576):=fun p hp=>by
  rw[<-HP.out]at hp;have B:=qah p hp;have C:(bs s).length=s.size:=rfl;omega
 have HG:Hid (∀x,GoodA x->s=mk (txA x)->p0=Lib.itoa x.1/\f=(x.2.map fun o=>q1r [32] (wsT o.2))/\InD x.1/\OpsIs x.1.toNat f x.2):=fun x B C=>by
  obtain⟨J,h4,R⟩:=qo1 B C;rw[HP.out]at J;injection J with J h6
  exact⟨J,h6,h4,by rw[h6];exact R⟩
 clear hw0 hsz0 ht T0 hp0
 go_enter Tryz.func44,Tryz.ntmps44
 go_upto_region 1 with fail;rw[<-HW0.out];go_wp2_with fail;refine HSP.out.mono ?_;rintro e w1 ⟨rfl,hRP,hb1⟩;have BR1:=BR.next hb1;have hc0:w1.cell? ⟨U.heap.size,0,none⟩=some (.string (mk p0)):=by
  obtain⟨b,o,v,e,hc,Q⟩:=hRP.2.2 0 p0 rfl;injection e with e
  injection e with e1 e2
  subst e1;subst e2;rw[show v=.string (mk p0)from Q]at hc;exact hc
 have hRT:=qmq hRP;have hRPl:(0:Int)<((f.length+1:Nat):Int):=by omega
 have HPI:=zaa (q8x (mk p0) w1 (by have:=HPS.out p0 (za2 ..);rw[q4b];omega) (HTB.out w1 hb1));clear hRP;go_wp2_with fail;refine HPI.out.mono ?_;rintro e g ⟨rfl,hb2⟩;have hb12:=q9 hb1 hb2 rfl;have BR2:=BR1.next hb2;have T2:=q9 HT0.out hb12 rfl;have m:Blk ((g.setCell ⟨w.heap.size,0,none⟩ (.int .i64 0)).setCell ⟨w.heap.size,1,none⟩ (.slice none 0 0)) w.heap.size 24 #[.int .i64 0,.slice none 0 0]:=by simpa using(BR2.set_ 0 (.int .i64 0)).set_ 1 (.slice none 0 0)
 have HNO:Hid ((paA s=(0, [])/\paB s=false)->OwA qf w (paA s) (paB s) (.returned (.tuple #[.agg #[.int .i64 0,.slice none 0 0],.bool false])) ((g.setCell ⟨w.heap.size,0,none⟩ (.int .i64 0)).setCell ⟨w.heap.size,1,none⟩ (.slice none 0 0))):=fun h=>q5y h ((T2.setCell (p:=⟨w.heap.size,0,none⟩) (zad _) _).setCell (p:=⟨w.heap.size,1,none⟩) (zad _) _)
 obtain⟨cR0,cR1,fR0,fR1⟩:=cf2 BR2;have y:=zaa m;clear m;cases Q:q34 (mk p0)with
 | none =>
   have HR := zaa (q3k Q);have V : Hid (paA s = (0, []) /\ paB s = false) := q7e fun x B C => by
     obtain ⟨J, -, h4, -⟩ := HG.out x B C;have := q39 h4 (show mk p0 = mk (Lib.itoa x.1) by rw [J]);rw [Q] at this;cases this
   rw [HR.out.1, HR.out.2];clear Q;go_wp2_with fail
   (try simp only [Exit.inBlock, Exit.then])
   refine zas (v := .tuple #[.agg #[.int .i64 0, .slice none 0 0], .bool false]) (qp rfl _ _ w.heap.size 24 #[.int .i64 0, .slice none 0 0] (0, 0) _ _ (by simp) y.out zb7 rfl (by kernel_rfl) (by simp)) rfl ?_;exact HNO.out V.out
 | some z =>
   have HR := zaa (q7g Q);have Z := q6e.1 Q;have hpz : p0 = Lib.itoa z := q7y Z.2;have HZ : Hid (∀ x, GoodA x -> s = mk (txA x) -> x.1 = z /\ f = (x.2.map fun o => q1r [32] (wsT o.2)) /\ OpsIs z.toNat f x.2 /\ AlgP x) := fun x B C => by
     obtain ⟨J, h4, -, R⟩ := HG.out x B C;rw [hpz] at J;have e := q7t J;subst e;exact ⟨rfl, h4, R, B.1⟩
   have hzb := Z.1;unfold InD at hzb;rw [HR.out.1, HR.out.2];clear Q Z hpz
   by_cases hn1 : z < 1
   . have V : Hid (paA s = (0, []) /\ paB s = false) := q7e fun x B C => by
       obtain ⟨J, -, -, R⟩ := HZ.out x B C;have := R.1;omega
     go_wp2_with fail
     (try simp only [Exit.inBlock, Exit.then])
     refine zas (v := .tuple #[.agg #[.int .i64 0, .slice none 0 0], .bool false]) (qp rfl _ _ w.heap.size 24 #[.int .i64 0, .slice none 0 0] (0, 0) _ _ (by simp) y.out zb7 rfl (by kernel_rfl) (by simp)) rfl ?_;exact HNO.out V.out
   by_cases hn8 : 8 < z
   . have V : Hid (paA s = (0, []) /\ paB s = false) := q7e fun x B C => by
       obtain ⟨J, -, -, R⟩ := HZ.out x B C;have := R.2.1;omega
     go_wp2_with fail
     (try simp only [Exit.inBlock, Exit.then])
     refine zas (v := .tuple #[.agg #[.int .i64 0, .slice none 0 0], .bool false]) (qp rfl _ _ w.heap.size 24 #[.int .i64 0, .slice none 0 0] (0, 0) _ _ (by simp) y.out zb7 rfl (by kernel_rfl) (by simp)) rfl ?_;exact HNO.out V.out
   by_cases hl5 : (5 : Int) < ((f.length + 1 : Nat) : Int)
   . have V : Hid (paA s = (0, []) /\ paB s = false) := q7e fun x B C => by
       obtain ⟨J, h4, -, R⟩ := HZ.out x B C;have := R.2.2.1;have := zav List.length h4;rw [zcv] at this;omega
     go_wp2_with fail
     (try simp only [Exit.inBlock, Exit.then])
     refine zas (v := .tuple #[.agg #[.int .i64 0, .slice none 0 0], .bool false]) (qp rfl _ _ w.heap.size 24 #[.int .i64 0, .slice none 0 0] (0, 0) _ _ (by simp) y.out zb7 rfl (by kernel_rfl) (by simp)) rfl ?_;exact HNO.out V.out
   obtain ⟨n, rfl⟩ : ∃ n : Nat, z = (n : Int) := ⟨z.toNat, by omega⟩;have hn1' : 1 <= n := by omega
   have hn8' : n <= 8 := by omega
   have h1l : (1 : Int) <= ((f.length + 1 : Nat) : Int) := by omega
   go_upto_region 6 with fail;obtain ⟨w3, HW3⟩ : ∃ x, Hid (x = g.alloc (.cells #[.int .i64 n, .slice none 0 0] 24)) := ⟨_, zaa rfl⟩;rw [<- HW3.out];have hb3 : Below g.heap.size g w3 := by rw [HW3.out]; exact qm _ _
   have BA3 : Blk w3 g.heap.size 24 #[.int .i64 n, .slice none 0 0] := by rw [HW3.out]; exact Blk.new _ _ _
   have HRT3 : Hid (RdL RSb g (some ⟨U.heap.size, 1, none⟩) f.length f) := hRT.next q82 hb2;obtain ⟨i0, hi0, -, hi1, -⟩ := info_parts q8c;obtain ⟨A43, HA43⟩ : ∃ A, Hid (A = if f.length + 1 = 1 then some (⟨U.heap.size, 0, none⟩ : Addr) else (some (⟨U.heap.size, 0, none⟩ : Addr)).map (·.add (1 * i0.size))) := ⟨_, zaa rfl⟩;have hsl : ∀ F, (Instr.slice 117 (.slice (some ⟨U.heap.size, 0, none⟩) (f.length + 1) (f.length + 1)) (some (.int .i64 1)) none none).run Tryz.prog F = .ok (.slice A43 f.length f.length) F := fun F => by
     have := qcm (P := Tryz.prog) 117 9 i0 (some ⟨U.heap.size, 0, none⟩) (f.length + 1) (f.length + 1) zfd hi0 (by omega) F;rw [this, HA43.out];rfl
   have HA : Hid (RdL RSb g A43 f.length f) := by
     show RdL _ _ _ _ _
     rw [HA43.out]
     by_cases h0 : f = []
     . subst h0
       exact RdL.nil _ _ _
     . have : ¬ f.length + 1 = 1 := by have := List.length_pos_iff.2 h0; omega
       rw [zaj this, hi1];exact HRT3.out
   clear hi0 hi1
   go_cut [43, 44, 45] from 42 to 45 (fun u43 u44 u45 wx => w3 = wx /\ u44 = .int .i64 (f.length : Int) /\ u45 = .int .i64 0 /\ ∃ A c, u43 = .slice A f.length c /\ RdL RSb g A f.length f)
   case first =>
     go_wp2_with fail;go_meet;exact ⟨rfl, rfl, rfl, A43, f.length, rfl, HA.out⟩
   case rest =>
     obtain ⟨rfl, rfl, rfl, A, c, rfl, hrA⟩ := hcut;have HRA := zaa hrA;have HBR := zaa BR2;have HT2 := zaa T2;have HB12 := zaa hb12;have HPB : Hid (∀ p ∈ f, p.length <= 1048576) := fun p hp => HPS.out p (zaw _ hp)
     have hwz : w.heap.size < g.heap.size := BR2.lt;clear hRT HRT3 hb2 hb12 hb1 BR1 cR0 cR1 fR0 fR1 y HNO HPI HSP hl5 h1l hsl HA HA43 hrA BR2 T2 hRPl hc0;go_wp2_with fail
     go_loopw [45] (fun i wr => ∃ (k : Nat) (d : List OpM) (v : Value) (css : List (List Value)) (bls : List (List Nat)), k <= f.length /\ i = .int .i64 (k : Int) /\ Blk wr g.heap.size 24 #[.int .i64 n, v] /\ PO (g.heap.size + 1) wr v d css bls /\ Hid (OpsIs n (f.take k) d) /\ Below g.heap.size g wr) (fun i _ => f.length - (intOf i).toNat)
     case atStart => exact ⟨0, [], _, [], [], zah _, rfl, BA3, PO.nil _ _, zaa (by rw [zc4]; exact OpsIs.nil _), hb3⟩
     case round =>
       clear BA3 hb3 HW3;obtain ⟨k, d, v, css, bls, hk, rfl, BA, M, HOI, H⟩ := hrel;obtain ⟨l, rfl⟩ : ∃ x : World, x = wr := ⟨_, rfl⟩;have hlo : g.heap.size + 1 <= l.heap.size := BA.lt
       by_cases hlt : k < f.length
       . have hk0 : (0 : Int) <= (k : Int) := by omega
         have hk1 : (k : Int) < (f.length : Int) := by omega
         obtain ⟨bp, op, vp, p, rfl, hcp, hvp, -, hxp⟩ := (HRA.out.next q82 H).at hlt;have hvp' : vp = .string (mk p) := hvp;subst hvp';have hpz := HPB.out p (zaf hxp);have HXP := zaa hxp;obtain ⟨W, HW⟩ : ∃ W, Hid (Lib.split p [32] = W) := ⟨_, zaa rfl⟩;have hWl : W.length <= 1048578 := by rw [<- HW.out]; have := qmu p [32] (by decide); omega
         have HWP : Hid (∀ t ∈ W, t.length <= 1048576) := fun t ht => by
           rw [<- HW.out] at ht;have := qah t ht;omega
         obtain ⟨K, hw5, T5, hsz5, BX5⟩ := q16 l #[.int .i64 0, .slice none 0 0] 122;have HW5 := zaa hw5;have hz5 : l.heap.size < K.heap.size := BX5.lt;have HSW : Hid (Calls Tryz.prog 80 #[.string (mk p), .string ⟨#[32]⟩] K fun e w' => e = .returned (.slice (some ⟨K.heap.size, 0, none⟩) W.length W.length) /\ RdL RSb w' (some ⟨K.heap.size, 0, none⟩) W.length W /\ Below K.heap.size K w') := by
           have := q81 (mk p) ⟨#[32]⟩ K (by rw [q4b]; omega) (by decide) (HTB.out K (q9 HB12.out (H.trans (T5.mono (by omega))) rfl));rw [q85, show bs (⟨#[32]⟩ : ByteArray) = [32] from rfl, HW.out] at this;exact this
         clear hw5 hxp hvp hsz5;go_upto_region 10 with fail;rw [<- HW5.out];go_wp2_with fail;refine HSW.out.mono ?_;rintro e w6 ⟨rfl, hRW, hb6⟩;have BX6 := BX5.next hb6;have hT6 := q9 T5 hb6 rfl;have HRW := zaa hRW;have hz6 := hb6.size;clear T5 hb6 BX5 HSW hRW;go_wp2_with fail
         go_loopw [53] (fun i wr => ∃ (j : Nat) (T : List Int) (A : Option Addr) (c : Nat), j <= W.length /\ i = .int .i64 (j : Int) /\ Blk wr l.heap.size 122 #[.int .i64 0, .slice A j c] /\ wr.ownsRow w6.heap.size 3 1 (.slice A j c) j (ints T) /\ Hid (WsIs (W.take j) T) /\ wr.heap[K.heap.size]? = w6.heap[K.heap.size]? /\ Below l.heap.size l wr /\ w6.heap.size <= wr.heap.size) (fun i _ => W.length - (intOf i).toNat)
         case atStart => exact ⟨0, [], none, 0, zah _, rfl, BX6, World.ownsRow_nil _ _ _ _, zaa ⟨by rw [zc4]; rfl, fun v hv => by cases hv⟩, rfl, hT6, zad _⟩
         case round =>
           clear BX6 hT6;obtain ⟨j, T, At, ct, hj, rfl, BX, S, HWT, hgk, hT, hz7⟩ := hrel
           by_cases hjl : j < W.length
           . have hj0 : (0 : Int) <= (j : Int) := by omega
             have hj1 : (j : Int) < (W.length : Int) := by omega
             obtain ⟨bq, oq, vq, q, e1, hcq, hvq, -, hxq⟩ := (qp9 HRW.out hgk).at hjl;injection e1 with e1
             injection e1 with e1 e2
             subst e1;subst e2;have hvq' : vq = .string (mk q) := hvq;subst hvq';rw [zcm] at hcq;have hqz := HWP.out q (zaf hxq);have HXQ := zaa hxq;have hgo : K.heap.size < w6.heap.size := by
               have := HRW.out.2.2 0 W[0] (zae (by omega));obtain ⟨b, o, v, e, hc, -⟩ := this;injection e with e
               injection e with e1 e2
               subst e1;exact q42 hc
             have HPI2 := zaa (q8x (mk q) wr (by rw [q4b]; omega) (HTB.out wr (q9 HB12.out (H.trans (hT.mono (by omega))) rfl)));clear hxq hvq;go_wp2_with fail;refine HPI2.out.mono ?_;rintro e w7 ⟨rfl, r⟩;have BX7 := BX.next r;have hT7 := q9 hT r rfl;have hown7 := ql S r;have hgk7 : w7.heap[K.heap.size]? = w6.heap[K.heap.size]? := (r.block _ (by omega)).trans hgk;have hz77 := r.size;cases Q : q34 (mk q) with
             | none =>
               have HR := zaa (q3k Q);have V : Hid (paA s = (0, []) /\ paB s = false) := q7e fun x B C => by
                 obtain ⟨J, h4, R, -⟩ := HZ.out x B C;obtain ⟨o, ho⟩ : ∃ o, x.2[k]? = some o := ⟨x.2[k]'(by rw [<- R.1]; exact hlt), zae _⟩;obtain ⟨h6, -⟩ := R.2 k p o HXP.out ho;rw [HW.out] at h6;exact WsIs.bad HXQ.out Q _ h6
               have E : Below g.heap.size g w7 := H.trans (hT7.mono (by omega));have BR7 := HBR.out.below E hwz;obtain ⟨cR0, cR1, fR0, fR1⟩ := cf2 BR7;have m : Blk ((w7.setCell ⟨w.heap.size, 0, none⟩ (.int .i64 0)).setCell ⟨w.heap.size, 1, none⟩ (.slice none 0 0)) w.heap.size 24 #[.int .i64 0, .slice none 0 0] := by simpa using (BR7.set_ 0 (.int .i64 0)).set_ 1 (.slice none 0 0)
               have y := zaa m;have L : Hid (Below w.heap.size w ((w7.setCell ⟨w.heap.size, 0, none⟩ (.int .i64 0)).setCell ⟨w.heap.size, 1, none⟩ (.slice none 0 0))) := ((q9 HT2.out E rfl).setCell (p := ⟨w.heap.size, 0, none⟩) (zad _) _).setCell (p := ⟨w.heap.size, 1, none⟩) (zad _) _;rw [HR.out.1, HR.out.2];clear Q m BR7 hgk hgk7;go_wp2_with fail
               (try simp only [Exit.inBlock, Exit.then])
               refine zas (v := .tuple #[.agg #[.int .i64 0, .slice none 0 0], .bool false]) (qp rfl _ _ w.heap.size 24 #[.int .i64 0, .slice none 0 0] (0, 0) _ _ (by simp) y.out zb7 rfl (by kernel_rfl) (by simp)) rfl ?_;exact q5y V.out L.out
             | some z =>
               have HR := zaa (q7g Q);have Z := q6e.1 Q;have hqz2 : q = Lib.itoa z := q7y Z.2;have hzb := Z.1;unfold InD at hzb;have HWN : Hid (WsIs (W.take (j + 1)) (T ++ [z])) := by
                 refine ⟨?_, fun u hu => ?_⟩
                 . rw [zbj, HXQ.out, HWT.out.1, hqz2]
                   simp [wsT]
                 . rcases zat.1 hu with hu | hu
                   . exact HWT.out.2 u hu
                   . rw [zcf.1 hu]; exact Z.1
               rw [HR.out.1, HR.out.2];obtain ⟨cX0, cX1⟩ := cl2 BX7;have hbase : w6.heap.size <= w7.heap.size := by omega
               clear Q Z hqz2 hgk BX S hT r
               go_wp2_with (at_builtin; refine app1 w7 rfl _ _ 43 3 rfl (.int .i64 0) 8 zax q15 rfl (by decide) w6.heap.size j ct At (ints T) rfl hown7 (.int .i64 z) rfl rfl (by omega) hbase ?_; intro A8 c8 D I hg8 N; have BX8 := BX7.grown hg8 (fun e => q1q hown7 BX7 (by decide) e.symm); have cX81 := BX8.cell 1; have fX81 := BX8.frozen 1; simp at cX81)
               have hgk8 : (D.setCell ⟨l.heap.size, 1, none⟩ (.slice A8 (j + 1) c8)).heap[K.heap.size]? = w6.heap[K.heap.size]? := by
                 rw [zal D ⟨l.heap.size, 1, none⟩ _ K.heap.size (by show _ ≠ l.heap.size; omega)];exact (N.block _ hgo).trans hgk7
               have Y : Below l.heap.size l (D.setCell ⟨l.heap.size, 1, none⟩ (.slice A8 (j + 1) c8)) := (hT7.trans (N.mono (by omega))).setCell (p := ⟨l.heap.size, 1, none⟩) (zad _) _;have BX9 : Blk (D.setCell ⟨l.heap.size, 1, none⟩ (.slice A8 (j + 1) c8)) l.heap.size 122 #[.int .i64 0, .slice A8 (j + 1) c8] := by simpa using BX8.set_ 1 (.slice A8 (j + 1) c8)
               have O := qy (p := ⟨l.heap.size, 1, none⟩) (u := .slice A8 (j + 1) c8) I (by show l.heap.size < w6.heap.size; omega);have hz9 : w6.heap.size <= (D.setCell ⟨l.heap.size, 1, none⟩ (.slice A8 (j + 1) c8)).heap.size := by simp; have := N.size; omega
               go_roundw
               case rel => exact ⟨j + 1, T ++ [z], A8, c8, by omega, by go_num, BX9, by simpa [ints] using O, HWN, hgk8, Y, hz9⟩
               case measure => simp [intOf]; omega
           . obtain rfl : j = W.length := by omega
             have hj1 : ¬ (W.length : Int) < (W.length : Int) := by omega
             have HWF : Hid (WsIs (Lib.split p [32]) T) := by
               show WsIs _ _
               rw [HW.out];have := HWT.out
               rwa [zaq (zad _)] at this
             have htl : T.length = W.length := by
               have := zav List.length HWT.out.1;rw [zaq (zad _), q5x] at this;exact this.symm
             obtain ⟨ar, HAR⟩ : ∃ a, Hid (arL n W.length = a) := ⟨_, zaa rfl⟩;have HAO : Hid (∀ F, Calls Tryz.prog 82 #[.int .i64 (W.length : Int), .int .i64 (n : Int)] F fun e w' => e = .returned (.int .i64 ar) /\ F = w') := fun F => by
               have := qey W.length n F hn8'
               rwa [HAR.out] at this
             have har : -1 <= ar /\ ar <= 3 := by
               rw [<- HAR.out];unfold arL
               split
               . omega
               . split
                 . omega
                 . split
                   . omega
                   . split <;> omega
             have cX0 := BX.cell 0;have cX1 := BX.cell 1;have fX0 := BX.frozen 0;simp at cX0 cX1;obtain ⟨Ao, co, rfl⟩ := qq M.2.1;obtain ⟨D, HW8⟩ : ∃ x, Hid (x = wr.setCell ⟨l.heap.size, 0, none⟩ (.int .i64 ar)) := ⟨_, zaa rfl⟩;have Y : Below l.heap.size l D := by rw [HW8.out]; exact hT.setCell (p := ⟨l.heap.size, 0, none⟩) (zad _) _
             have BX8 : Blk D l.heap.size 122 #[.int .i64 ar, .slice At W.length ct] := by rw [HW8.out]; simpa using BX.set_ 0 (.int .i64 ar)
             have I : D.ownsRow w6.heap.size 3 1 (.slice At W.length ct) W.length (ints T) := by rw [HW8.out]; exact qy (p := ⟨l.heap.size, 0, none⟩) S (by show l.heap.size < w6.heap.size; omega)
             have hsz8 : D.heap.size = wr.heap.size := by rw [HW8.out]; simp
             have BAr := BA.next hT;have cAr := BAr.cell 1;simp at cAr;have BA8 := BA.next Y;have cA1 := BA8.cell 1;have cX81 := BX8.cell 1;simp at cA1 cX81;have hO8 : shOp.own D [.int .i64 ar, .slice At W.length ct] (ar, T) (obl (.slice At W.length ct)) := by
               refine ⟨[.int .i64 ar], [.slice At W.length ct], [], obl (.slice At W.length ct), rfl, rfl, ⟨_, rfl, ⟨rfl, by omega, by omega⟩, rfl⟩, ⟨_, rfl, ?_, ?_, rfl⟩⟩
               . show D.ownsRow 0 3 1 _ T.length _
                 rw [htl];exact qh I (zah _)
               . intro u hu
                 have := HWF.out.2 u hu;unfold InD at this;exact ⟨by omega, by omega⟩
             have hiv8 : Iv l.heap.size D.heap.size (obl (.slice At W.length ct)) := (q76 I).mono (by omega) (zad _);obtain ⟨hvs, HPU⟩ := M.push Y hlo hO8 hiv8;have hol : d.length <= 4 := by
               have := HOI.out.1;rw [za8] at this;omega
             have hl8 : g.heap.size + 1 <= D.heap.size := by have := Y.size; omega
             have HON : Hid (OpsIs n (f.take (k + 1)) (d ++ [(ar, T)])) := by
               show OpsIs _ _ _
               rw [zbj, HXP.out, <- HAR.out, <- htl];exact HOI.out.snoc HWF.out
             have hB28 : Below g.heap.size g D := H.trans (Y.mono (by omega));clear hgk S M BA hO8 hiv8 cA1
             go_wp2_with (first
               | (go_at_call 82; refine (HAO.out _).mono ?_; rintro e w' ⟨rfl, rfl⟩)
               | (at_builtin; go_loud (rw [<- HW8.out]; refine app2 D rfl _ _ 22 122 rfl (.agg #[.int .i64 0, .slice none 0 0]) 32 ze4 q6q rfl (by decide) (g.heap.size + 1) d.length co Ao css.flatten rfl hvs (.int .i64 ar) (.slice At W.length ct) rfl rfl (by rw [hsz8]; rfl) (by omega) hl8 ?_; intro A9 c9 w9 O hg9 hb9; have BA9 := BA8.grown hg9 (fun e => q1q hvs BA8 (by decide) e.symm); have cA91 := BA9.cell 1; have fA91 := BA9.frozen 1; simp at cA91)))
             have PN := (HPU O hg9).far (p := ⟨g.heap.size, 1, none⟩) (by show g.heap.size < g.heap.size + 1; omega) (.slice A9 (d.length + 1) c9);have BA10 : Blk (w9.setCell ⟨g.heap.size, 1, none⟩ (.slice A9 (d.length + 1) c9)) g.heap.size 24 #[.int .i64 n, .slice A9 (d.length + 1) c9] := by simpa using BA9.set_ 1 (.slice A9 (d.length + 1) c9)
             have hB10 : Below g.heap.size g (w9.setCell ⟨g.heap.size, 1, none⟩ (.slice A9 (d.length + 1) c9)) := (hB28.trans (hb9.mono (by omega))).setCell (p := ⟨g.heap.size, 1, none⟩) (zad _) _
             go_roundw
             case rel => exact ⟨k + 1, _, _, _, _, by omega, by go_num, BA10, PN, HON, hB10⟩
             case measure => simp [intOf]; omega
       . obtain rfl : k = f.length := by omega
         have hk1 : ¬ (f.length : Int) < (f.length : Int) := by omega
         have HOF : Hid (OpsIs n f d) := by
           have := HOI.out
           rwa [zaq (zad _)] at this
         obtain ⟨cA0, cA1⟩ := cl2 BA;obtain ⟨Ao, co, rfl⟩ := qq M.2.1;have hral : qf.rd l [.int .i64 (n : Int), .slice Ao d.length co] ((n : Int), d) := qf.ord (M.algO (a := (n : Int)) ⟨by omega, by omega⟩);have HIA := zaa (q5h _ _ l hral);obtain ⟨ab, HAB⟩ : ∃ b, Hid (algB ((n : Int), d) = b) := ⟨_, zaa rfl⟩;rw [HAB.out] at HIA;have HUX : Hid (∀ x, GoodA x -> s = mk (txA x) -> x = ((n : Int), d)) := fun x B C => by
           obtain ⟨J, -, R, -⟩ := HZ.out x B C;exact Prod.ext J ((OpsIs.unique HOF.out R).symm)
         have HARP : Hid (ArP ((n : Int), d)) := fun o ho => by
           obtain ⟨i, hi⟩ := zbh ho;have hil := (zag.1 hi).1;have := HOF.out.2 i _ o (zae (by rw [HOF.out.1]; exact hil)) hi;exact this.2
         rcases ab with _ | _
         . have V : Hid (paA s = (0, []) /\ paB s = false) := q7e fun x B C => by
             have e := HUX.out x B C;have := q40.2 B.1;rw [e, HAB.out] at this;cases this
           go_wp2_with fail;refine HIA.out.mono ?_;rintro e w7 ⟨rfl, r⟩;have E := H.trans (r.mono (by omega));have G := HBR.out.below E hwz;obtain ⟨cR0, cR1, fR0, fR1⟩ := cf2 G;have m : Blk ((w7.setCell ⟨w.heap.size, 0, none⟩ (.int .i64 0)).setCell ⟨w.heap.size, 1, none⟩ (.slice none 0 0)) w.heap.size 24 #[.int .i64 0, .slice none 0 0] := by simpa using (G.set_ 0 (.int .i64 0)).set_ 1 (.slice none 0 0)
           have y := zaa m;have L : Hid (Below w.heap.size w ((w7.setCell ⟨w.heap.size, 0, none⟩ (.int .i64 0)).setCell ⟨w.heap.size, 1, none⟩ (.slice none 0 0))) := ((q9 HT2.out E rfl).setCell (p := ⟨w.heap.size, 0, none⟩) (zad _) _).setCell (p := ⟨w.heap.size, 1, none⟩) (zad _) _;clear m G;go_wp2_with fail
           (try simp only [Exit.inBlock, Exit.then])
           refine zas (v := .tuple #[.agg #[.int .i64 0, .slice none 0 0], .bool false]) (qp rfl _ _ w.heap.size 24 #[.int .i64 0, .slice none 0 0] (0, 0) _ _ (by simp) y.out zb7 rfl (by kernel_rfl) (by simp)) rfl ?_;exact q5y V.out L.out
         . have hAP := q40.1 HAB.out
           have HAP := zaa hAP;have HRAL := zaa hral;obtain ⟨X, HXT⟩ : ∃ X, Hid (mk (txA ((n : Int), d)) = X) := ⟨_, zaa rfl⟩;have HAT : Hid (∀ F, Below l.heap.size l F -> Calls Tryz.prog 83 #[.agg #[.int .i64 (n : Int), .slice Ao d.length co]] F (Bl F (.string X))) := fun F Z => by
             have := q9j [.int .i64 (n : Int), .slice Ao d.length co] ((n : Int), d) F (qf.stab HRAL.out Z.block) HAP.out (HTB.out F (q9 HB12.out (H.trans (Z.mono (by omega))) rfl)).1
             rwa [HXT.out] at this
           clear hAP hral;go_wp2_with fail;refine HIA.out.mono ?_;rintro e w7 ⟨rfl, r⟩;have E := H.trans (r.mono (by omega));have dA0 := qe r cA0;have dA1 := qe r cA1;go_wp2_with fail;refine (HAT.out w7 r).mono ?_;rintro e D ⟨rfl, N⟩;have hb78 := q9 r N rfl;have hT28 : Below g.heap.size g D := H.trans (hb78.mono (by omega));have G := HBR.out.below hT28 hwz;obtain ⟨cR0, cR1, fR0, fR1⟩ := cf2 G
           by_cases he : X = s
           . have hd : (X.toList == s.toList) = true := q36 (q2e.2 he)
             have HGO : Hid (paA s = ((n : Int), d) /\ paB s = true) := qcj (qab ⟨HAP.out, HARP.out⟩ (by rw [HXT.out]; exact he.symm));have eA0 := qe N dA0;have eA1 := qe N dA1;have m : Blk ((D.setCell ⟨w.heap.size, 0, none⟩ (.int .i64 n)).setCell ⟨w.heap.size, 1, none⟩ (.slice Ao d.length co)) w.heap.size 24 #[.int .i64 n, .slice Ao d.length co] := by simpa using (G.set_ 0 (.int .i64 n)).set_ 1 (.slice Ao d.length co)
             have y := zaa m;have L : Hid (Below w.heap.size w ((D.setCell ⟨w.heap.size, 0, none⟩ (.int .i64 n)).setCell ⟨w.heap.size, 1, none⟩ (.slice Ao d.length co))) := ((q9 HT2.out hT28 rfl).setCell (p := ⟨w.heap.size, 0, none⟩) (zad _) _).setCell (p := ⟨w.heap.size, 1, none⟩) (zad _) _;have HPO := zaa (((M.next hb78).far (p := ⟨w.heap.size, 0, none⟩) (by show w.heap.size < g.heap.size + 1; omega) (.int .i64 n)).far (p := ⟨w.heap.size, 1, none⟩) (by show w.heap.size < g.heap.size + 1; omega) (.slice Ao d.length co));clear he m G M;go_wp2_with fail
             (try simp only [Exit.inBlock, Exit.then])
             refine zas (v := .tuple #[.agg #[.int .i64 n, .slice Ao d.length co], .bool true]) (qp rfl _ _ w.heap.size 24 #[.int .i64 n, .slice Ao d.length co] (0, 0) _ _ (by simp) y.out zb7 rfl (by kernel_rfl) (by simp)) rfl ?_;rw [HGO.out.1, HGO.out.2];exact ⟨_, _, rfl, HPO.out.algO ⟨by omega, by omega⟩, HPO.out.2.2.mono (by omega) (zad _), L.out⟩
           . have hd : (X.toList == s.toList) = false := q36 (q72.2 he)
             have V : Hid (paA s = (0, []) /\ paB s = false) := q7e fun x B C => by
               have e := HUX.out x B C;rw [e, HXT.out] at C;exact he C.symm
             have m : Blk ((D.setCell ⟨w.heap.size, 0, none⟩ (.int .i64 0)).setCell ⟨w.heap.size, 1, none⟩ (.slice none 0 0)) w.heap.size 24 #[.int .i64 0, .slice none 0 0] := by simpa using (G.set_ 0 (.int .i64 0)).set_ 1 (.slice none 0 0)
             have y := zaa m;have L : Hid (Below w.heap.size w ((D.setCell ⟨w.heap.size, 0, none⟩ (.int .i64 0)).setCell ⟨w.heap.size, 1, none⟩ (.slice none 0 0))) := ((q9 HT2.out hT28 rfl).setCell (p := ⟨w.heap.size, 0, none⟩) (zad _) _).setCell (p := ⟨w.heap.size, 1, none⟩) (zad _) _;clear he m G;go_wp2_with fail
             (try simp only [Exit.inBlock, Exit.then])
             refine zas (v := .tuple #[.agg #[.int .i64 0, .slice none 0 0], .bool false]) (qp rfl _ _ w.heap.size 24 #[.int .i64 0, .slice none 0 0] (0, 0) _ _ (by simp) y.out zb7 rfl (by kernel_rfl) (by simp)) rfl ?_;exact q5y V.out L.out
theorem qaw {P:Program} (w:World) (t J e:TypeId) (i:TypeInfo) (z:Value) (size bytes:Nat) (K:P.underlying t=some (.slice e)) (hi:P.info? e=some i) (L:i.zero=some z)
  (x:i.size=size) (D:i.bytes=bytes) (I:z.cells.size=size) (A:Option Addr) (n c:Nat) (g:List Value) (q:g.length=n*size)
  (M:(A=none/\n=0/\c=0)\/∃b,A=some b/\∀j v,g[j]?=some v->w.cell? (b.add j)=some v)
  (a:Addr) (m d:Nat) (f:List Value) (B:f.length=m*size) (p:∀j u,f[j]?=some u->w.cell? (a.add j)=some u) (Q:0<m) (E:c<n+m)
  (y:n+m<=maxLen) (k:(n+m)*bytes<=140737488355328):
  ∃v' w',(Builtin.append_ #[t,t] J #[.slice A n c,.slice (some a) m d]).run P w=.ok v' w'/\w'.ownsRow w.heap.size e size v' (n+m) (g++f)/\Below w.heap.size w w':=by
 subst x;subst D;have C:n+m<=9223372036854775807:=by simp only[maxLen]at y;omega
 have r:(g++f).length=(n+m)*i.size:=by rw[zbl,q,B,Nat.add_mul]
 have o:∀(h:Nat),h<n+m->
   (w.drew.alloc (.cells (g.toArray ++ f.toArray ++ Builtin.zeroCells z.cells (grownCap w (n + m) h e - (n + m))) e)).ownsRow w.heap.size e i.size
     (.slice (some ⟨w.heap.size, 0, none⟩) (n + m) (grownCap w (n + m) h e)) (n + m) (g ++ f) /\
   Below w.heap.size w (w.drew.alloc (.cells (g.toArray++f.toArray++Builtin.zeroCells z.cells (grownCap w (n+m) h e - (n+m))) e)):=by
  intro h R;have G:=grownCap_ge w (n+m) h e;have F:grownCap w (n+m) h e<=maxLen:=grownCap_le_maxLen w (n+m) h e y;refine⟨⟨r,.inr ⟨w.heap.size,_,_,rfl,zad _,heap_alloc_new w.drew _,G,F,?_,?_⟩⟩,(zai (zab _ _)).alloc (zad _) _⟩
  .simp only[Array.size_append,List.size_toArray,size_zeroCells,I,q,B,<-Nat.add_mul]
   congr 1
   omega
  .simp only[Array.toList_append,zec]
   rw[<-zec,<-r];exact List.take_left
 rcases M with⟨rfl,rfl,rfl⟩|⟨b,rfl,s⟩
 .have O:g= []:=zdj (by simpa using q)
  subst O;have H:=run_append_nil (P:=P) w t J e i z K hi L a m d f B p (by omega) (by omega) (by have N:=k;simp only[zcm]at N;omega);have l:=o 0 (by omega);simp only[zcm,zch,Array.empty_append]at l⊢;exact⟨_,_,H,l.1,l.2⟩
 .have H:=run_append_grow (P:=P) w t J e i z K hi L b n c g q s a m d f B p E (by omega) (growslice_fits E k)
  have l:=o c E;exact⟨_,_,H,l.1,l.2⟩
theorem qlg {P:Program} (w0:World) {o:Oper} {a:Act} {K:Act->World->Prop} {Q:Exit->Act->World->Prop} (s x:Operand) (t e:TypeId)
  (I:o.op=.call { callee:=.builtin .append,args:= #[s,x],argTypes:= #[t,t] }) (z:Value) (size bytes:Nat)
  (L:P.underlying t=some (.slice e)) (hi:(P.info? e).map (fun i=>(i.zero,i.size,i.bytes))=some (some z,size,bytes)) (D:z.cells.size=size) (r:bytes<=256) (B:0<size)
  (base n c:Nat) (A:Option Addr) (xs:List Value) (J:a.eval s=.slice A n c) (h:w0.ownsRow base e size (.slice A n c) n xs) (g:List Value) (C:g.length=size) (G:∀u∈g,u.oneCell'=true) (M:a.eval x=.slice (some ⟨w0.heap.size,0,none⟩) 1 1)
  (O:n<=1099511627) (l:base<=w0.heap.size)
  (hK:∀A' c' w',w'.ownsRow base e size (.slice A' (n+1) c') (n+1) (xs++g)->w0.grownBy w' (Value.slice A n c).ownBlock->Below base w0 w'->K (a.put o.dst (.slice A' (n+1) c')) w'):
  o.wp P a (w0.alloc (.cells g.toArray e)) K Q:=by
 obtain⟨i,hi,N,p,v⟩:=info_parts hi;have f:(n+1)*bytes<=140737488355328:=zbb (zep (n+1) r) (by omega);refine wp_append_own (w0.alloc (.cells g.toArray e)) s x t I base e i z size bytes L hi N p v D B (.slice A n c) n xs J (h.alloc _) ⟨w0.heap.size,0,none⟩ 1 1 g M (by rw[C];omega) ?_ G (by unfold maxLen;omega) f (by simp;omega) ?_
 .intro j q H
  have m:(w0.alloc (.cells g.toArray e)).cell? ⟨w0.heap.size,j,none⟩=g.toArray[j]?:=(Blk.new w0 e g.toArray).cell j;have F:(⟨w0.heap.size,0,none⟩:Addr).add j=⟨w0.heap.size,j,none⟩:=by
   unfold Addr.add
   split
   .rename_i h0
    rw[h0]
   .simp
  rw[F,m]
  simpa using H
 .intro R w' d b _
  obtain⟨A',c',rfl⟩:=qq d;have E:w0.grownBy w' (Value.slice A n c).ownBlock:=
   ⟨b.os,b.tape,b.output,zbb (by simp) b.size,fun k w y=>(b.block k (by simp;omega) y).trans (Below.heap_alloc w0 _ k w)⟩
  exact hK A' c' w' d E ((zab base w0).grown E l (fun k w=>(h.lt k w).1))
theorem appU {P:Program} (w0:World) {ops:Array Oper} {b:List Oper} {o:Oper} {a:Act} {Q:Exit->Act->World->Prop} (k:o.guard=none) (s x:Operand) (t e:TypeId)
  (v:o.op=.call { callee:=.builtin .append,args:= #[s,x],argTypes:= #[t,t] }) (z:Value) (size bytes:Nat)
  (y:P.underlying t=some (.slice e)) (hi:(P.info? e).map (fun i=>(i.zero,i.size,i.bytes))=some (some z,size,bytes)) (p:z.cells.size=size) (j:bytes<=256) (l:0<size)
  (base n c:Nat) (A:Option Addr) (xs:List Value) (w:a.eval s=.slice A n c) (f:w0.ownsRow base e size (.slice A n c) n xs) (g:List Value) (m:g.length=size) (q:∀u∈g,u.oneCell'=true) (B:a.eval x=.slice (some ⟨w0.heap.size,0,none⟩) 1 1)
  (r:n<=1099511627) (d:base<=w0.heap.size)
  (hK:∀A' c' w',w'.ownsRow base e size (.slice A' (n+1) c') (n+1) (xs++g)->w0.grownBy w' (Value.slice A n c).ownBlock->Below base w0 w'->wpList P ops Q b (a.put o.dst (.slice A' (n+1) c')) w'):
  wpList P ops Q (o::b) a (w0.alloc (.cells g.toArray e)):=
 wpList_plain k fun _ h=>qlg w0 s x t e v z size bytes y hi p j l base n c A xs w f g m q B r d fun A' c' w' C D E=>h _ _ (hK A' c' w' C D E)
theorem q83 {P:Program} (w0:World) {ops:Array Oper} {o:Oper} {a:Act} {K:Act->World->Prop} {Q:Exit->Act->World->Prop} {E:Prop} (h:o.guard=none) (s x:Operand) (t e:TypeId)
  (q:o.op=.call { callee:=.builtin .append,args:= #[s,x],argTypes:= #[t,t] }) (z:Value) (size bytes:Nat)
  (v:P.underlying t=some (.slice e)) (hi:(P.info? e).map (fun i=>(i.zero,i.size,i.bytes))=some (some z,size,bytes)) (l:z.cells.size=size) (g:bytes<=256) (j:0<size)
  (base n c:Nat) (A:Option Addr) (xs:List Value) (r:a.eval s=.slice A n c) (d:w0.ownsRow base e size (.slice A n c) n xs) (f:List Value) (k:f.length=size) (m:∀u∈f,u.oneCell'=true) (y:a.eval x=.slice (some ⟨w0.heap.size,0,none⟩) 1 1)
  (p:n<=1099511627) (b:base<=w0.heap.size)
  (hK:∀A' c' w',w'.ownsRow base e size (.slice A' (n+1) c') (n+1) (xs++f)->w0.grownBy w' (Value.slice A n c).ownBlock->Below base w0 w'->K (a.put o.dst (.slice A' (n+1) c')) w'):
  if Region.wanted o (yielded ops a.tmps)=true then Oper.wp P o a (w0.alloc (.cells f.toArray e)) K Q else E:=by
 have w:Region.wanted o (yielded ops a.tmps)=true:=by simp[Region.wanted,h]
 rw[zao w];exact qlg w0 s x t e q z size bytes v hi l g j base n c A xs r d f k m y p b hK
def NoE {α:Type} (S:Sh α) (E:TypeId):Prop:=∀ {w:World} {c:List Value} {x:α} {bk:List Nat},S.own w c x bk->∀ {b:Nat},b∈bk->∃cur t fr,w.heap[b]?=some (.cells cur t fr)/\t≠E
def PG {α:Type} (S:Sh α) (m:Nat) (E:TypeId) (lo:Nat) (w:World) (v:Value) (xs:List α) (css:List (List Value)) (bls:List (List Nat)):Prop:=
 Parts S E w v xs css bls/\w.ownsRow lo E m v xs.length css.flatten/\Iv lo w.heap.size (obl v++bls.flatten)
section
variable {α:Type} {S:Sh α} {m:Nat} {E:TypeId} {lo:Nat} {w:World} {v:Value} {xs:List α} {css:List (List Value)} {bls:List (List Nat)}
theorem PG.nil (S:Sh α) (m:Nat) (E:TypeId) (lo:Nat) (w:World):PG S m E lo w (.slice none 0 0) [] [] []:=
 ⟨⟨⟨by simp,.inl ⟨rfl,rfl⟩⟩,rfl,rfl,fun k c x a h=>by simp at h⟩,⟨by simp,.inl ⟨rfl,rfl⟩⟩,Iv.nil _ _⟩
theorem PG.next {w':World} (h:PG S m E lo w v xs css bls) (a:Below w.heap.size w w'):PG S m E lo w' v xs css bls:=
 ⟨h.1.same fun b c=>a.block b (h.1.lt b c),ql h.2.1 a,h.2.2.mono (zad _) a.size⟩
theorem PG.same {w':World} (h:PG S m E lo w v xs css bls) (d:w.heap.size<=w'.heap.size) (a:∀b∈obl v++bls.flatten,w'.heap[b]?=w.heap[b]?):PG S m E lo w' v xs css bls:=
 ⟨h.1.same a,q2f h.2.1 fun b c=>a b (zba _ (q1h.2 c)),h.2.2.mono (zad _) d⟩
theorem PG.far (h:PG S m E lo w v xs css bls) {p:Addr} (c:p.block<lo) (u:Value):PG S m E lo (w.setCell p u) v xs css bls:=
 h.same (by simp) fun b a=>zal w p u b (fun e=>by have:=(h.2.2.2 b a).1;omega)
theorem PG.mono {lo':Nat} (h:PG S m E lo w v xs css bls) (a:lo'<=lo):PG S m E lo' w v xs css bls:=⟨h.1,qh h.2.1 a,h.2.2.mono a (zad _)⟩
theorem PG.rd (h:PG S m E lo w v xs css bls):∃B c,v=.slice B xs.length c/\RdN S.m S.rd w B xs.length xs:=h.1.rd
theorem PG.fresh (h:PG S m E lo w v xs css bls) {n:World} (L:w.heap.size<=n.heap.size) {y:Value} {i:List α} {d:List (List Value)} {c:List (List Nat)} (o:NoE S E) (f:n.ownsRow lo E m y i.length d.flatten) (l:Parts S E n y i d c) (t:c.flatten.Nodup)
  (s:∀b∈c.flatten,lo<=b):PG S m E lo n y i d c:=by
 refine⟨l,f,?_,fun b j=>?_⟩
 .rw[zbf]
  refine⟨qk7 _,t,fun a F b q e=>?_⟩;subst e;obtain⟨C,K,G⟩:=q5t f F;obtain⟨B,r,p⟩:=zbp.1 q;obtain⟨k,A⟩:=zbh r;have H:=(zag.1 A).1;have I:=l.l1;have J:=l.l2;have x:=l.el k _ _ B (zae (by omega)) (zae (by omega)) A;obtain⟨z,M,D,g,u⟩:=o x p;rw[G]at g;injection g with g
  injection g with _ h5
  exact absurd h5.symm u
 .rcases zat.1 j with j|j
  .exact f.lt b (q1h.1 j)
  .exact⟨s b j,l.lt b (zay _ j)⟩
theorem PG.push (h:PG S m E lo w v xs css bls) (z:NoE S E) (K:S.m=m) {i:World} (I:Below w.heap.size w i) (J:lo<=w.heap.size) {c:List Value} {x:α} {n:List Nat} (L:S.own i c x n) (f:Iv w.heap.size i.heap.size n):
  i.ownsRow lo E m v xs.length css.flatten/\∀ {w2:World} {v':Value},w2.ownsRow lo E m v' (xs.length+1) (css.flatten++c)->i.grownBy w2 v.ownBlock->PG S m E lo w2 v' (xs++ [x]) (css++ [c]) (bls++ [n]):=by
 subst K;have t:=h.next I;refine⟨t.2.1,fun {w2 v'} g A=>?_⟩;have s:=zbf.1 h.2.2.1;have y:∀b,b∈bls.flatten->w2.heap[b]?=i.heap[b]?:=fun b d=>A.block b (t.2.2.2 b (zay _ d)).2 fun e=>s.2.2 b (q1h.2 e.symm) b d rfl
 have p:∀b,b∈n->w2.heap[b]?=i.heap[b]?:=fun b d=>A.block b (f.2 b d).2 fun e=>by
  have D:=(h.2.2.2 b (zba _ (q1h.2 e.symm))).2;have F:=(f.2 b d).1;omega
 have q:=h.1.l1;have r:=h.1.l2;have G:Parts S E w2 v' (xs++ [x]) (css++ [c]) (bls++ [n]):=by
  refine⟨?_,by simp[q],by simp[r],fun k C M u o j l=>?_⟩
  .rw[zbl,zbv,List.flatten_singleton]
   exact qh g (zah _)
  .by_cases hk:k<xs.length
   .rw[zbw (by omega)]at o j l
    exact S.osame (t.1.el k C M u o j l) fun b d=>y b (zbp.2 ⟨_,zaf l,d⟩)
   .have B:k=xs.length:=by
     have:=(zag.1 j).1;simp at this;omega
    subst B;rw[za9 (by omega)]at o j l;simp[q,r]at o j l;subst o;subst j;subst l;exact S.osame L p
 refine t.fresh A.size z (by rw[zbl,zbv];simpa using g) G ?_ fun b d=>?_
 .rw[zbv,zbf]
  refine⟨s.2.1,by simpa using f.1,fun a H b d e=>?_⟩;simp at d;subst e;have D:=(h.2.2.2 a (zay _ H)).2;have F:=(f.2 a d).1;omega
 .rw[zbv,zat]at d
  rcases d with d|d
  .exact(h.2.2.2 b (zay _ d)).1
  .have:=f.2 b (by simpa using d)
   omega
theorem q3x {β:Type} {l:List (List β)} {k:Nat} (a:k<l.length):l.flatten=(l.take k).flatten++(l[k]++(l.drop (k+1)).flatten):=by
 conv=>lhs;rw[<-zcw k l,zbv,zbd a,zc5]
theorem qaf {β:Type} {l:List β} {k:Nat} (a:k<l.length) (x:β):l.set k x=l.take k++x::l.drop (k+1):=by
 rw[List.set_eq_take_append_cons_drop,zao a]
theorem qls {l:List (List Value)} {k m:Nat} (a:∀c∈l,c.length=m) (d:k<l.length) {c:List Value} (f:c.length=m):q3o l.flatten (k*m) c=(l.set k c).flatten:=by
 have g:(l.take k).flatten.length=k*m:=by
  rw[q2x fun e b=>a e (zbu b),za8,zeg (by omega)]
 rw[q3x d,qaf d,zbv,zc5,<-g];exact qbh _ _ _ _ (by rw[f,a _ (zcu d)])
theorem PG.put (h:PG S m E lo w v xs css bls) (G:NoE S E) (D:S.m=m) {l:World} (V:Below w.heap.size w l) {k g n s:Nat} (R:v=.slice (some ⟨g,0,none⟩) n s) (hk:k<xs.length) {c:List Value} {x:α} {A:List Nat} (Q:S.own l c x A) (f:Iv w.heap.size l.heap.size A) (X:lo<=w.heap.size):
  PG S m E lo (q3a l g (k*m) c) v (xs.set k x) (css.set k c) (bls.set k A):=by
 subst D;have t:=h.next V;have J:=h.1.l1;have K:=h.1.l2;have H:=S.rd_len (S.ord Q);have N:n=xs.length:=by
  obtain⟨B,P,e⟩:=qq h.2.1;rw[R]at e;injection e
 subst N;subst R;obtain⟨p,u⟩:=q3g c (k*S.m) t.2.1;rw[qls t.1.all (by omega) H]at p;have W:=(h.2.2.2 g (zba _ (q1h.2 rfl))).2;have I:=qch h.2.2.1 (g:=g) rfl;have y:=(zbf.1 h.2.2.1).2.1;have i:∀b,b≠g->b<l.heap.size->(q3a l g (k*S.m) c).heap[b]?=l.heap[b]?:=fun b M L=>u.block b L (by simpa using M)
 have U:Parts S E (q3a l g (k*S.m) c) (.slice (some ⟨g,0,none⟩) xs.length s) (xs.set k x) (css.set k c) (bls.set k A):=by
  refine⟨by rw[zcn];exact qh p (zah _),by simp[J],by simp[K],fun j P Z F q r o=>?_⟩
  by_cases hj:k=j
  .subst hj
   rw[zfc (by omega)]at q r o;injection q with q
   injection r with r
   injection o with o
   subst q;subst r;subst o;exact S.osame Q fun b d=>i b (fun e=>by have:=(f.2 b d).1;omega) (f.2 b d).2
  .rw[List.getElem?_set_ne hj]at q r o
   refine S.osame (t.1.el j P Z F q r o) fun b d=>?_
   have D:b∈bls.flatten:=zbp.2 ⟨_,zaf o,d⟩;exact i b (fun e=>I (e ▸ D)) (t.2.2.2 b (zay _ D)).2
 refine t.fresh u.size G (by rw[zcn];exact p) U ?_ fun b d=>?_
 .rw[qaf (by omega),zbv,zc5]
  rw[q3x (show k<bls.length by omega)]at y;have O:=zbf.1 y;have Y:=zbf.1 O.2.1;have z:∀b,b∈(bls.take k).flatten\/b∈(bls.drop (k+1)).flatten->b<w.heap.size:=fun b d=>by
   have:b∈bls.flatten:=by
    rw[q3x (show k<bls.length by omega),zat,zat]
    rcases d with d|d
    .exact .inl d
    .exact .inr (.inr d)
   exact(h.2.2.2 b (zay _ this)).2
  rw[zbf,zbf];refine⟨O.1,⟨f.1,Y.2.1,fun a C b d e=>?_⟩,fun a C b d e=>?_⟩
  .subst e
   have:=(f.2 a C).1;have:=z a (.inr d);omega
  .subst e
   rcases zat.1 d with d|d
   .have:=(f.2 a d).1
    have:=z a (.inl C);omega
   .exact O.2.2 a C a (zay _ d) rfl
 .rw[qaf (by omega),zbv,zc5,zat,zat]at d
  have T:∀b,b∈bls.flatten->lo<=b:=fun b d=>(h.2.2.2 b (zay _ d)).1
  rcases d with d|d|d
  .exact T b (by rw[q3x (show k<bls.length by omega)];exact zba _ d)
  .have:=(f.2 b d).1;omega
  .exact T b (by rw[q3x (show k<bls.length by omega)];exact zay _ (zay _ d))
theorem qke {base size:Nat} {e:TypeId} {A:Option Addr} {n c k:Nat} {i:List Value} (h:w.ownsRow base e size (.slice A n c) n i) (p:k<=n):w.ownsRow base e size (.slice A k c) k (i.take (k*size)):=by
 obtain⟨l,b⟩:=h;have q:=zdw size p;refine⟨by rw[za8,l];omega,?_⟩
 rcases b with⟨b,u⟩|⟨g,j,a,t,m,o,r,d,f,s⟩
 .left
  injection b with e1 e2 e3
  subst e1;subst e3;obtain rfl:k=0:=by omega
  exact⟨rfl,rfl⟩
 .right
  injection t with e1 e2 e3
  subst e1;subst e3;refine⟨g,_,a,rfl,m,o,by omega,d,f,?_⟩;rw[<-s,List.take_take]
  congr 1
  omega
theorem q9n {l:List (List Value)} {k m:Nat} (a:∀c∈l,c.length=m) (f:k<=l.length):l.flatten.take (k*m)=(l.take k).flatten:=by
 have e:(l.take k).flatten.length=k*m:=by
  rw[q2x fun d b=>a d (zbu b),za8,zeg (by omega)]
 conv=>lhs;rw[<-zcw k l,zbv]
 rw[<-e,List.take_left]
theorem qde {l:List (List Value)} {k m:Nat} (a:∀c∈l,c.length=m) (f:k<=l.length):l.flatten.drop (k*m)=(l.drop k).flatten:=by
 have e:(l.take k).flatten.length=k*m:=by
  rw[q2x fun d b=>a d (zbu b),za8,zeg (by omega)]
 conv=>lhs;rw[<-zcw k l,zbv]
 rw[<-e,List.drop_left]
theorem PG.take {A:Option Addr} {n c k:Nat} (h:PG S m E lo w (.slice A n c) xs css bls) (G:S.m=m) (F:k<=xs.length):PG S m E lo w (.slice A k c) (xs.take k) (css.take k) (bls.take k):=by
 subst G;have u:=h.1.l1;have v:=h.1.l2;have y:n=xs.length:=by
  obtain⟨B,z,e⟩:=qq h.2.1;injection e
 subst y;have x:=qke h.2.1 F;rw[q9n h.1.all (by omega)]at x;have l:∀b,b∈(bls.take k).flatten->b∈bls.flatten:=fun b d=>by
  obtain⟨C,t,s⟩:=zbp.1 d;exact zbp.2 ⟨C,zbu t,s⟩
 have g:(xs.take k).length=k:=by rw[za8];omega
 have i:∀b,b∈obl (Value.slice A k c)->b∈obl (Value.slice A xs.length c):=fun b d=>by
  rw[q1h]at d⊢;cases A with
  |none=>simp[Value.ownBlock]at d
  |some a=>exact d
 refine⟨⟨by rw[g];exact qh x (zah _),by simp[u],by simp[v],fun j z H p o q r=>?_⟩,by rw[g];exact x,?_,fun b d=>?_⟩
 .rw[zdx]at o q r
  split at o
  .rename_i hj
   rw[zao hj]at q r;exact h.1.el j z H p o q r
  .cases o
 .have f:=h.2.2.1
  rw[<-zcw k bls,zbv,zbf]at f;rw[zbf];exact⟨qk7 _,(zbf.1 f.2.1).1,fun a D b d e=>f.2.2 a (i a D) b (zba _ d) e⟩
 .rcases zat.1 d with d|d
  .exact h.2.2.2 b (zba _ (i b d))
  .exact h.2.2.2 b (zay _ (l b d))
theorem PG.del (h:PG S m E lo w v xs css bls) (y:NoE S E) (N:S.m=m) {k:Nat} (Q:k<xs.length) {s:World} {H:Value} (c:s.ownsRow w.heap.size E m H (k+(xs.length - (k+1))) ((css.take k).flatten++(css.drop (k+1)).flatten)) (i:Below w.heap.size w s) (F:lo<=w.heap.size):
  PG S m E lo s H (xs.take k++xs.drop (k+1)) (css.take k++css.drop (k+1)) (bls.take k++bls.drop (k+1)):=by
 subst N;have x:=h.next i;have C:=h.1.l1;have D:=h.1.l2;have o:(xs.take k++xs.drop (k+1)).length=k+(xs.length - (k+1)):=by simp;omega
 have n:(css.take k++css.drop (k+1)).flatten=(css.take k).flatten++(css.drop (k+1)).flatten:=zbv;have t:∀ {β:Type} {l:List β} {j:Nat},k<l.length->(l.take k++l.drop (k+1))[j]?=if j<k then l[j]? else l[j+1]?:=fun {β l j} R=>by
  have O:(l.take k).length=k:=by rw[za8];omega
  split
  .rename_i hj
   rw[zbw (by omega),zdx,zao hj]
  .rename_i hj
   rw[za9 (by omega),O,zda]
   congr 1
   omega
 have L:Parts S E s H (xs.take k++xs.drop (k+1)) (css.take k++css.drop (k+1)) (bls.take k++bls.drop (k+1)):=by
  refine⟨by rw[o,n];exact qh c (zah _),by simp[C],by simp[D],fun j I J d r f g=>?_⟩;rw[t (by omega)]at r f g
  split at r
  .rename_i hj
   rw[zao hj]at f g;exact x.1.el j I J d r f g
  .rename_i hj
   rw[zaj hj]at f g;exact x.1.el (j+1) I J d r f g
 have q:∀b,b∈(bls.take k++bls.drop (k+1)).flatten->b∈bls.flatten:=fun b i=>by
  obtain⟨K,B,z⟩:=zbp.1 i;refine zbp.2 ⟨K,?_,z⟩
  rcases zat.1 B with u|u
  .exact zbu u
  .exact zdy u
 refine x.fresh (zad _) y (by rw[o,n];exact qh c F) L ?_ fun b A=>(h.2.2.2 b (zay _ (q b A))).1
 have p:=(zbf.1 h.2.2.1).2.1;rw[q3x (show k<bls.length by omega)]at p;have G:=zbf.1 p;have P:=zbf.1 G.2.1;rw[zbv,zbf];exact⟨G.1,P.2.1,fun a M b i e=>G.2.2 a M b (zay _ i) e⟩
end
def Sh.rowsW {α:Type} (A:Sh α) (E:TypeId):Sh (List α) where
 m:=1
 rd:=(Sh.rows A E).rd
 own:=fun w cs xs bl=>∃B n c d css bls,cs= [.slice B n d]/\n<=d/\Parts A E w (.slice B n c) xs css bls/\bl=obl (.slice B n c)++bls.flatten
 cnt:=(Sh.rows A E).cnt
 rd_len:=(Sh.rows A E).rd_len
 stab:=(Sh.rows A E).stab
 ord:=fun {w} {cs} {xs} {bl} ⟨B,n,c,d,css,bls,e,_,h,_⟩=>by
  obtain⟨B',c',hv,hr⟩:=h.rd;injection hv with e1 e2 e3
  subst e1;subst e2;exact⟨B,xs.length,d,e,hr⟩
 olt:=fun {w} {cs} {xs} {bl} ⟨B,n,c,d,css,bls,_,_,h,e⟩ b hb=>by rw[e]at hb;exact h.lt b hb
 osame:=fun {w} {w'} {cs} {xs} {bl} ⟨B,n,c,d,css,bls,e,hd,h,e'⟩ hs=>⟨B,n,c,d,css,bls,e,hd,h.same fun b hb=>hs b (by rw[e'];exact hb),e'⟩
def srt (xs:List Int):List Int:=xs.mergeSort fun x y=>decide (x<=y)
theorem qg7 (xs:List Int):(srt xs).length=xs.length:=List.length_mergeSort _
theorem q90 (base n c:Nat) (A:Option Addr) (xs:List Int) (w:World) (h:w.ownsRow base 3 1 (.slice A n c) n (ints xs)) (v:n<=1000):
  Calls Tryz.prog 153 #[.slice A n c] w fun e w'=>e=.returned (.tuple #[])/\w'.ownsRow base 3 1 (.slice A n c) n (ints (srt xs))/\w.grownBy w' (Value.slice A n c).ownBlock:=by
 have o:=h;obtain⟨p,a⟩:=h;rw[q3d]at p
 rcases a with⟨a,u⟩|⟨g,k,l,s,q,f,i,b,d,j⟩
 .injection a with e1 e2 e3
  subst e1;subst e2;have t:xs= []:=zdg.1 (by omega);subst t;refine(Tryz.sort_Ints_none none c w).mono ?_;rintro e w' ⟨rfl,rfl⟩;exact⟨rfl,by rw[show srt []= []by simp[srt]];exact o,⟨rfl,rfl,rfl,zad _,fun _ _ _=>rfl⟩⟩
 .injection s with e1 e2 e3
  subst e1;subst e3;have r:xs.length=n:=by omega
  subst r;refine(Tryz.sort_Ints g 0 c xs w (holds_of_blockI f (by rw[Nat.mul_one]at j;exact j)) (zd8.1 f).1 (by omega)).mono ?_;rintro e w' ⟨rfl,m,x,rfl⟩;exact⟨rfl,ownsRow_sortedI (qg7 xs) q f i b d,grownBy_sortedI _⟩
theorem qav (k:Int) (AL:Option Addr) (l cL:Nat) (AR:Option Addr) (m cR:Nat) (AV:Option Addr) (E cV:Nat) (AS:Option Addr) (n cS:Nat) (L R V s:List Int) (w:World) (hL:RdL RI w AL l L) (hR:RdL RI w AR m R) (hV:RdL RI w AV E V) (hS:RdL RI w AS n s)
  (hp:PermL n s) (hn:n<=1000) (h1:l<=1048576) (h2:m<=1048576) (h3:E<=1000) (hVi:InL n V) (hk:1<=k/\k<=6) (hk1:k=1->V= []) (h35:k=3\/k=5->V.Nodup) (h46:k=4\/k=6->V.length=n):
  Calls Tryz.prog 87 #[.agg #[.int .i64 k,.slice AL l cL,.slice AR m cR,.slice AV E cV],.slice AS n cS] w (CfE w (k,(L,R),rfL k V s)):=by
 obtain rfl:L.length=l:=hL.len;obtain rfl:R.length=m:=hR.len;obtain⟨l,HNL⟩:∃n,Hid (L.length=n):=⟨_,rfl⟩;obtain⟨m,HNR⟩:∃n,Hid (R.length=n):=⟨_,rfl⟩;obtain⟨X,HX⟩:∃X,Hid (rfL k V s=X):=⟨_,rfl⟩;obtain⟨c,ac⟩:∃q,Hid (X.length=q):=⟨_,rfl⟩;rw[HX.out];unfold CfE;simp only;rw[ac.out];rw[HNL.out]at hL h1⊢;rw[HNR.out]at hR h2⊢;have hsl:s.length=n:=hp.1;obtain⟨I,hw0,T0,hsz0,BP,BQ⟩:=q1p w #[.int .i64 k,.slice AL l cL,.slice AR m cR,.slice AV E cV] #[.int .i64 0,.slice none 0 0,.slice none 0 0,.slice none 0 0] 57 57;have HW0:=zaa hw0;have HCF:Hid (Calls Tryz.prog 79 #[.agg #[.int .i64 k,.slice AL l cL,.slice AR m cR,.slice AV E cV]] I fun e w'=>∃o u t x A3 c3,e=.returned (.agg #[.int .i64 k,.slice o l u,.slice t m x,.slice A3 E c3])/\w'.ownsRow I.heap.size 3 1 (.slice o l u) l (ints L)/\w'.ownsRow I.heap.size 3 1 (.slice t m x) m (ints R)/\w'.ownsRow I.heap.size 3 1 (.slice A3 E c3) E (ints V)/\Apart (.slice o l u) (.slice t m x)/\Apart (.slice o l u) (.slice A3 E c3)/\Apart (.slice t m x) (.slice A3 E c3)/\Below I.heap.size I w'):=by
  have:=q5a k AL l cL AR m cR AV E cV L R V I (hL.next qd T0) (hR.next qd T0) (hV.next qd T0) h1 h2 (by omega);unfold CfE at this;simp only at this;rw[HNL.out,HNR.out,hV.len]at this;exact this
 have HVR:Hid (∀wz,Below I.heap.size I wz->RdL RI wz AV E V):=fun wz hz=>(hV.next qd T0).next qd hz
 have HSR:Hid (∀wz,Below I.heap.size I wz->RdL RI wz AS n s):=fun wz hz=>(hS.next qd T0).next qd hz
 have HP:=zaa hp;have S:=zaa hVi;have HVL:=zaa hV.len;have HK1:=zaa hk1;have H35:=zaa h35;have H46:=zaa h46;have HSL:=zaa hsl;obtain⟨cP0,cP1,cP2,cP3⟩:=cl4 BP;have B:w.heap.size+1<I.heap.size:=by omega
 have A:=zaa T0;clear hw0 hsz0 hL hR hV hS hp hVi hk1 h35 h46 hsl T0
 go_enter Tryz.func87,Tryz.ntmps87
 go_upto_region 1 with fail;rw[<-HW0.out];go_wp2_with fail;refine HCF.out.mono ?_;rintro e F ⟨o,u,t,x,A3,c3,rfl,ho1,ho2,ho3,ha12,ha13,ha23,hb1⟩;have Q:=zaa (zap ho1 (zap ho2 ha12));have O:=zaa (zap ho3 (zap ha13 ha23));have hz1:=hb1.size;obtain⟨w2,hw2⟩:∃wb,wb=F.alloc (.cells #[.int .i64 k,.slice o l u,.slice t m x,.slice A3 E c3] 57):=⟨_,rfl⟩;have hb12:Below F.heap.size F w2:=by rw[hw2];exact qm _ _
 have BG2:Blk w2 F.heap.size 57 #[.int .i64 k,.slice o l u,.slice t m x,.slice A3 E c3]:=by rw[hw2];exact Blk.new _ _ _
 have HW2:=zaa hw2;have T2:=q9 hb1 hb12 rfl;have HINV:=zaa (qfb AS n cS s w2 (HSR.out w2 T2) HP.out hn);clear hw2 ho1 ho2 ho3 ha12 ha13 ha23;have hli:(inv n s).length=n:=(q5g HP.out).1;have HLI:=zaa hli;go_upto_region 2 with fail;rw[<-HW2.out];go_wp2_with fail;refine HINV.out.mono ?_;rintro e U ⟨A4,c4,rfl,ho4,hb3⟩;rw[HLI.out]at ho4⊢;have T3:=q9 T2 hb3 rfl;have Tg3:=q9 hb12 hb3 rfl;have ad:=BG2.next hb3;have hz3:=T3.size;have N:=Tg3.size;have hg1:F.heap.size<U.heap.size:=ad.lt;have zkk:=kk4 T3 cP0 cP1 cP2 cP3;clear cP0 cP1 cP2 cP3;obtain⟨cP0,cP1,cP2,cP3⟩:=zkk;have HR4:Hid (∀wz,Below U.heap.size U wz->RdL RI wz A4 n (inv n s)):=fun wz hz=>(q14 (R:=RI) ho4 (q1o fun v hv=>by have:=q8r HP.out v hv;omega)).next qd hz
 obtain⟨gC0,gC1,gC2,gC3⟩:=cl4 ad;have gF3:=ad.frozen 3;clear hb12 BG2 ho4 hli;obtain rfl|rfl|rfl|rfl|rfl|rfl:k=1\/k=2\/k=3\/k=4\/k=5\/k=6:=by omega
 .
  have P:Hid (V=X):=by show _=_;rw[<-HX.out];exact(by unfold rfL;simp)
  obtain⟨wc,HWC⟩:∃wc:World,wc=U:=⟨_,rfl⟩;subst HWC;have hnx:c=E:=by rw[<-ac.out,<-P.out,HVL.out]
  subst hnx;obtain⟨d,hA5⟩:∃a,a=A3:=⟨_,rfl⟩;subst hA5;obtain⟨f,hc5⟩:∃a,a=c3:=⟨_,rfl⟩;subst hc5;have Tk:=T3;have Tg:=Tg3;have BG:=ad;have J:=ql O.out.1 Tg3;rw[P.out]at J;have y:=O.out.2.1;have z:=O.out.2.2;have C:=BQ.next Tk;obtain⟨cG0,cG1,cG2,cG3⟩:=cl4 BG;obtain⟨cR0,cR1,cR2,cR3⟩:=cl4 C;have fR0:=C.frozen 0;have fR1:=C.frozen 1;have fR2:=C.frozen 2;have fR3:=C.frozen 3;obtain⟨M,g⟩:∃M,Hid (M=(((wc.setCell ⟨w.heap.size+1,0,none⟩ (.int .i64 1)).setCell ⟨w.heap.size+1,1,none⟩ (.slice o l u)).setCell ⟨w.heap.size+1,2,none⟩ (.slice t m x)).setCell ⟨w.heap.size+1,3,none⟩ (.slice d c f)):=⟨_,rfl⟩;have W:Blk M (w.heap.size+1) 57 #[.int .i64 1,.slice o l u,.slice t m x,.slice d c f]:=by rw[g.out];simpa using(((C.set_ 0 (.int .i64 1)).set_ 1 (.slice o l u)).set_ 2 (.slice t m x)).set_ 3 (.slice d c f)
  have i:∀ {v:Value} {n:Nat} {xs:List Value},wc.ownsRow I.heap.size 3 1 v n xs->M.ownsRow I.heap.size 3 1 v n xs:=fun h=>by
   rw[g.out];exact qy (qy (qy (qy h (by exact B)) (by exact B)) (by exact B)) (by exact B)
  have Y:=zaa (i (ql (Q.out).1 Tg));have Z:=zaa (i (ql (Q.out).2.1 Tg));have O:=zaa (i J);have aa:Hid (Below w.heap.size w M):=by
   show Below _ _ _
   rw[g.out];exact((((q9 A.out Tk rfl).setCell (p:=⟨w.heap.size+1,0,none⟩) (show w.heap.size<=w.heap.size+1 by omega) _).setCell (p:=⟨w.heap.size+1,1,none⟩) (show w.heap.size<=w.heap.size+1 by omega) _).setCell (p:=⟨w.heap.size+1,2,none⟩) (show w.heap.size<=w.heap.size+1 by omega) _).setCell (p:=⟨w.heap.size+1,3,none⟩) (show w.heap.size<=w.heap.size+1 by omega) _
  have K:=zaa (zap y z);clear J C i y z;go_wp2_with fail;rw[<-g.out]
  (try simp only[Exit.inBlock,Exit.then])
  refine zas (v:=.agg #[.int .i64 1,.slice o l u,.slice t m x,.slice d c f]) (zb3 rfl _ _ (w.heap.size+1) 57 #[.int .i64 1,.slice o l u,.slice t m x,.slice d c f] (0,0) _ (by simp) W zcr rfl (by kernel_rfl)) rfl ?_;exact⟨o,u,t,x,d,f,rfl,qh Y.out A.out.size,qh Z.out A.out.size,qh O.out A.out.size,(Q.out).2.2,K.out.1,K.out.2,aa.out⟩
 .
  have P:Hid (comp V s=X):=by show _=_;rw[<-HX.out];unfold rfL;simp
  go_wp2_with fail;refine(q35 AV AS E cV n cS V s U (HVR.out U T3) (HSR.out U T3) S.out h3).mono ?_;rintro e w5 ⟨d,f,rfl,j,H⟩;rw[P.out,ac.out]at j;rw[P.out,ac.out];have T5:=q9 T3 H rfl;have ae:=q9 Tg3 H rfl;have G:=ad.next H;obtain⟨wc,D⟩:∃wc,wc=w5.setCell ⟨F.heap.size,3,none⟩ (.slice d c f):=⟨_,rfl⟩;have HWC:=zaa D;have Tk:Below I.heap.size I wc:=by rw[D];exact T5.setCell (p:=⟨F.heap.size,3,none⟩) (by exact hz1) _
  have Tg:Below F.heap.size F wc:=by rw[D];exact ae.setCell (p:=⟨F.heap.size,3,none⟩) (zad _) _
  have BG:Blk wc F.heap.size 57 #[.int .i64 2,.slice o l u,.slice t m x,.slice d c f]:=by rw[D];simpa using G.set_ 3 (.slice d c f)
  have J:wc.ownsRow I.heap.size 3 1 (.slice d c f) c (ints X):=by rw[D];exact qh (qy (p:=⟨F.heap.size,3,none⟩) j (by exact hg1)) hz3
  have y:Apart (.slice o l u) (.slice d c f):=qx Q.out.1 j N;have z:Apart (.slice t m x) (.slice d c f):=qx Q.out.2.1 j N;have gG:=G.cell 3;simp at gG;have gF:=G.frozen 3;clear D j;go_upto_region 14 with fail;rw[<-HWC.out];have C:=BQ.next Tk;obtain⟨cG0,cG1,cG2,cG3⟩:=cl4 BG;obtain⟨cR0,cR1,cR2,cR3⟩:=cl4 C;have fR0:=C.frozen 0;have fR1:=C.frozen 1;have fR2:=C.frozen 2;have fR3:=C.frozen 3;obtain⟨M,g⟩:∃M,Hid (M=(((wc.setCell ⟨w.heap.size+1,0,none⟩ (.int .i64 2)).setCell ⟨w.heap.size+1,1,none⟩ (.slice o l u)).setCell ⟨w.heap.size+1,2,none⟩ (.slice t m x)).setCell ⟨w.heap.size+1,3,none⟩ (.slice d c f)):=⟨_,rfl⟩;have W:Blk M (w.heap.size+1) 57 #[.int .i64 2,.slice o l u,.slice t m x,.slice d c f]:=by rw[g.out];simpa using(((C.set_ 0 (.int .i64 2)).set_ 1 (.slice o l u)).set_ 2 (.slice t m x)).set_ 3 (.slice d c f)
  have i:∀ {v:Value} {n:Nat} {xs:List Value},wc.ownsRow I.heap.size 3 1 v n xs->M.ownsRow I.heap.size 3 1 v n xs:=fun h=>by
   rw[g.out];exact qy (qy (qy (qy h (by exact B)) (by exact B)) (by exact B)) (by exact B)
  have Y:=zaa (i (ql (Q.out).1 Tg));have Z:=zaa (i (ql (Q.out).2.1 Tg));have O:=zaa (i J);have aa:Hid (Below w.heap.size w M):=by
   show Below _ _ _
   rw[g.out];exact((((q9 A.out Tk rfl).setCell (p:=⟨w.heap.size+1,0,none⟩) (show w.heap.size<=w.heap.size+1 by omega) _).setCell (p:=⟨w.heap.size+1,1,none⟩) (show w.heap.size<=w.heap.size+1 by omega) _).setCell (p:=⟨w.heap.size+1,2,none⟩) (show w.heap.size<=w.heap.size+1 by omega) _).setCell (p:=⟨w.heap.size+1,3,none⟩) (show w.heap.size<=w.heap.size+1 by omega) _
  have K:=zaa (zap y z);clear J C i y z;go_wp2_with fail;rw[<-g.out]
  (try simp only[Exit.inBlock,Exit.then])
  refine zas (v:=.agg #[.int .i64 2,.slice o l u,.slice t m x,.slice d c f]) (zb3 rfl _ _ (w.heap.size+1) 57 #[.int .i64 2,.slice o l u,.slice t m x,.slice d c f] (0,0) _ (by simp) W zcr rfl (by kernel_rfl)) rfl ?_;exact⟨o,u,t,x,d,f,rfl,qh Y.out A.out.size,qh Z.out A.out.size,qh O.out A.out.size,(Q.out).2.2,K.out.1,K.out.2,aa.out⟩
 .
  have hnx:c=E:=by
   rw[<-ac.out,<-HX.out];unfold rfL;rw[zaj (by decide),zao (by decide),HSL.out,<-q6f (q4u HP.out S.out (H35.out (by decide))) (q65 HP.out S.out)];show(srt (comp V s)).length=E;rw[qg7,q25,HVL.out]
  subst hnx;have P:Hid (srt (comp V s)=X):=by
   show _=_
   rw[<-HX.out];unfold rfL;rw[zaj (by decide),zao (by decide),HSL.out];exact q6f (q4u HP.out S.out (H35.out (by decide))) (q65 HP.out S.out)
  have hcl:(comp V s).length=c:=by rw[q25,HVL.out]
  have HCL:=zaa hcl;clear hcl;go_wp2_with fail;refine(q35 AV AS c cV n cS V s U (HVR.out U T3) (HSR.out U T3) S.out h3).mono ?_;rintro e w5 ⟨d,f,rfl,j,H⟩;rw[HCL.out]at j;rw[HCL.out];have T5:=q9 T3 H rfl;have ae:=q9 Tg3 H rfl;have G:=ad.next H;have gG:=G.cell 3;simp at gG;have gF:=G.frozen 3;obtain⟨wq,T⟩:∃wq,wq=w5.setCell ⟨F.heap.size,3,none⟩ (.slice d c f):=⟨_,rfl⟩;have HWQ:=zaa T;have Tq:Below I.heap.size I wq:=by rw[T];exact T5.setCell (p:=⟨F.heap.size,3,none⟩) (by exact hz1) _
  have Tgq:Below F.heap.size F wq:=by rw[T];exact ae.setCell (p:=⟨F.heap.size,3,none⟩) (zad _) _
  have BGq:Blk wq F.heap.size 57 #[.int .i64 3,.slice o l u,.slice t m x,.slice d c f]:=by rw[T];simpa using G.set_ 3 (.slice d c f)
  have hoq:wq.ownsRow U.heap.size 3 1 (.slice d c f) c (ints (comp V s)):=by rw[T];exact qy (p:=⟨F.heap.size,3,none⟩) j (by exact hg1)
  have gQ3:=BGq.cell 3;simp at gQ3;have HSO:=zaa (q90 U.heap.size c f d (comp V s) wq hoq h3);have hofs:∀b,(Value.slice d c f).ownBlock=some b->U.heap.size<=b:=fun b hb=>(hoq.lt b hb).1
  have HOF:=zaa hofs;clear T j hofs hoq;go_upto_region 9 with fail;rw[<-HWQ.out];go_wp2_with fail;refine HSO.out.mono ?_;rintro e wc ⟨rfl,ab,ag⟩;rw[P.out]at ab;have Tk:=Tq.grown ag (by have:=Tq.size;omega) (fun r hr=>by have:=HOF.out r hr;omega);have Tg:=Tgq.grown ag (by have:=Tgq.size;omega) (fun r hr=>by have:=HOF.out r hr;omega);have BG:=BGq.grown ag (fun e=>by have:=HOF.out _ e.symm;omega);have J:=qh (base':=I.heap.size) ab hz3;have y:Apart (.slice o l u) (.slice d c f):=qx Q.out.1 ab N;have z:Apart (.slice t m x) (.slice d c f):=qx Q.out.2.1 ab N;clear ab ag;go_upto_region 14 with fail;have C:=BQ.next Tk;obtain⟨cG0,cG1,cG2,cG3⟩:=cl4 BG;obtain⟨cR0,cR1,cR2,cR3⟩:=cl4 C;have fR0:=C.frozen 0;have fR1:=C.frozen 1;have fR2:=C.frozen 2;have fR3:=C.frozen 3;obtain⟨M,g⟩:∃M,Hid (M=(((wc.setCell ⟨w.heap.size+1,0,none⟩ (.int .i64 3)).setCell ⟨w.heap.size+1,1,none⟩ (.slice o l u)).setCell ⟨w.heap.size+1,2,none⟩ (.slice t m x)).setCell ⟨w.heap.size+1,3,none⟩ (.slice d c f)):=⟨_,rfl⟩;have W:Blk M (w.heap.size+1) 57 #[.int .i64 3,.slice o l u,.slice t m x,.slice d c f]:=by rw[g.out];simpa using(((C.set_ 0 (.int .i64 3)).set_ 1 (.slice o l u)).set_ 2 (.slice t m x)).set_ 3 (.slice d c f)
  have i:∀ {v:Value} {n:Nat} {xs:List Value},wc.ownsRow I.heap.size 3 1 v n xs->M.ownsRow I.heap.size 3 1 v n xs:=fun h=>by
   rw[g.out];exact qy (qy (qy (qy h (by exact B)) (by exact B)) (by exact B)) (by exact B)
  have Y:=zaa (i (ql (Q.out).1 Tg));have Z:=zaa (i (ql (Q.out).2.1 Tg));have O:=zaa (i J);have aa:Hid (Below w.heap.size w M):=by
   show Below _ _ _
   rw[g.out];exact((((q9 A.out Tk rfl).setCell (p:=⟨w.heap.size+1,0,none⟩) (show w.heap.size<=w.heap.size+1 by omega) _).setCell (p:=⟨w.heap.size+1,1,none⟩) (show w.heap.size<=w.heap.size+1 by omega) _).setCell (p:=⟨w.heap.size+1,2,none⟩) (show w.heap.size<=w.heap.size+1 by omega) _).setCell (p:=⟨w.heap.size+1,3,none⟩) (show w.heap.size<=w.heap.size+1 by omega) _
  have K:=zaa (zap y z);clear J C i y z;go_wp2_with fail;rw[<-g.out]
  (try simp only[Exit.inBlock,Exit.then])
  refine zas (v:=.agg #[.int .i64 3,.slice o l u,.slice t m x,.slice d c f]) (zb3 rfl _ _ (w.heap.size+1) 57 #[.int .i64 3,.slice o l u,.slice t m x,.slice d c f] (0,0) _ (by simp) W zcr rfl (by kernel_rfl)) rfl ?_;exact⟨o,u,t,x,d,f,rfl,qh Y.out A.out.size,qh Z.out A.out.size,qh O.out A.out.size,(Q.out).2.2,K.out.1,K.out.2,aa.out⟩
 .
  have P:Hid (kerL (comp (inv n s) V)=X):=by show _=_;rw[<-HX.out];unfold rfL;simp[HSL.out]
  have hv4:V.length=n:=H46.out (by omega);obtain rfl:E=n:=by rw[<-HVL.out];exact hv4
  have HV4:=zaa hv4;clear hv4;go_wp2_with fail;refine(q35 A4 AV E c4 E cV (inv E s) V U (HR4.out U (zab _ _)) (HVR.out U T3) (q8r HP.out) hn).mono ?_;rintro e w4 ⟨A6,c6,rfl,ho6,af⟩;have T4:=q9 T3 af rfl;have Tg4:=q9 Tg3 af rfl;have BG4:=ad.next af;have hqi:InL E (comp (inv E s) V):=q7n HV4.out S.out (q8r HP.out);have HQI:=zaa hqi;have hq6:=q14 (R:=RI) ho6 (q1o fun v hv=>by have:=hqi v hv;omega);have hlq:(comp (inv E s) V).length=E:=by rw[q25,HLI.out]
  have HLQ:=zaa hlq;rw[HLQ.out]at hq6⊢;clear ho6 hlq hqi;go_wp2_with fail;refine(q8t A6 E c6 (comp (inv E s) V) w4 hq6 hn).mono ?_;rintro e w5 ⟨d,f,rfl,j,H⟩;rw[P.out,ac.out]at j;rw[P.out,ac.out];replace j:=qh (base':=U.heap.size) j af.size;have T5:=q9 T4 H rfl;have ae:=q9 Tg4 H rfl;have G:=BG4.next H;obtain⟨wc,D⟩:∃wc,wc=w5.setCell ⟨F.heap.size,3,none⟩ (.slice d c f):=⟨_,rfl⟩;have HWC:=zaa D;have Tk:Below I.heap.size I wc:=by rw[D];exact T5.setCell (p:=⟨F.heap.size,3,none⟩) (by exact hz1) _
  have Tg:Below F.heap.size F wc:=by rw[D];exact ae.setCell (p:=⟨F.heap.size,3,none⟩) (zad _) _
  have BG:Blk wc F.heap.size 57 #[.int .i64 4,.slice o l u,.slice t m x,.slice d c f]:=by rw[D];simpa using G.set_ 3 (.slice d c f)
  have J:wc.ownsRow I.heap.size 3 1 (.slice d c f) c (ints X):=by rw[D];exact qh (qy (p:=⟨F.heap.size,3,none⟩) j (by exact hg1)) hz3
  have y:Apart (.slice o l u) (.slice d c f):=qx Q.out.1 j N;have z:Apart (.slice t m x) (.slice d c f):=qx Q.out.2.1 j N;have gG:=G.cell 3;simp at gG;have gF:=G.frozen 3;clear D j;go_upto_region 14 with fail;rw[<-HWC.out];have C:=BQ.next Tk;obtain⟨cG0,cG1,cG2,cG3⟩:=cl4 BG;obtain⟨cR0,cR1,cR2,cR3⟩:=cl4 C;have fR0:=C.frozen 0;have fR1:=C.frozen 1;have fR2:=C.frozen 2;have fR3:=C.frozen 3;obtain⟨M,g⟩:∃M,Hid (M=(((wc.setCell ⟨w.heap.size+1,0,none⟩ (.int .i64 4)).setCell ⟨w.heap.size+1,1,none⟩ (.slice o l u)).setCell ⟨w.heap.size+1,2,none⟩ (.slice t m x)).setCell ⟨w.heap.size+1,3,none⟩ (.slice d c f)):=⟨_,rfl⟩;have W:Blk M (w.heap.size+1) 57 #[.int .i64 4,.slice o l u,.slice t m x,.slice d c f]:=by rw[g.out];simpa using(((C.set_ 0 (.int .i64 4)).set_ 1 (.slice o l u)).set_ 2 (.slice t m x)).set_ 3 (.slice d c f)
  have i:∀ {v:Value} {n:Nat} {xs:List Value},wc.ownsRow I.heap.size 3 1 v n xs->M.ownsRow I.heap.size 3 1 v n xs:=fun h=>by
   rw[g.out];exact qy (qy (qy (qy h (by exact B)) (by exact B)) (by exact B)) (by exact B)
  have Y:=zaa (i (ql (Q.out).1 Tg));have Z:=zaa (i (ql (Q.out).2.1 Tg));have O:=zaa (i J);have aa:Hid (Below w.heap.size w M):=by
   show Below _ _ _
   rw[g.out];exact((((q9 A.out Tk rfl).setCell (p:=⟨w.heap.size+1,0,none⟩) (show w.heap.size<=w.heap.size+1 by omega) _).setCell (p:=⟨w.heap.size+1,1,none⟩) (show w.heap.size<=w.heap.size+1 by omega) _).setCell (p:=⟨w.heap.size+1,2,none⟩) (show w.heap.size<=w.heap.size+1 by omega) _).setCell (p:=⟨w.heap.size+1,3,none⟩) (show w.heap.size<=w.heap.size+1 by omega) _
  have K:=zaa (zap y z);clear J C i y z;go_wp2_with fail;rw[<-g.out]
  (try simp only[Exit.inBlock,Exit.then])
  refine zas (v:=.agg #[.int .i64 4,.slice o l u,.slice t m x,.slice d c f]) (zb3 rfl _ _ (w.heap.size+1) 57 #[.int .i64 4,.slice o l u,.slice t m x,.slice d c f] (0,0) _ (by simp) W zcr rfl (by kernel_rfl)) rfl ?_;exact⟨o,u,t,x,d,f,rfl,qh Y.out A.out.size,qh Z.out A.out.size,qh O.out A.out.size,(Q.out).2.2,K.out.1,K.out.2,aa.out⟩
 .
  have hnx:c=E:=by
   rw[<-ac.out,<-HX.out];unfold rfL;rw[zaj (by decide),zao (by decide),HSL.out,<-q6f (q4u HP.out S.out (H35.out (by decide))) (q65 HP.out S.out)];show(srt (comp V s)).length=E;rw[qg7,q25,HVL.out]
  subst hnx;have P:Hid (srt (comp V s)=X):=by
   show _=_
   rw[<-HX.out];unfold rfL;rw[zaj (by decide),zao (by decide),HSL.out];exact q6f (q4u HP.out S.out (H35.out (by decide))) (q65 HP.out S.out)
  have hcl:(comp V s).length=c:=by rw[q25,HVL.out]
  have HCL:=zaa hcl;clear hcl;go_wp2_with fail;refine(q35 AV AS c cV n cS V s U (HVR.out U T3) (HSR.out U T3) S.out h3).mono ?_;rintro e w5 ⟨d,f,rfl,j,H⟩;rw[HCL.out]at j;rw[HCL.out];have T5:=q9 T3 H rfl;have ae:=q9 Tg3 H rfl;have G:=ad.next H;have gG:=G.cell 3;simp at gG;have gF:=G.frozen 3;obtain⟨wq,T⟩:∃wq,wq=w5.setCell ⟨F.heap.size,3,none⟩ (.slice d c f):=⟨_,rfl⟩;have HWQ:=zaa T;have Tq:Below I.heap.size I wq:=by rw[T];exact T5.setCell (p:=⟨F.heap.size,3,none⟩) (by exact hz1) _
  have Tgq:Below F.heap.size F wq:=by rw[T];exact ae.setCell (p:=⟨F.heap.size,3,none⟩) (zad _) _
  have BGq:Blk wq F.heap.size 57 #[.int .i64 5,.slice o l u,.slice t m x,.slice d c f]:=by rw[T];simpa using G.set_ 3 (.slice d c f)
  have hoq:wq.ownsRow U.heap.size 3 1 (.slice d c f) c (ints (comp V s)):=by rw[T];exact qy (p:=⟨F.heap.size,3,none⟩) j (by exact hg1)
  have gQ3:=BGq.cell 3;simp at gQ3;have HSO:=zaa (q90 U.heap.size c f d (comp V s) wq hoq h3);have hofs:∀b,(Value.slice d c f).ownBlock=some b->U.heap.size<=b:=fun b hb=>(hoq.lt b hb).1
  have HOF:=zaa hofs;clear T j hofs hoq;go_upto_region 9 with fail;rw[<-HWQ.out];go_wp2_with fail;refine HSO.out.mono ?_;rintro e wc ⟨rfl,ab,ag⟩;rw[P.out]at ab;have Tk:=Tq.grown ag (by have:=Tq.size;omega) (fun r hr=>by have:=HOF.out r hr;omega);have Tg:=Tgq.grown ag (by have:=Tgq.size;omega) (fun r hr=>by have:=HOF.out r hr;omega);have BG:=BGq.grown ag (fun e=>by have:=HOF.out _ e.symm;omega);have J:=qh (base':=I.heap.size) ab hz3;have y:Apart (.slice o l u) (.slice d c f):=qx Q.out.1 ab N;have z:Apart (.slice t m x) (.slice d c f):=qx Q.out.2.1 ab N;clear ab ag;go_upto_region 14 with fail;have C:=BQ.next Tk;obtain⟨cG0,cG1,cG2,cG3⟩:=cl4 BG;obtain⟨cR0,cR1,cR2,cR3⟩:=cl4 C;have fR0:=C.frozen 0;have fR1:=C.frozen 1;have fR2:=C.frozen 2;have fR3:=C.frozen 3;obtain⟨M,g⟩:∃M,Hid (M=(((wc.setCell ⟨w.heap.size+1,0,none⟩ (.int .i64 5)).setCell ⟨w.heap.size+1,1,none⟩ (.slice o l u)).setCell ⟨w.heap.size+1,2,none⟩ (.slice t m x)).setCell ⟨w.heap.size+1,3,none⟩ (.slice d c f)):=⟨_,rfl⟩;have W:Blk M (w.heap.size+1) 57 #[.int .i64 5,.slice o l u,.slice t m x,.slice d c f]:=by rw[g.out];simpa using(((C.set_ 0 (.int .i64 5)).set_ 1 (.slice o l u)).set_ 2 (.slice t m x)).set_ 3 (.slice d c f)
  have i:∀ {v:Value} {n:Nat} {xs:List Value},wc.ownsRow I.heap.size 3 1 v n xs->M.ownsRow I.heap.size 3 1 v n xs:=fun h=>by
   rw[g.out];exact qy (qy (qy (qy h (by exact B)) (by exact B)) (by exact B)) (by exact B)
  have Y:=zaa (i (ql (Q.out).1 Tg));have Z:=zaa (i (ql (Q.out).2.1 Tg));have O:=zaa (i J);have aa:Hid (Below w.heap.size w M):=by
   show Below _ _ _
   rw[g.out];exact((((q9 A.out Tk rfl).setCell (p:=⟨w.heap.size+1,0,none⟩) (show w.heap.size<=w.heap.size+1 by omega) _).setCell (p:=⟨w.heap.size+1,1,none⟩) (show w.heap.size<=w.heap.size+1 by omega) _).setCell (p:=⟨w.heap.size+1,2,none⟩) (show w.heap.size<=w.heap.size+1 by omega) _).setCell (p:=⟨w.heap.size+1,3,none⟩) (show w.heap.size<=w.heap.size+1 by omega) _
  have K:=zaa (zap y z);clear J C i y z;go_wp2_with fail;rw[<-g.out]
  (try simp only[Exit.inBlock,Exit.then])
  refine zas (v:=.agg #[.int .i64 5,.slice o l u,.slice t m x,.slice d c f]) (zb3 rfl _ _ (w.heap.size+1) 57 #[.int .i64 5,.slice o l u,.slice t m x,.slice d c f] (0,0) _ (by simp) W zcr rfl (by kernel_rfl)) rfl ?_;exact⟨o,u,t,x,d,f,rfl,qh Y.out A.out.size,qh Z.out A.out.size,qh O.out A.out.size,(Q.out).2.2,K.out.1,K.out.2,aa.out⟩
 .
  have P:Hid (comp (comp (inv n s) V) s=X):=by show _=_;rw[<-HX.out];unfold rfL;simp[HSL.out]
  have hv4:V.length=n:=H46.out (by omega);obtain rfl:E=n:=by rw[<-HVL.out];exact hv4
  have HV4:=zaa hv4;clear hv4;go_wp2_with fail;refine(q35 A4 AV E c4 E cV (inv E s) V U (HR4.out U (zab _ _)) (HVR.out U T3) (q8r HP.out) hn).mono ?_;rintro e w4 ⟨A6,c6,rfl,ho6,af⟩;have T4:=q9 T3 af rfl;have Tg4:=q9 Tg3 af rfl;have BG4:=ad.next af;have hqi:InL E (comp (inv E s) V):=q7n HV4.out S.out (q8r HP.out);have HQI:=zaa hqi;have hq6:=q14 (R:=RI) ho6 (q1o fun v hv=>by have:=hqi v hv;omega);have hlq:(comp (inv E s) V).length=E:=by rw[q25,HLI.out]
  have HLQ:=zaa hlq;rw[HLQ.out]at hq6⊢;clear ho6 hlq hqi;go_wp2_with fail;refine(q35 A6 AS E c6 E cS (comp (inv E s) V) s w4 hq6 (HSR.out w4 T4) HQI.out hn).mono ?_;rintro e w5 ⟨d,f,rfl,j,H⟩;rw[P.out,ac.out]at j;rw[P.out,ac.out];replace j:=qh (base':=U.heap.size) j af.size;have T5:=q9 T4 H rfl;have ae:=q9 Tg4 H rfl;have G:=BG4.next H;obtain⟨wc,D⟩:∃wc,wc=w5.setCell ⟨F.heap.size,3,none⟩ (.slice d c f):=⟨_,rfl⟩;have HWC:=zaa D;have Tk:Below I.heap.size I wc:=by rw[D];exact T5.setCell (p:=⟨F.heap.size,3,none⟩) (by exact hz1) _
  have Tg:Below F.heap.size F wc:=by rw[D];exact ae.setCell (p:=⟨F.heap.size,3,none⟩) (zad _) _
  have BG:Blk wc F.heap.size 57 #[.int .i64 6,.slice o l u,.slice t m x,.slice d c f]:=by rw[D];simpa using G.set_ 3 (.slice d c f)
  have J:wc.ownsRow I.heap.size 3 1 (.slice d c f) c (ints X):=by rw[D];exact qh (qy (p:=⟨F.heap.size,3,none⟩) j (by exact hg1)) hz3
  have y:Apart (.slice o l u) (.slice d c f):=qx Q.out.1 j N;have z:Apart (.slice t m x) (.slice d c f):=qx Q.out.2.1 j N;have gG:=G.cell 3;simp at gG;have gF:=G.frozen 3;clear D j;go_upto_region 14 with fail;rw[<-HWC.out];have C:=BQ.next Tk;obtain⟨cG0,cG1,cG2,cG3⟩:=cl4 BG;obtain⟨cR0,cR1,cR2,cR3⟩:=cl4 C;have fR0:=C.frozen 0;have fR1:=C.frozen 1;have fR2:=C.frozen 2;have fR3:=C.frozen 3;obtain⟨M,g⟩:∃M,Hid (M=(((wc.setCell ⟨w.heap.size+1,0,none⟩ (.int .i64 6)).setCell ⟨w.heap.size+1,1,none⟩ (.slice o l u)).setCell ⟨w.heap.size+1,2,none⟩ (.slice t m x)).setCell ⟨w.heap.size+1,3,none⟩ (.slice d c f)):=⟨_,rfl⟩;have W:Blk M (w.heap.size+1) 57 #[.int .i64 6,.slice o l u,.slice t m x,.slice d c f]:=by rw[g.out];simpa using(((C.set_ 0 (.int .i64 6)).set_ 1 (.slice o l u)).set_ 2 (.slice t m x)).set_ 3 (.slice d c f)
  have i:∀ {v:Value} {n:Nat} {xs:List Value},wc.ownsRow I.heap.size 3 1 v n xs->M.ownsRow I.heap.size 3 1 v n xs:=fun h=>by
   rw[g.out];exact qy (qy (qy (qy h (by exact B)) (by exact B)) (by exact B)) (by exact B)
  have Y:=zaa (i (ql (Q.out).1 Tg));have Z:=zaa (i (ql (Q.out).2.1 Tg));have O:=zaa (i J);have aa:Hid (Below w.heap.size w M):=by
   show Below _ _ _
   rw[g.out];exact((((q9 A.out Tk rfl).setCell (p:=⟨w.heap.size+1,0,none⟩) (show w.heap.size<=w.heap.size+1 by omega) _).setCell (p:=⟨w.heap.size+1,1,none⟩) (show w.heap.size<=w.heap.size+1 by omega) _).setCell (p:=⟨w.heap.size+1,2,none⟩) (show w.heap.size<=w.heap.size+1 by omega) _).setCell (p:=⟨w.heap.size+1,3,none⟩) (show w.heap.size<=w.heap.size+1 by omega) _
  have K:=zaa (zap y z);clear J C i y z;go_wp2_with fail;rw[<-g.out]
  (try simp only[Exit.inBlock,Exit.then])
  refine zas (v:=.agg #[.int .i64 6,.slice o l u,.slice t m x,.slice d c f]) (zb3 rfl _ _ (w.heap.size+1) 57 #[.int .i64 6,.slice o l u,.slice t m x,.slice d c f] (0,0) _ (by simp) W zcr rfl (by kernel_rfl)) rfl ?_;exact⟨o,u,t,x,d,f,rfl,qh Y.out A.out.size,qh Z.out A.out.size,qh O.out A.out.size,(Q.out).2.2,K.out.1,K.out.2,aa.out⟩
end Go.Proofs.YtfnmkbpogbekpaaGreatDoor
