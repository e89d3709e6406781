import Derived.Test.YtfnmkbpogbekpaaGreatDoorQ7
import Derived.Deep.CutBlock
set_option linter.unusedVariables false
set_option linter.unusedSimpArgs false
set_option maxRecDepth 100000
set_option maxHeartbeats 32000000
namespace Go.Proofs.YtfnmkbpogbekpaaGreatDoor
open Go.RowKit
theorem q1c {w:World} {base size n g i:Nat} {e t:TypeId} {v u:Value} {xs:List Value} {cs:Array Value} (h:w.ownsRow base e size v n xs) (c:Blk w g t cs) (a:e≠t):(w.setCell ⟨g,i,none⟩ u).ownsRow base e size v n xs:=by
 refine q2f h fun b f=>zal w _ u b ?_
 obtain⟨q,d⟩:=h
 rcases d with⟨d,r⟩|⟨p,j,k,o,l,m,_⟩
 .subst d
  simp[Value.ownBlock]at f
 .subst o
  simp[Value.ownBlock]at f;subst f;rintro rfl;unfold Blk at c;rw[m]at c;simp at c
  first|exact a c.2|exact a c.2.symm|exact a c.1
theorem q8a {w0 W:World} {g l m:Nat} {k:Int} {b c d:Value} {xs n:List Value} (i:Blk W g 57 #[.int .i64 0,.slice none 0 0,.slice none 0 0,.slice none 0 0])
  (q:W.ownsRow w0.heap.size 3 1 b l xs) (r:W.ownsRow w0.heap.size 3 1 c m n) (s:W.ownsRow w0.heap.size 3 1 d 0 []) (t:Below w0.heap.size w0 W) (j:w0.heap.size<=g):
  ∀ W', W' = (((W.setCell ⟨g, 0, none⟩ (.int .i64 k)).setCell ⟨g, 1, none⟩ b).setCell ⟨g, 2, none⟩ c).setCell ⟨g, 3, none⟩ d ->
    Blk W' g 57 #[.int .i64 k, b, c, d] /\ W'.ownsRow w0.heap.size 3 1 b l xs /\ W'.ownsRow w0.heap.size 3 1 c m n /\ W'.ownsRow w0.heap.size 3 1 d 0 [] /\ Below w0.heap.size w0 W' := by
 rintro W' rfl;have e:=i.set_ 0 (.int .i64 k);have f:=e.set_ 1 b;have h:=f.set_ 2 c;have o:=h.set_ 3 d;have a:3≠57:=by decide
 refine⟨by simpa using o,q1c (q1c (q1c (q1c q i a) e a) f a) h a,q1c (q1c (q1c (q1c r i a) e a) f a) h a,q1c (q1c (q1c (q1c s i a) e a) f a) h a,?_⟩;exact(((t.setCell (p:=⟨g,0,none⟩) j _).setCell (p:=⟨g,1,none⟩) j _).setCell (p:=⟨g,2,none⟩) j _).setCell (p:=⟨g,3,none⟩) j _
theorem q9f {w:World} {base size n:Nat} {e:TypeId} {v u:Value} {xs:List Value} {p:Addr} (h:w.ownsRow base e size v n xs) (a:∀q,v.ownBlock=some q->q≠p.block):(w.setCell p u).ownsRow base e size v n xs:=q2f h fun b c=>zal w p u b (a b c)
theorem qki {xs L:List Int} {y:Int} (h:PutP xs y L):0<L.length:=by
 obtain⟨k,b,-,⟨a,rfl⟩|⟨-,rfl⟩⟩:=h
 .have:=(zag.1 a).1
  omega
 .simp
  omega
theorem qod {n:Nat} {V:List Int} (h:InL n V):nats (V.map Int.toNat)=V/\∀z∈V.map Int.toNat,z<n:=by
 constructor
 .unfold nats
  rw[List.map_map]
  conv=>rhs;rw[<-List.map_id V]
  refine List.map_congr_left fun v a=>?_
  have:=h v a;show((v.toNat:Nat):Int)=v;omega
 .intro z b
  obtain⟨v,a,rfl⟩:=zb6.1 b;have:=h v a;omega
theorem qj2 {n:Nat} {V s:List Int} (a:PermL n s) (h:InL n V):nats ((V.map Int.toNat).map (nmAt s))=comp V s:=by
 unfold nats comp;rw[List.map_map,List.map_map];refine List.map_congr_left fun v b=>?_
 have c:=h v b;show((nmAt s v.toNat:Nat):Int)=nmI s v;have:=q5l a (x:=v.toNat) (by omega);rw[this]
 congr 1
 omega
theorem qca (k:Int) (AL:Option Addr) (y cL:Nat) (AR:Option Addr) (B cR:Nat) (AV:Option Addr) (u cV:Nat) (AS:Option Addr) (n cS:Nat) (L R V s:List Int) (w:World) (hL:RdL RI w AL y L) (hR:RdL RI w AR B R) (hV:RdL RI w AV u V) (hS:RdL RI w AS n s)
  (hp:PermL n s) (hn:n<=1000) (h1:y<=1048576) (h2:B<=1048576) (h3:u<=1000) (hVi:InL n V) (hk:1<=k/\k<=6) (hk1:k=1->V= []) (h35:k=3\/k=5->V.Nodup) (h46:k=4\/k=6->V.length=n):
  Calls Tryz.prog 65 #[.agg #[.int .i64 k,.slice AL y cL,.slice AR B cR,.slice AV u cV],.slice AS n cS] w (CfE w (k,(L,R),rfL k V s)):=by
 obtain rfl:L.length=y:=hL.len;obtain rfl:R.length=B:=hR.len;obtain⟨y,HNL⟩:∃n,Hid (L.length=n):=⟨_,rfl⟩;obtain⟨B,HNR⟩:∃n,Hid (R.length=n):=⟨_,rfl⟩;obtain⟨X,HX⟩:∃X,Hid (rfL k V s=X):=⟨_,rfl⟩;obtain⟨nX,HNX⟩:∃q,Hid (X.length=q):=⟨_,rfl⟩;rw[HX.out];unfold CfE;simp only;rw[HNX.out];rw[HNL.out]at hL h1⊢;rw[HNR.out]at hR h2⊢;have hsl:s.length=n:=hp.1;obtain⟨w0,hw0,T0,hsz0,BP,BQ⟩:=q1p w #[.int .i64 k,.slice AL y cL,.slice AR B cR,.slice AV u cV] #[.int .i64 0,.slice none 0 0,.slice none 0 0,.slice none 0 0] 57 57;have HW0:=zaa hw0;have HC:Hid (∀wz,Below w0.heap.size w0 wz->Calls Tryz.prog 109 #[.agg #[.slice AL y cL,.slice AR B cR]] wz fun e w'=>∃E G F H,e=.returned (.agg #[.slice E y G,.slice F B H])/\w'.ownsRow wz.heap.size 3 1 (.slice E y G) y (ints L)/\w'.ownsRow wz.heap.size 3 1 (.slice F B H) B (ints R)/\Apart (.slice E y G) (.slice F B H)/\Below wz.heap.size wz w'):=fun wz hz=>by
  have:=qdq AL y cL AR B cR L R wz ((hL.next qd T0).next qd hz) ((hR.next qd T0).next qd hz) h1 h2;unfold CeE at this;rw[HNL.out,HNR.out]at this;exact this
 have HVR:Hid (∀wz,Below w0.heap.size w0 wz->RdL RI wz AV u V):=fun wz hz=>(hV.next qd T0).next qd hz
 have HSR:Hid (∀wz,Below w0.heap.size w0 wz->RdL RI wz AS n s):=fun wz hz=>(hS.next qd T0).next qd hz
 have HP:=zaa hp;have HVI:=zaa hVi;have HVL:=zaa hV.len;have HK1:=zaa hk1;have H35:=zaa h35;have H46:=zaa h46;have HSL:=zaa hsl;obtain⟨a,d,f,D⟩:=cl4 BP;have HCP:Hid (w0.cell? ⟨w.heap.size,0,none⟩=some (.int .i64 k)/\w0.cell? ⟨w.heap.size,1,none⟩=some (.slice AL y cL)/\w0.cell? ⟨w.heap.size,2,none⟩=some (.slice AR B cR)/\w0.cell? ⟨w.heap.size,3,none⟩=some (.slice AV u cV)):=⟨a,d,f,D⟩;have hs0:w.heap.size+1<w0.heap.size:=by omega
 have HT0:=zaa T0;have t:Below w0.heap.size w0 w0:=zab _ _;clear hw0 hsz0 hL hR hV hS hp hVi hk1 h35 h46 hsl T0
 go_enter Tryz.func65,Tryz.ntmps65
 go_upto_region 1 with fail;rw[<-HW0.out];have c00:=a;have c01:=d;have c02:=f;have c03:=D;have c00:=a;have c01:=d;have c02:=f;have c03:=D;have c00:=a;have c01:=d;have c02:=f;have c03:=D;have c00:=a;have c01:=d;have c02:=f;have c03:=D;have c00:=a;have c01:=d;have c02:=f;have c03:=D;have c00:=a;have c01:=d;have c02:=f;have c03:=D;have c00:=a;have c01:=d;have c02:=f;have c03:=D
 go_cut [5]from 8 to 14 (fun u5 wx=>∃g ge E G F H,u5=.pointer (some ⟨g,0,none⟩)/\w0.heap.size<=g/\Blk wx g 57 #[.int .i64 k,.slice E y G,.slice F B H,.slice (some ⟨ge,0,none⟩) 0 0]/\wx.ownsRow w0.heap.size 3 1 (.slice E y G) y (ints L)/\wx.ownsRow w0.heap.size 3 1 (.slice F B H) B (ints R)/\wx.ownsRow w0.heap.size 3 1 (.slice (some ⟨ge,0,none⟩) 0 0) 0 []/\Below w0.heap.size w0 wx/\Apart (.slice E y G) (.slice F B H)/\Apart (.slice E y G) (.slice (some ⟨ge,0,none⟩) 0 0)/\Apart (.slice F B H) (.slice (some ⟨ge,0,none⟩) 0 0))
 case first=>
  refine zb1 (S:=fun w'=>w'.cell? ⟨w.heap.size,0,none⟩=some (.int .i64 k)/\w'.cell? ⟨w.heap.size,1,none⟩=some (.slice AL y cL)/\w'.cell? ⟨w.heap.size,2,none⟩=some (.slice AR B cR)) (by kernel_rfl) ⟨a,d,f⟩ (fun hHeld0=>?_);obtain⟨J,af⟩:∃x,Hid (x=World.drew w0):=⟨_,rfl⟩;have r:Below w0.heap.size w0 J:=by rw[af.out];exact(zab _ _).drew
  rw[<-af.out]at hHeld0⊢;have ywt1:=r.size;replace t:=q9 t r rfl;have O:=kk3 r a d f;clear a d f;obtain⟨a,d,f⟩:=O;refine tp 0 (.pointer (some ⟨w.heap.size,0,none⟩)) rfl ?_;refine tk 1 (.int .i64 k) rfl (.inl ⟨by kernel_rfl,fun wv P=>by(obtain⟨hS0,hS1,hS2⟩:=P);go_simp⟩) ?_;refine tp 2 (.pointer (some ⟨w.heap.size,1,none⟩)) rfl ?_;refine tk 3 (.agg #[.slice AL y cL,.slice AR B cR]) rfl (.inl ⟨by kernel_rfl,fun wv P=>by(obtain⟨hS0,hS1,hS2⟩:=P);go_simp⟩) ?_
  (try simp only[Act.put,zA,zB,zC,zD,zE,zF])
  refine zft (rs:= [4,5,7]) (by kernel_rfl) (by simp) ?_;refine(zd3 rfl (fun K hK=>?_) (zd3 rfl (fun K hK=>?_) (zd3 rfl (fun K hK=>?_) AllReadyH.nil)))
  .go_simp
   refine(HC.out _ t).mono ?_;rintro e T ⟨E,G,F,H,rfl,l,o,aa,M⟩;replace l:=qh (base':=w0.heap.size) l t.size;replace o:=qh (base':=w0.heap.size) o t.size;go_wp2_with fail;have ywt2:=M.size;replace t:=q9 t M rfl;have O:=kk3 M a d f;clear a d f;obtain⟨a,d,f⟩:=O;refine hK.out _ _ ⟨a,d,f⟩ (fun hHeld1=>?_);clear hK K hHeld0
   (try simp only[Act.put,zA,zB,zC,zD,zE,zF])
   refine r2 5 7 rfl (fun K hK=>?_) rfl (fun K hK=>?_)
   .have hq1:=l
    have hq2:=o;go_simp;obtain⟨ak,ae,hbwt3,Bwt3,zwt3⟩:=al T #[] 3;rw[<-ae.out];replace t:=q9 t hbwt3 rfl;replace l:=ql l hbwt3;replace o:=ql o hbwt3;have O:=kk3 hbwt3 a d f;clear a d f;obtain⟨a,d,f⟩:=O;have Owt3:ak.ownsRow T.heap.size 3 1 (.slice (some ⟨T.heap.size,0,none⟩) 0 0) 0 []:=by rw[ae.out];exact zby T #[] 0 (zad _) (zah _) rfl
    refine hK.out _ _ ⟨a,d,f⟩ (fun hHeld2=>?_);clear hK K hHeld1
    (try simp only[Act.put,zA,zB,zC,zD,zE,zF])
    have U:Apart (.slice E y G) (.slice (some ⟨T.heap.size,0,none⟩) 0 0):=qx hq1 Owt3 (zad _);have W:Apart (.slice F B H) (.slice (some ⟨T.heap.size,0,none⟩) 0 0):=qx hq2 Owt3 (zad _);refine tp 6 (.agg #[.int .i64 k,.slice E y G,.slice F B H,.slice (some ⟨T.heap.size,0,none⟩) 0 0]) rfl ?_
    (try simp only[Act.put,zA,zB,zC,zD,zE,zF])
    refine r1 7 rfl (fun K hK=>?_);go_simp;obtain⟨wt4,Hwt4,hbwt4,Bwt4,zwt4⟩:=al ak #[.int .i64 0,.slice none 0 0,.slice none 0 0,.slice none 0 0] 57;rw[<-Hwt4.out];replace t:=q9 t hbwt4 rfl;replace l:=ql l hbwt4;replace o:=ql o hbwt4;replace Owt3:=ql Owt3 hbwt4;have O:=kk3 hbwt4 a d f;clear a d f;obtain⟨a,d,f⟩:=O;refine hK.out _ _ ⟨a,d,f⟩ (fun hHeld3=>?_);clear hK K hHeld2
    (try simp only[Act.put,zA,zB,zC,zD,zE,zF])
    refine r1 8 rfl (fun K hK=>?_);obtain⟨gC0,gC1,gC2,I,gF0,gF1,gF2,gF3⟩:=cf4 Bwt4;go_simp;obtain⟨wt5,Hwt5⟩:∃x,Hid (x=(((wt4.setCell ⟨ak.heap.size,0,none⟩ (.int .i64 k)).setCell ⟨ak.heap.size,1,none⟩ (.slice E y G)).setCell ⟨ak.heap.size,2,none⟩ (.slice F B H)).setCell ⟨ak.heap.size,3,none⟩ (.slice (some ⟨T.heap.size,0,none⟩) 0 0)):=⟨_,rfl⟩;rw[<-Hwt5.out];have hge:w0.heap.size<=ak.heap.size:=by omega
    have hee:w0.heap.size<=T.heap.size:=by omega
    have HF:=q8a (w0:=w0) (g:=ak.heap.size) (k:=k) Bwt4 l o (qh Owt3 hee) t hge _ Hwt5.out;obtain⟨ai,C⟩:=HF;have ab:Hid (Apart (.slice E y G) (.slice F B H)/\Apart (.slice E y G) (.slice (some ⟨T.heap.size,0,none⟩) 0 0)/\Apart (.slice F B H) (.slice (some ⟨T.heap.size,0,none⟩) 0 0)):=⟨aa,U,W⟩;replace a:=qe C.2.2.2 c00;replace d:=qe C.2.2.2 c01;replace f:=qe C.2.2.2 c02;refine hK.out _ _ ⟨a,d,f⟩ (fun hHeld4=>?_);clear hK K hHeld3
    (try simp only[Act.put,zA,zB,zC,zD,zE,zF])
    refine zbg (by kernel_rfl) ?_ _;go_wp2_with fail;go_meet;exact⟨_,_,E,G,F,H,rfl,by omega,ai,C.1,C.2.1,C.2.2.1,C.2.2.2,ab.out.1,ab.out.2.1,ab.out.2.2⟩
   .go_simp
    obtain⟨wt6,Hwt6,hbwt6,Bwt6,zwt6⟩:=al T #[.int .i64 0,.slice none 0 0,.slice none 0 0,.slice none 0 0] 57;rw[<-Hwt6.out];replace t:=q9 t hbwt6 rfl;replace l:=ql l hbwt6;replace o:=ql o hbwt6;have O:=kk3 hbwt6 a d f;clear a d f;obtain⟨a,d,f⟩:=O;refine hK.out _ _ ⟨a,d,f⟩ (fun hHeld2=>?_);clear hK K hHeld1
    (try simp only[Act.put,zA,zB,zC,zD,zE,zF])
    refine r1 5 rfl (fun K hK=>?_);have hq1:=l;have hq2:=o;go_simp;obtain⟨wt7,Hwt7,hbwt7,Bwt7,zwt7⟩:=al wt6 #[] 3;rw[<-Hwt7.out];replace t:=q9 t hbwt7 rfl;replace l:=ql l hbwt7;replace o:=ql o hbwt7;replace Bwt6:=Bwt6.next hbwt7;have O:=kk3 hbwt7 a d f;clear a d f;obtain⟨a,d,f⟩:=O;have Owt7:wt7.ownsRow wt6.heap.size 3 1 (.slice (some ⟨wt6.heap.size,0,none⟩) 0 0) 0 []:=by rw[Hwt7.out];exact zby wt6 #[] 0 (zad _) (zah _) rfl
    refine hK.out _ _ ⟨a,d,f⟩ (fun hHeld3=>?_);clear hK K hHeld2
    (try simp only[Act.put,zA,zB,zC,zD,zE,zF])
    have U:Apart (.slice E y G) (.slice (some ⟨wt6.heap.size,0,none⟩) 0 0):=qx hq1 Owt7 (zad _);have W:Apart (.slice F B H) (.slice (some ⟨wt6.heap.size,0,none⟩) 0 0):=qx hq2 Owt7 (zad _);refine tp 6 (.agg #[.int .i64 k,.slice E y G,.slice F B H,.slice (some ⟨wt6.heap.size,0,none⟩) 0 0]) rfl ?_
    (try simp only[Act.put,zA,zB,zC,zD,zE,zF])
    refine r1 8 rfl (fun K hK=>?_);obtain⟨gC0,gC1,gC2,I,gF0,gF1,gF2,gF3⟩:=cf4 Bwt6;go_simp;obtain⟨wt8,Hwt8⟩:∃x,Hid (x=(((wt7.setCell ⟨T.heap.size,0,none⟩ (.int .i64 k)).setCell ⟨T.heap.size,1,none⟩ (.slice E y G)).setCell ⟨T.heap.size,2,none⟩ (.slice F B H)).setCell ⟨T.heap.size,3,none⟩ (.slice (some ⟨wt6.heap.size,0,none⟩) 0 0)):=⟨_,rfl⟩;rw[<-Hwt8.out];have hge:w0.heap.size<=T.heap.size:=by omega
    have hee:w0.heap.size<=wt6.heap.size:=by omega
    have HF:=q8a (w0:=w0) (g:=T.heap.size) (k:=k) Bwt6 l o (qh Owt7 hee) t hge _ Hwt8.out;obtain⟨ai,C⟩:=HF;have ab:Hid (Apart (.slice E y G) (.slice F B H)/\Apart (.slice E y G) (.slice (some ⟨wt6.heap.size,0,none⟩) 0 0)/\Apart (.slice F B H) (.slice (some ⟨wt6.heap.size,0,none⟩) 0 0)):=⟨aa,U,W⟩;replace a:=qe C.2.2.2 c00;replace d:=qe C.2.2.2 c01;replace f:=qe C.2.2.2 c02;refine hK.out _ _ ⟨a,d,f⟩ (fun hHeld4=>?_);clear hK K hHeld3
    (try simp only[Act.put,zA,zB,zC,zD,zE,zF])
    refine zbg (by kernel_rfl) ?_ _;go_wp2_with fail;go_meet;exact⟨_,_,E,G,F,H,rfl,by omega,ai,C.1,C.2.1,C.2.2.1,C.2.2.2,ab.out.1,ab.out.2.1,ab.out.2.2⟩
  .skip
   go_simp;obtain⟨wt9,Hwt9,hbwt9,Bwt9,zwt9⟩:=al J #[] 3;rw[<-Hwt9.out];replace t:=q9 t hbwt9 rfl;have O:=kk3 hbwt9 a d f;clear a d f;obtain⟨a,d,f⟩:=O;have ag:wt9.ownsRow J.heap.size 3 1 (.slice (some ⟨J.heap.size,0,none⟩) 0 0) 0 []:=by rw[Hwt9.out];exact zby J #[] 0 (zad _) (zah _) rfl
   refine hK.out _ _ ⟨a,d,f⟩ (fun hHeld1=>?_);clear hK K hHeld0
   (try simp only[Act.put,zA,zB,zC,zD,zE,zF])
   refine r2 4 7 rfl (fun K hK=>?_) rfl (fun K hK=>?_)
   .go_simp
    refine(HC.out _ t).mono ?_;rintro e wt10 ⟨E,G,F,H,rfl,l,o,aa,hbwt10⟩;have U:=(qx ag l (zad _)).symm;have W:=(qx ag o (zad _)).symm;replace l:=qh (base':=w0.heap.size) l t.size;replace o:=qh (base':=w0.heap.size) o t.size;go_wp2_with fail;have ywt10:=hbwt10.size;replace t:=q9 t hbwt10 rfl;replace ag:=ql ag hbwt10;have O:=kk3 hbwt10 a d f;clear a d f;obtain⟨a,d,f⟩:=O;refine hK.out _ _ ⟨a,d,f⟩ (fun hHeld2=>?_);clear hK K hHeld1;refine tp 6 (.agg #[.int .i64 k,.slice E y G,.slice F B H,.slice (some ⟨J.heap.size,0,none⟩) 0 0]) rfl ?_
    (try simp only[Act.put,zA,zB,zC,zD,zE,zF])
    refine r1 7 rfl (fun K hK=>?_);go_simp;obtain⟨wt11,Hwt11,hbwt11,Bwt11,zwt11⟩:=al wt10 #[.int .i64 0,.slice none 0 0,.slice none 0 0,.slice none 0 0] 57;rw[<-Hwt11.out];replace t:=q9 t hbwt11 rfl;replace ag:=ql ag hbwt11;replace l:=ql l hbwt11;replace o:=ql o hbwt11;have O:=kk3 hbwt11 a d f;clear a d f;obtain⟨a,d,f⟩:=O;refine hK.out _ _ ⟨a,d,f⟩ (fun hHeld3=>?_);clear hK K hHeld2
    (try simp only[Act.put,zA,zB,zC,zD,zE,zF])
    refine r1 8 rfl (fun K hK=>?_);obtain⟨gC0,gC1,gC2,I,gF0,gF1,gF2,gF3⟩:=cf4 Bwt11;go_simp;obtain⟨wt12,Hwt12⟩:∃x,Hid (x=(((wt11.setCell ⟨wt10.heap.size,0,none⟩ (.int .i64 k)).setCell ⟨wt10.heap.size,1,none⟩ (.slice E y G)).setCell ⟨wt10.heap.size,2,none⟩ (.slice F B H)).setCell ⟨wt10.heap.size,3,none⟩ (.slice (some ⟨J.heap.size,0,none⟩) 0 0)):=⟨_,rfl⟩;rw[<-Hwt12.out];have hge:w0.heap.size<=wt10.heap.size:=by omega
    have hee:w0.heap.size<=J.heap.size:=by omega
    have HF:=q8a (w0:=w0) (g:=wt10.heap.size) (k:=k) Bwt11 l o (qh ag hee) t hge _ Hwt12.out;obtain⟨ai,C⟩:=HF;have ab:Hid (Apart (.slice E y G) (.slice F B H)/\Apart (.slice E y G) (.slice (some ⟨J.heap.size,0,none⟩) 0 0)/\Apart (.slice F B H) (.slice (some ⟨J.heap.size,0,none⟩) 0 0)):=⟨aa,U,W⟩;replace a:=qe C.2.2.2 c00;replace d:=qe C.2.2.2 c01;replace f:=qe C.2.2.2 c02;refine hK.out _ _ ⟨a,d,f⟩ (fun hHeld4=>?_);clear hK K hHeld3
    (try simp only[Act.put,zA,zB,zC,zD,zE,zF])
    refine zbg (by kernel_rfl) ?_ _;go_wp2_with fail;go_meet;exact⟨_,_,E,G,F,H,rfl,by omega,ai,C.1,C.2.1,C.2.2.1,C.2.2.2,ab.out.1,ab.out.2.1,ab.out.2.2⟩
   .go_simp
    obtain⟨wt13,Hwt13,hbwt13,Bwt13,zwt13⟩:=al wt9 #[.int .i64 0,.slice none 0 0,.slice none 0 0,.slice none 0 0] 57;rw[<-Hwt13.out];replace t:=q9 t hbwt13 rfl;replace ag:=ql ag hbwt13;have O:=kk3 hbwt13 a d f;clear a d f;obtain⟨a,d,f⟩:=O;refine hK.out _ _ ⟨a,d,f⟩ (fun hHeld2=>?_);clear hK K hHeld1
    (try simp only[Act.put,zA,zB,zC,zD,zE,zF])
    refine r1 4 rfl (fun K hK=>?_);go_simp;refine(HC.out _ t).mono ?_;rintro e wt14 ⟨E,G,F,H,rfl,l,o,aa,hbwt14⟩;have U:=(qx ag l (zad _)).symm;have W:=(qx ag o (zad _)).symm;replace l:=qh (base':=w0.heap.size) l t.size;replace o:=qh (base':=w0.heap.size) o t.size;go_wp2_with fail;replace t:=q9 t hbwt14 rfl;replace ag:=ql ag hbwt14;replace Bwt13:=Bwt13.next hbwt14;have O:=kk3 hbwt14 a d f;clear a d f;obtain⟨a,d,f⟩:=O;refine hK.out _ _ ⟨a,d,f⟩ (fun hHeld3=>?_);clear hK K hHeld2;refine tp 6 (.agg #[.int .i64 k,.slice E y G,.slice F B H,.slice (some ⟨J.heap.size,0,none⟩) 0 0]) rfl ?_
    (try simp only[Act.put,zA,zB,zC,zD,zE,zF])
    refine r1 8 rfl (fun K hK=>?_);obtain⟨gC0,gC1,gC2,I,gF0,gF1,gF2,gF3⟩:=cf4 Bwt13;go_simp;obtain⟨wt15,Hwt15⟩:∃x,Hid (x=(((wt14.setCell ⟨wt9.heap.size,0,none⟩ (.int .i64 k)).setCell ⟨wt9.heap.size,1,none⟩ (.slice E y G)).setCell ⟨wt9.heap.size,2,none⟩ (.slice F B H)).setCell ⟨wt9.heap.size,3,none⟩ (.slice (some ⟨J.heap.size,0,none⟩) 0 0)):=⟨_,rfl⟩;rw[<-Hwt15.out];have hge:w0.heap.size<=wt9.heap.size:=by omega
    have hee:w0.heap.size<=J.heap.size:=by omega
    have HF:=q8a (w0:=w0) (g:=wt9.heap.size) (k:=k) Bwt13 l o (qh ag hee) t hge _ Hwt15.out;obtain⟨ai,C⟩:=HF;have ab:Hid (Apart (.slice E y G) (.slice F B H)/\Apart (.slice E y G) (.slice (some ⟨J.heap.size,0,none⟩) 0 0)/\Apart (.slice F B H) (.slice (some ⟨J.heap.size,0,none⟩) 0 0)):=⟨aa,U,W⟩;replace a:=qe C.2.2.2 c00;replace d:=qe C.2.2.2 c01;replace f:=qe C.2.2.2 c02;refine hK.out _ _ ⟨a,d,f⟩ (fun hHeld4=>?_);clear hK K hHeld3
    (try simp only[Act.put,zA,zB,zC,zD,zE,zF])
    refine zbg (by kernel_rfl) ?_ _;go_wp2_with fail;go_meet;exact⟨_,_,E,G,F,H,rfl,by omega,ai,C.1,C.2.1,C.2.2.1,C.2.2.2,ab.out.1,ab.out.2.1,ab.out.2.2⟩
  .go_simp
   obtain⟨wt16,Hwt16,hbwt16,ad,zwt16⟩:=al J #[.int .i64 0,.slice none 0 0,.slice none 0 0,.slice none 0 0] 57;rw[<-Hwt16.out];replace t:=q9 t hbwt16 rfl;have O:=kk3 hbwt16 a d f;clear a d f;obtain⟨a,d,f⟩:=O;refine hK.out _ _ ⟨a,d,f⟩ (fun hHeld1=>?_);clear hK K hHeld0
   (try simp only[Act.put,zA,zB,zC,zD,zE,zF])
   refine r2 4 5 rfl (fun K hK=>?_) rfl (fun K hK=>?_)
   .go_simp
    refine(HC.out _ t).mono ?_;rintro e wt17 ⟨E,G,F,H,rfl,l,o,aa,hbwt17⟩;replace l:=qh (base':=w0.heap.size) l t.size;replace o:=qh (base':=w0.heap.size) o t.size;go_wp2_with fail;have ywt17:=hbwt17.size;replace t:=q9 t hbwt17 rfl;replace ad:=ad.next hbwt17;have O:=kk3 hbwt17 a d f;clear a d f;obtain⟨a,d,f⟩:=O;refine hK.out _ _ ⟨a,d,f⟩ (fun hHeld2=>?_);clear hK K hHeld1
    (try simp only[Act.put,zA,zB,zC,zD,zE,zF])
    refine r1 5 rfl (fun K hK=>?_);have hq1:=l;have hq2:=o;go_simp;obtain⟨wt18,Hwt18,hbwt18,Bwt18,zwt18⟩:=al wt17 #[] 3;rw[<-Hwt18.out];replace t:=q9 t hbwt18 rfl;replace ad:=ad.next hbwt18;replace l:=ql l hbwt18;replace o:=ql o hbwt18;have O:=kk3 hbwt18 a d f;clear a d f;obtain⟨a,d,f⟩:=O;have Owt18:wt18.ownsRow wt17.heap.size 3 1 (.slice (some ⟨wt17.heap.size,0,none⟩) 0 0) 0 []:=by rw[Hwt18.out];exact zby wt17 #[] 0 (zad _) (zah _) rfl
    refine hK.out _ _ ⟨a,d,f⟩ (fun hHeld3=>?_);clear hK K hHeld2
    (try simp only[Act.put,zA,zB,zC,zD,zE,zF])
    have U:Apart (.slice E y G) (.slice (some ⟨wt17.heap.size,0,none⟩) 0 0):=qx hq1 Owt18 (zad _);have W:Apart (.slice F B H) (.slice (some ⟨wt17.heap.size,0,none⟩) 0 0):=qx hq2 Owt18 (zad _);refine tp 6 (.agg #[.int .i64 k,.slice E y G,.slice F B H,.slice (some ⟨wt17.heap.size,0,none⟩) 0 0]) rfl ?_
    (try simp only[Act.put,zA,zB,zC,zD,zE,zF])
    refine r1 8 rfl (fun K hK=>?_);obtain⟨gC0,gC1,gC2,I,gF0,gF1,gF2,gF3⟩:=cf4 ad;go_simp;obtain⟨wt19,Hwt19⟩:∃x,Hid (x=(((wt18.setCell ⟨J.heap.size,0,none⟩ (.int .i64 k)).setCell ⟨J.heap.size,1,none⟩ (.slice E y G)).setCell ⟨J.heap.size,2,none⟩ (.slice F B H)).setCell ⟨J.heap.size,3,none⟩ (.slice (some ⟨wt17.heap.size,0,none⟩) 0 0)):=⟨_,rfl⟩;rw[<-Hwt19.out];have hge:w0.heap.size<=J.heap.size:=by omega
    have hee:w0.heap.size<=wt17.heap.size:=by omega
    have HF:=q8a (w0:=w0) (g:=J.heap.size) (k:=k) ad l o (qh Owt18 hee) t hge _ Hwt19.out;obtain⟨ai,C⟩:=HF;have ab:Hid (Apart (.slice E y G) (.slice F B H)/\Apart (.slice E y G) (.slice (some ⟨wt17.heap.size,0,none⟩) 0 0)/\Apart (.slice F B H) (.slice (some ⟨wt17.heap.size,0,none⟩) 0 0)):=⟨aa,U,W⟩;replace a:=qe C.2.2.2 c00;replace d:=qe C.2.2.2 c01;replace f:=qe C.2.2.2 c02;refine hK.out _ _ ⟨a,d,f⟩ (fun hHeld4=>?_);clear hK K hHeld3
    (try simp only[Act.put,zA,zB,zC,zD,zE,zF])
    refine zbg (by kernel_rfl) ?_ _;go_wp2_with fail;go_meet;exact⟨_,_,E,G,F,H,rfl,by omega,ai,C.1,C.2.1,C.2.2.1,C.2.2.2,ab.out.1,ab.out.2.1,ab.out.2.2⟩
   .skip
    go_simp;obtain⟨wt20,Hwt20,hbwt20,Bwt20,zwt20⟩:=al wt16 #[] 3;rw[<-Hwt20.out];replace t:=q9 t hbwt20 rfl;replace ad:=ad.next hbwt20;have O:=kk3 hbwt20 a d f;clear a d f;obtain⟨a,d,f⟩:=O;have Owt20:wt20.ownsRow wt16.heap.size 3 1 (.slice (some ⟨wt16.heap.size,0,none⟩) 0 0) 0 []:=by rw[Hwt20.out];exact zby wt16 #[] 0 (zad _) (zah _) rfl
    refine hK.out _ _ ⟨a,d,f⟩ (fun hHeld2=>?_);clear hK K hHeld1
    (try simp only[Act.put,zA,zB,zC,zD,zE,zF])
    refine r1 4 rfl (fun K hK=>?_);go_simp;refine(HC.out _ t).mono ?_;rintro e wt21 ⟨E,G,F,H,rfl,l,o,aa,hbwt21⟩;have U:=(qx Owt20 l (zad _)).symm;have W:=(qx Owt20 o (zad _)).symm;replace l:=qh (base':=w0.heap.size) l t.size;replace o:=qh (base':=w0.heap.size) o t.size;go_wp2_with fail;replace t:=q9 t hbwt21 rfl;replace ad:=ad.next hbwt21;replace Owt20:=ql Owt20 hbwt21;have O:=kk3 hbwt21 a d f;clear a d f;obtain⟨a,d,f⟩:=O;refine hK.out _ _ ⟨a,d,f⟩ (fun hHeld3=>?_);clear hK K hHeld2;refine tp 6 (.agg #[.int .i64 k,.slice E y G,.slice F B H,.slice (some ⟨wt16.heap.size,0,none⟩) 0 0]) rfl ?_
    (try simp only[Act.put,zA,zB,zC,zD,zE,zF])
    refine r1 8 rfl (fun K hK=>?_);obtain⟨gC0,gC1,gC2,I,gF0,gF1,gF2,gF3⟩:=cf4 ad;go_simp;obtain⟨wt22,Hwt22⟩:∃x,Hid (x=(((wt21.setCell ⟨J.heap.size,0,none⟩ (.int .i64 k)).setCell ⟨J.heap.size,1,none⟩ (.slice E y G)).setCell ⟨J.heap.size,2,none⟩ (.slice F B H)).setCell ⟨J.heap.size,3,none⟩ (.slice (some ⟨wt16.heap.size,0,none⟩) 0 0)):=⟨_,rfl⟩;rw[<-Hwt22.out];have hge:w0.heap.size<=J.heap.size:=by omega
    have hee:w0.heap.size<=wt16.heap.size:=by omega
    have HF:=q8a (w0:=w0) (g:=J.heap.size) (k:=k) ad l o (qh Owt20 hee) t hge _ Hwt22.out;obtain⟨ai,C⟩:=HF;have ab:Hid (Apart (.slice E y G) (.slice F B H)/\Apart (.slice E y G) (.slice (some ⟨wt16.heap.size,0,none⟩) 0 0)/\Apart (.slice F B H) (.slice (some ⟨wt16.heap.size,0,none⟩) 0 0)):=⟨aa,U,W⟩;replace a:=qe C.2.2.2 c00;replace d:=qe C.2.2.2 c01;replace f:=qe C.2.2.2 c02;refine hK.out _ _ ⟨a,d,f⟩ (fun hHeld4=>?_);clear hK K hHeld3
    (try simp only[Act.put,zA,zB,zC,zD,zE,zF])
    refine zbg (by kernel_rfl) ?_ _;go_wp2_with fail;go_meet;exact⟨_,_,E,G,F,H,rfl,by omega,ai,C.1,C.2.1,C.2.2.1,C.2.2.2,ab.out.1,ab.out.2.1,ab.out.2.2⟩
 case rest=>
  clear t c00 c01 c02 c03;obtain⟨g,ge,E,G,F,H,rfl,hgl,Z,l,o,hoe,t,aa,U,W⟩:=hcut;obtain⟨w1,HWC⟩:∃wq:World,wq=wc:=⟨_,rfl⟩;subst HWC;have hz1:=t.size;have hg1:=Z.lt;have HA12:=zaa aa;clear aa;replace a:=qe t HCP.out.1;replace d:=qe t HCP.out.2.1;replace f:=qe t HCP.out.2.2.1;replace D:=qe t HCP.out.2.2.2;obtain⟨gC0,gC1,gC2,I,gF0,gF1,gF2,gF3⟩:=cf4 Z
  go_upto_block 0 with fail
  go_cut []from 6 to 73 (fun wx=>∃A3 m c3 Y,Blk wx g 57 #[.int .i64 k,.slice E y G,.slice F B H,.slice A3 m c3]/\wx.ownsRow w0.heap.size 3 1 (.slice E y G) y (ints L)/\wx.ownsRow w0.heap.size 3 1 (.slice F B H) B (ints R)/\wx.ownsRow w0.heap.size 3 1 (.slice A3 m c3) m (ints Y)/\Below w0.heap.size w0 wx/\Apart (.slice E y G) (.slice F B H)/\Apart (.slice E y G) (.slice A3 m c3)/\Apart (.slice F B H) (.slice A3 m c3)/\(k=4->kerL Y=X/\m=n/\InL n Y)/\(k≠4->Y=X))
  case first=>
   obtain⟨cV',hcV⟩:∃c,c=cV:=⟨_,rfl⟩;subst hcV;obtain rfl|rfl|rfl|rfl|rfl|rfl:k=1\/k=2\/k=3\/k=4\/k=5\/k=6:=by omega
   .
    have HXV:Hid ([]=X):=by show _=_;rw[<-HX.out,HK1.out rfl];simp[rfL]
    go_wp2_with fail;go_meet;exact⟨some ⟨ge,0,none⟩,0,0, [],Z,l,o,hoe,t,HA12.out,U,W,fun h=>absurd h (by decide),fun _=>HXV.out⟩
   .
    have HIM:Hid (Calls Tryz.prog 117 #[.slice AS n cS,.slice AV u cV'] w1 fun e w'=>∃A c,e=.returned (.slice A nX c)/\w'.ownsRow w1.heap.size 3 1 (.slice A nX c) nX (ints X)/\Below w1.heap.size w1 w'):=by
     have hnv:=qod HVI.out;have:=q8v AS AV n cS u cV' s (V.map Int.toNat) w1 (HSR.out w1 t) ⟨HP.out.1,HP.out.2.1⟩ (by rw[hnv.1];exact HVR.out w1 t) hnv.2 h3 hn;unfold OwI at this;rw[qj2 HP.out HVI.out]at this;have hx:comp V s=X:=by rw[<-HX.out];simp[rfL]
     rw[hx,HNX.out]at this;exact this
    go_wp2_with fail;refine HIM.out.mono ?_;rintro e w2 ⟨A3,c3,rfl,ho3,hb2⟩;have BG2:=Z.next hb2;have T2:=q9 t hb2 rfl;have hq1:=ql l hb2;have hq2:=ql o hb2;have ha13:=qx l ho3 (zad _);have ha23:=qx o ho3 (zad _);have gD3:=BG2.cell 3;simp at gD3;have gE3:=BG2.frozen 3;obtain⟨w3,HW3⟩:∃x,Hid (x=w2.setCell ⟨g,3,none⟩ (.slice A3 nX c3)):=⟨_,rfl⟩;have ah:Blk w3 g 57 #[.int .i64 2,.slice E y G,.slice F B H,.slice A3 nX c3]:=by rw[HW3.out];simpa using BG2.set_ 3 (.slice A3 nX c3)
    have hr1:w3.ownsRow w0.heap.size 3 1 (.slice E y G) y (ints L):=by rw[HW3.out];exact q1c hq1 BG2 (by decide)
    have hr2:w3.ownsRow w0.heap.size 3 1 (.slice F B H) B (ints R):=by rw[HW3.out];exact q1c hq2 BG2 (by decide)
    have hr3:w3.ownsRow w0.heap.size 3 1 (.slice A3 nX c3) nX (ints X):=by rw[HW3.out];exact q1c (qh ho3 hz1) BG2 (by decide)
    have T3:Below w0.heap.size w0 w3:=by rw[HW3.out];exact T2.setCell (p:=⟨g,3,none⟩) (by exact hgl) _
    have HH:=zaa (zap ah (zap hr1 (zap hr2 (zap hr3 (zap T3 (zap ha13 ha23))))));clear ah hr1 hr2 hr3 T3 ha13 ha23 Z l o hoe gC0 gC1 gC2 I gF0 gF1 gF2 gF3 hq1 hq2 ho3 a d f D;go_wp2_with fail;rw[<-HW3.out];go_meet;exact⟨A3,nX,c3,X,HH.out.1,HH.out.2.1,HH.out.2.2.1,HH.out.2.2.2.1,HH.out.2.2.2.2.1,HA12.out,HH.out.2.2.2.2.2.1,HH.out.2.2.2.2.2.2,fun h=>absurd h (by decide),fun _=>rfl⟩
   .
    have HXE:Hid (X=q1n n fun z=>hasI (z:Int) (comp V s)):=by
     show X=_
     rw[<-HX.out];unfold rfL;rw[zaj (by decide),zao (by decide),HSL.out]
    go_wp2_with fail
    go_loopw [6] (fun i wr=>∃(j b m c3:Nat) (Y:List Int),j<=u/\i=.int .i64 j/\Blk wr g 57 #[.int .i64 3,.slice E y G,.slice F B H,.slice (some ⟨b,0,none⟩) m c3]/\wr.ownsRow w0.heap.size 3 1 (.slice E y G) y (ints L)/\wr.ownsRow w0.heap.size 3 1 (.slice F B H) B (ints R)/\wr.ownsRow w0.heap.size 3 1 (.slice (some ⟨b,0,none⟩) m c3) m (ints Y)/\Hid (Y=q1n n fun z=>hasI (z:Int) (comp (V.take j) s))/\Below w0.heap.size w0 wr/\Apart (.slice E y G) (.slice (some ⟨b,0,none⟩) m c3)/\Apart (.slice F B H) (.slice (some ⟨b,0,none⟩) m c3)) (fun i _=>u - (intOf i).toNat)
    case atStart=>exact⟨0,ge,0,0, [],zah _,rfl,Z,l,o,hoe,(by show _=_;rw[zc4];simp[comp,q1n,hasI]),t,U,W⟩
    case round=>
     clear Z l o hoe t U W gC0 gC1 gC2 I gF0 gF1 gF2 gF3 a d f D hz1 hg1;obtain⟨j,b,m,c3,Y,hj,rfl,Z,l,o,hoY,HYE,t,am,an⟩:=hrel;have D:=qe t HCP.out.2.2.2;have I:=Z.cell 3;simp at I
     by_cases hlt:j<u
     .have hj0:(0:Int)<=(j:Int):=by omega
      have hj1:(j:Int)<(u:Int):=by omega
      obtain⟨bv,ov,vv,vz,hAV,cV0,⟨rfl,-,-⟩,-,hvx⟩:=(HVR.out w0 (zab _ _)).at hlt;subst hAV;have hvi:=HVI.out vz (zaf hvx);obtain⟨N,rfl⟩:=zam hvi.1;have hvn:N<n:=by omega
      obtain⟨bs,os,vs,vn,hAS,cN0,⟨rfl,-,-⟩,-,hnx⟩:=(HSR.out w0 (zab _ _)).at hvn;subst hAS;obtain rfl:nmI s (N:Int)=vn:=by unfold nmI;rw[za1,zan,hnx];rfl
      have cV:=qe t cV0;have cN:=qe t cN0;have HCV:Hid (w0.cell? ⟨w.heap.size,3,none⟩=some (.slice (some ⟨bv,ov,none⟩) u cV')/\w0.cell? ⟨bv,ov+j,none⟩=some (.int .i64 (N:Int))/\w0.cell? ⟨bs,os+N,none⟩=some (.int .i64 (nmI s (N:Int)))):=⟨HCP.out.2.2.2,cV0,cN0⟩;have hv0:(0:Int)<=(N:Int):=by omega
      have hv1:(N:Int)<(n:Int):=by omega
      have hnz:=qe7 HP.out hv0 hvi.2;have HZB:Hid (-2000<=nmI s (N:Int)/\nmI s (N:Int)<=2000):=⟨by omega,by omega⟩;have HZN:Hid (∃yq:Nat,nmI s (N:Int)=(yq:Int)/\yq<n):=⟨(nmI s (N:Int)).toNat,by omega,by omega⟩;have HTK:Hid (comp (V.take (j+1)) s=comp (V.take j) s++ [nmI s (N:Int)]):=by
       show _=_
       rw[zbj,hvx];simp[comp]
      have HMN:Hid (m<=1000):=by
       have h1:=hoY.1;rw[q3d,HYE.out]at h1;have:=q3t n fun z=>hasI (z:Int) (comp (V.take j) s)
       show m<=1000
       omega
      have HYB:Hid (∀z∈Y, -2000<=z/\z<=2000):=fun z hz=>by
       rw[HYE.out]at hz;have:=q4h _ hz;omega
      clear hnx hvx hnz hvi cV0 cN0;go_wp2_with fail;refine zb1 (S:=fun w'=>w'.cell? ⟨w.heap.size,3,none⟩=some (.slice (some ⟨bv,ov,none⟩) u cV')/\w'.cell? ⟨bv,ov+j,none⟩=some (.int .i64 N)/\w'.cell? ⟨bs,os+N,none⟩=some (.int .i64 (nmI s (N:Int)))) (by kernel_rfl) ⟨D,cV,cN⟩ (fun hHeld0=>?_);obtain⟨J,af⟩:∃x,Hid (x=World.drew wr):=⟨_,rfl⟩;have r:Below wr.heap.size wr J:=by rw[af.out];exact(zab _ _).drew
      rw[<-af.out]at hHeld0⊢;have ywt1:=r.size;replace t:=q9 t r rfl;replace Z:=Z.next r;replace l:=ql l r;replace o:=ql o r;replace hoY:=ql hoY r;have O:=kk4 r I D cV cN;clear I D cV cN;obtain⟨I,D,cV,cN⟩:=O;refine tp 0 (.pointer (some ⟨g,3,none⟩)) rfl ?_;refine tp 2 (.slice (some ⟨bs,os,none⟩) n cS) rfl ?_;refine tp 3 (.pointer (some ⟨w.heap.size,3,none⟩)) rfl ?_;refine tk 4 (.slice (some ⟨bv,ov,none⟩) u cV') rfl (.inl ⟨by kernel_rfl,fun wv P=>by(obtain⟨hS0,hS1,hS2⟩:=P);go_simp⟩) ?_;refine tp 5 (.int .i64 j) rfl ?_;refine tp 6 (.pointer (some ⟨bv,ov+j,none⟩)) rfl ?_;refine tk 7 (.int .i64 N) rfl (.inl ⟨by kernel_rfl,fun wv P=>by(obtain⟨hS0,hS1,hS2⟩:=P);go_simp⟩) ?_;refine tp 8 (.pointer (some ⟨bs,os+N,none⟩)) rfl ?_;refine tk 9 (.int .i64 (nmI s (N:Int))) rfl (.inl ⟨by kernel_rfl,fun wv P=>by(obtain⟨hS0,hS1,hS2⟩:=P);go_simp⟩) ?_
      (try simp only[Act.put,zA,zB,zC,zD,zE,zF])
      refine r1 1 rfl (fun K hK=>?_);go_simp;refine hK.out _ _ ⟨D,cV,cN⟩ (fun hHeld1=>?_);clear hK K hHeld0
      (try simp only[Act.put,zA,zB,zC,zD,zE,zF])
      refine r1 10 rfl (fun K hK=>?_);go_simp;refine(q8e w0.heap.size b m c3 Y (nmI s (N:Int)) J hoY t.size HMN.out HYB.out HZB.out).mono ?_;rintro e T ⟨A9,m9,c9,L9,rfl,hoL,hm9,hP9,M,hor⟩;have hq1:=l;have hq2:=o;go_wp2_with fail;have ywt2:=M.size;replace t:=q9 t M rfl;replace Z:=Z.next M;replace l:=ql l M;replace o:=ql o M;replace hoY:=ql hoY M;have O:=kk4 M I D cV cN;clear I D cV cN;obtain⟨I,D,cV,cN⟩:=O;refine hK.out _ _ ⟨D,cV,cN⟩ (fun hHeld2=>?_);clear hK K hHeld1;refine tp 11 (.pointer (some ⟨g,3,none⟩)) rfl ?_
      (try simp only[Act.put,zA,zB,zC,zD,zE,zF])
      refine r1 12 rfl (fun K hK=>?_);have BGc:=Z;have gF3:=Z.frozen 3;go_simp;obtain⟨ak,ae⟩:∃x,Hid (x=T.setCell ⟨g,3,none⟩ (.slice A9 m9 c9)):=⟨_,rfl⟩;rw[<-ae.out];have ai:Blk ak g 57 #[.int .i64 3,.slice E y G,.slice F B H,.slice A9 m9 c9]:=by rw[ae.out];simpa using Z.set_ 3 (.slice A9 m9 c9)
      have hof1:ak.ownsRow w0.heap.size 3 1 (.slice E y G) y (ints L):=by rw[ae.out];exact q1c l Z (by decide)
      have hof2:ak.ownsRow w0.heap.size 3 1 (.slice F B H) B (ints R):=by rw[ae.out];exact q1c o Z (by decide)
      have hofL:ak.ownsRow w0.heap.size 3 1 (.slice A9 m9 c9) m9 (ints L9):=by rw[ae.out];exact q1c hoL Z (by decide)
      have Tf:Below w0.heap.size w0 ak:=by rw[ae.out];exact t.setCell (p:=⟨g,3,none⟩) (by exact hgl) _
      replace D:=qe Tf HCV.out.1;replace cV:=qe Tf HCV.out.2.1;replace cN:=qe Tf HCV.out.2.2;refine hK.out _ _ ⟨D,cV,cN⟩ (fun hHeld3=>?_);clear hK K hHeld2
      (try simp only[Act.put,zA,zB,zC,zD,zE,zF])
      refine zbg (by kernel_rfl) ?_ _;obtain⟨A10,hA10⟩:∃b9,A9=some ⟨b9,0,none⟩:=by
       have hL9:0<m9:=by
        have h1:=hofL.1;rw[q3d]at h1;have:=qki hP9;omega
       obtain⟨b9,rfl,-,-⟩:=q2b hofL hL9;exact⟨b9,rfl⟩
      subst hA10;have HY2:Hid (L9=q1n n fun z=>hasI (z:Int) (comp (V.take (j+1)) s)):=by
       have hP:=hP9;rw[HYE.out]at hP;obtain⟨yq,hyq,hyn⟩:=HZN.out;rw[hyq]at hP;have:=qe0 hyn hP;rw[<-hyq]at this;rw[<-HTK.out]at this;exact this
      have HA1:Hid (Apart (.slice E y G) (.slice (some ⟨A10,0,none⟩) m9 c9)/\Apart (.slice F B H) (.slice (some ⟨A10,0,none⟩) m9 c9)):=by
       rcases hor with⟨e1,e2,e3,-⟩|hor
       .injection e1 with e1
        injection e1 with e1
        subst e1 e2 e3;exact⟨am,an⟩
       .exact⟨qx hq1 hor (zad _),qx hq2 hor (zad _)⟩
      go_wp2_with fail
      go_roundw
      case rel=>exact⟨j+1,A10,m9,c9,L9,by omega,by go_num,ai,hof1,hof2,hofL,HY2,Tf,HA1.out.1,HA1.out.2⟩
      case measure=>simp[intOf];try omega
     .obtain rfl:j=u:=by omega
      have hj1:¬(j:Int)<(j:Int):=by omega
      have HYX:Hid (Y=X):=by
       show Y=X
       rw[HXE.out,HYE.out,zaq (by rw[HVL.out];exact zad _)]
      go_wp2_with fail;go_meet;exact⟨some ⟨b,0,none⟩,m,c3,Y,Z,l,o,hoY,t,HA12.out,am,an,fun h=>absurd h (by decide),fun _=>HYX.out⟩
   .
    obtain⟨wb,HWB⟩:∃wb,wb=w1:=⟨_,rfl⟩;subst HWB;have hvn:u=n:=by rw[<-HVL.out];exact H46.out (by decide)
    subst hvn
    go_wp2_with (at_make;refine q2w wb rfl _ _ rfl u rfl rfl (by omega) ?_;intro w3 ac hg3;have hb3:=(zab wb.heap.size wb).grown hg3 (zad _) (by simp);have ah:=Z.next hb3;have gD3:=ah.cell 3;simp at gD3;have gE3:=ah.frozen 3;clear gC0 gC1 gC2 I gF0 gF1 gF2 gF3 a d f D)
    rw[q56]at ac;have am:=qx l ac (zad _);have an:=qx o ac (zad _);obtain⟨gr,HGR⟩:∃gr,gr=wb.heap.size:=⟨_,rfl⟩;rw[<-HGR]at ac am an;obtain⟨w4,HW4⟩:∃w4,Hid (w4=w3.setCell ⟨g,3,none⟩ (.slice (some ⟨gr,0,none⟩) u u)):=⟨_,rfl⟩;have BG4:Blk w4 g 57 #[.int .i64 4,.slice E y G,.slice F B H,.slice (some ⟨gr,0,none⟩) u u]:=by rw[HW4.out];simpa using ah.set_ 3 (.slice (some ⟨gr,0,none⟩) u u)
    have ho14:w4.ownsRow w0.heap.size 3 1 (.slice E y G) y (ints L):=by rw[HW4.out];exact q1c (ql l hb3) ah (by decide)
    have ho24:w4.ownsRow w0.heap.size 3 1 (.slice F B H) B (ints R):=by rw[HW4.out];exact q1c (ql o hb3) ah (by decide)
    have hgrl:w0.heap.size<=gr:=by rw[HGR];exact hz1
    have hggr:g≠gr:=by rw[HGR];omega
    have hoQ4:w4.ownsRow w0.heap.size 3 1 (.slice (some ⟨gr,0,none⟩) u u) u (ints (List.replicate u 0)):=by rw[HW4.out];exact qh (q1c ac ah (by decide)) hgrl
    have Tk4:Below w0.heap.size w0 w4:=by rw[HW4.out];exact(q9 t hb3 rfl).setCell (p:=⟨g,3,none⟩) (by exact hgl) _
    have HA:=zaa (zap am an);have HOO:=zaa (zap BG4 (zap ho14 (zap ho24 (zap hoQ4 Tk4))));clear Z ah BG4 l o hoe ac hg3 ho14 ho24 hoQ4 t Tk4 am an U W hz1 hg1;rw[<-HGR,<-HW4.out];clear gD3 gE3 hb3 HGR
    go_loopw [7] (fun i wr=>∃(j:Nat) (Q:List Int),j<=u/\i=.int .i64 j/\Blk wr g 57 #[.int .i64 4,.slice E y G,.slice F B H,.slice (some ⟨gr,0,none⟩) u u]/\wr.ownsRow w0.heap.size 3 1 (.slice E y G) y (ints L)/\wr.ownsRow w0.heap.size 3 1 (.slice F B H) B (ints R)/\wr.ownsRow w0.heap.size 3 1 (.slice (some ⟨gr,0,none⟩) u u) u (ints Q)/\Hid (Q.length=u)/\Hid (∀x,x<j->Q[nmAt s x]?=some (nmI s (V.getD x 0)))/\Below w0.heap.size w0 wr) (fun i _=>u - (intOf i).toNat)
    case atStart=>exact⟨0,_,zah _,rfl,HOO.out.1,HOO.out.2.1,HOO.out.2.2.1,HOO.out.2.2.2.1,zej ..,(fun x hx=>absurd hx (by omega)),HOO.out.2.2.2.2⟩
    case round=>
     obtain⟨j,Q,hj,rfl,Z,l,o,hoQ,HQL,HQ,t⟩:=hrel;have D:=qe t HCP.out.2.2.2;have I:=Z.cell 3;simp at I;have am:=HA.out.1;have an:=HA.out.2
     by_cases hlt:j<u
     .have hj0:(0:Int)<=(j:Int):=by omega
      have hj1:(j:Int)<(u:Int):=by omega
      obtain⟨bv,ov,vv,vz,hAV,cV0,⟨rfl,-,-⟩,-,hvx⟩:=(HVR.out w0 (zab _ _)).at hlt;subst hAV;have hvi:=HVI.out vz (zaf hvx);obtain⟨N,rfl⟩:=zam hvi.1;have hvn:N<u:=by omega
      obtain⟨bs,os,vs,vn,hAS,cN0,⟨rfl,-,-⟩,-,hnx⟩:=(HSR.out w0 (zab _ _)).at hvn;subst hAS;obtain rfl:nmI s (N:Int)=vn:=by unfold nmI;rw[za1,zan,hnx];rfl
      obtain⟨bs2,os2,vs2,vn2,hAS2,cX0,⟨rfl,-,-⟩,-,hnx2⟩:=(HSR.out w0 (zab _ _)).at hlt;injection hAS2 with hAS2
      injection hAS2 with e1 e2
      subst e1 e2;obtain⟨yq,hy,hyn,hye⟩:=HP.out.at hlt;obtain rfl:vn2=(yq:Int):=by rw[hnx2]at hy;injection hy
      have cV:=qe t cV0;have cN:=qe t cN0;have cX:=qe t cX0;have HCV:Hid (w0.cell? ⟨w.heap.size,3,none⟩=some (.slice (some ⟨bv,ov,none⟩) u cV')/\w0.cell? ⟨bv,ov+j,none⟩=some (.int .i64 (N:Int))/\w0.cell? ⟨bs,os+N,none⟩=some (.int .i64 (nmI s (N:Int)))/\w0.cell? ⟨bs,os+j,none⟩=some (.int .i64 (yq:Int))):=⟨HCP.out.2.2.2,cV0,cN0,cX0⟩;have hv0:(0:Int)<=(N:Int):=by omega
      have hv1:(N:Int)<(u:Int):=by omega
      have hy0:(0:Int)<=(yq:Int):=by omega
      have hy1:(yq:Int)<(u:Int):=by omega
      have eF:nmI s (V.getD j 0)=nmI s (N:Int):=by rw[zan,hvx];rfl
      have HQ2:Hid (∀x,x<j+1->(Q.set yq (nmI s (N:Int)))[nmAt s x]?=some (nmI s (V.getD x 0))):=by
       have:=qh9 HP.out HQL.out hlt HQ.out
       rwa [hye,eF]at this
      have HQL2:Hid ((Q.set yq (nmI s (N:Int))).length=u):=by show _=_;rw[zcn];exact HQL.out
      clear hnx hnx2 hvx hvi cV0 cN0 cX0 hy hye eF;go_wp2_with fail;refine zb1 (S:=fun w'=>w'.cell? ⟨g,3,none⟩=some (.slice (some ⟨gr,0,none⟩) u u)/\w'.cell? ⟨w.heap.size,3,none⟩=some (.slice (some ⟨bv,ov,none⟩) u cV')/\w'.cell? ⟨bv,ov+j,none⟩=some (.int .i64 N)/\w'.cell? ⟨bs,os+N,none⟩=some (.int .i64 (nmI s (N:Int)))/\w'.cell? ⟨bs,os+j,none⟩=some (.int .i64 yq)) (by kernel_rfl) ⟨I,D,cV,cN,cX⟩ (fun hHeld0=>?_);obtain⟨J,af⟩:∃x,Hid (x=World.drew wr):=⟨_,rfl⟩;have r:Below wr.heap.size wr J:=by rw[af.out];exact(zab _ _).drew
      rw[<-af.out]at hHeld0⊢;have ywt1:=r.size;replace t:=q9 t r rfl;replace Z:=Z.next r;replace l:=ql l r;replace o:=ql o r;replace hoQ:=ql hoQ r;refine tp 0 (.pointer (some ⟨g,3,none⟩)) rfl ?_;refine tk 1 (.slice (some ⟨gr,0,none⟩) u u) rfl (.inl ⟨by kernel_rfl,fun wv P=>by(obtain⟨hS0,hS1,hS2,hS3,hS4⟩:=P);go_simp⟩) ?_;refine tp 2 (.slice (some ⟨bs,os,none⟩) u cS) rfl ?_;refine tp 3 (.int .i64 j) rfl ?_;refine tp 4 (.pointer (some ⟨bs,os+j,none⟩)) rfl ?_;refine tk 5 (.int .i64 yq) rfl (.inl ⟨by kernel_rfl,fun wv P=>by(obtain⟨hS0,hS1,hS2,hS3,hS4⟩:=P);go_simp⟩) ?_;refine tp 6 (.slice (some ⟨bs,os,none⟩) u cS) rfl ?_;refine tp 7 (.pointer (some ⟨w.heap.size,3,none⟩)) rfl ?_;refine tk 8 (.slice (some ⟨bv,ov,none⟩) u cV') rfl (.inl ⟨by kernel_rfl,fun wv P=>by(obtain⟨hS0,hS1,hS2,hS3,hS4⟩:=P);go_simp⟩) ?_;refine tp 9 (.int .i64 j) rfl ?_;refine tp 10 (.pointer (some ⟨bv,ov+j,none⟩)) rfl ?_;refine tk 11 (.int .i64 N) rfl (.inl ⟨by kernel_rfl,fun wv P=>by(obtain⟨hS0,hS1,hS2,hS3,hS4⟩:=P);go_simp⟩) ?_;refine tp 12 (.pointer (some ⟨bs,os+N,none⟩)) rfl ?_;refine tk 13 (.int .i64 (nmI s (N:Int))) rfl (.inl ⟨by kernel_rfl,fun wv P=>by(obtain⟨hS0,hS1,hS2,hS3,hS4⟩:=P);go_simp⟩) ?_;refine tp 14 (.pointer (some ⟨gr,yq,none⟩)) rfl ?_
      (try simp only[Act.put,zA,zB,zC,zD,zE,zF])
      refine r1 15 rfl (fun K hK=>?_);have hfz:=hoQ.frozenAt yq;obtain⟨z0,hz0⟩:=q50 hoQ HQL.out hyn;go_simp;obtain⟨T,aj⟩:∃x,Hid (x=J.setCell ⟨gr,yq,none⟩ (.int .i64 (nmI s (N:Int)))):=⟨_,rfl⟩;rw[<-aj.out];have ai:Blk T g 57 #[.int .i64 4,.slice E y G,.slice F B H,.slice (some ⟨gr,0,none⟩) u u]:=by rw[aj.out];exact Z.far (by exact hggr) _
      have hof1:T.ownsRow w0.heap.size 3 1 (.slice E y G) y (ints L):=by rw[aj.out];exact q9f l fun q hq e=>am q hq (by rw[e];rfl)
      have hof2:T.ownsRow w0.heap.size 3 1 (.slice F B H) B (ints R):=by rw[aj.out];exact q9f o fun q hq e=>an q hq (by rw[e];rfl)
      have hofQ:T.ownsRow w0.heap.size 3 1 (.slice (some ⟨gr,0,none⟩) u u) u (ints (Q.set yq (nmI s (N:Int)))):=by rw[aj.out,<-q2a];exact(hoQ.stored yq (.int .i64 (nmI s (N:Int)))).1
      have Tf:Below w0.heap.size w0 T:=by rw[aj.out];exact t.setCell (p:=⟨gr,yq,none⟩) (by exact hgrl) _
      replace I:=ai.cell 3;simp at I;replace D:=qe Tf HCV.out.1;replace cV:=qe Tf HCV.out.2.1;replace cN:=qe Tf HCV.out.2.2.1;replace cX:=qe Tf HCV.out.2.2.2;refine hK.out _ _ ⟨I,D,cV,cN,cX⟩ (fun hHeld1=>?_);clear hK K hHeld0
      (try simp only[Act.put,zA,zB,zC,zD,zE,zF])
      refine zbg (by kernel_rfl) ?_ _;go_wp2_with fail
      go_roundw
      case rel=>exact⟨j+1,_,by omega,by go_num,ai,hof1,hof2,hofQ,HQL2,HQ2,Tf⟩
      case measure=>simp[intOf];try omega
     .obtain rfl:j=u:=by omega
      have hj1:¬(j:Int)<(j:Int):=by omega
      have HFD:=zaa (qdc HP.out HVL.out HQL.out HQ.out);go_wp2_with fail;go_meet;exact⟨some ⟨gr,0,none⟩,j,j,Q,Z,l,o,hoQ,t,HA12.out,am,an,fun _=>⟨by rw[HFD.out,<-HX.out];unfold rfL;rw[zaj (by decide),zaj (by decide),zao rfl,HSL.out];exact qjj HP.out (q7n HVL.out HVI.out (q8r HP.out)),rfl,by rw[HFD.out];exact q65 HP.out (q7n HVL.out HVI.out (q8r HP.out))⟩,fun h=>absurd rfl h⟩
   .
    have HXE:Hid (X=q1n n fun z=>hasI (z:Int) (comp V s)):=by
     show X=_
     rw[<-HX.out];unfold rfL;rw[zaj (by decide),zao (by decide),HSL.out]
    go_wp2_with fail
    go_loopw [6] (fun i wr=>∃(j b m c3:Nat) (Y:List Int),j<=u/\i=.int .i64 j/\Blk wr g 57 #[.int .i64 5,.slice E y G,.slice F B H,.slice (some ⟨b,0,none⟩) m c3]/\wr.ownsRow w0.heap.size 3 1 (.slice E y G) y (ints L)/\wr.ownsRow w0.heap.size 3 1 (.slice F B H) B (ints R)/\wr.ownsRow w0.heap.size 3 1 (.slice (some ⟨b,0,none⟩) m c3) m (ints Y)/\Hid (Y=q1n n fun z=>hasI (z:Int) (comp (V.take j) s))/\Below w0.heap.size w0 wr/\Apart (.slice E y G) (.slice (some ⟨b,0,none⟩) m c3)/\Apart (.slice F B H) (.slice (some ⟨b,0,none⟩) m c3)) (fun i _=>u - (intOf i).toNat)
    case atStart=>exact⟨0,ge,0,0, [],zah _,rfl,Z,l,o,hoe,(by show _=_;rw[zc4];simp[comp,q1n,hasI]),t,U,W⟩
    case round=>
     clear Z l o hoe t U W gC0 gC1 gC2 I gF0 gF1 gF2 gF3 a d f D hz1 hg1;obtain⟨j,b,m,c3,Y,hj,rfl,Z,l,o,hoY,HYE,t,am,an⟩:=hrel;have D:=qe t HCP.out.2.2.2;have I:=Z.cell 3;simp at I
     by_cases hlt:j<u
     .have hj0:(0:Int)<=(j:Int):=by omega
      have hj1:(j:Int)<(u:Int):=by omega
      obtain⟨bv,ov,vv,vz,hAV,cV0,⟨rfl,-,-⟩,-,hvx⟩:=(HVR.out w0 (zab _ _)).at hlt;subst hAV;have hvi:=HVI.out vz (zaf hvx);obtain⟨N,rfl⟩:=zam hvi.1;have hvn:N<n:=by omega
      obtain⟨bs,os,vs,vn,hAS,cN0,⟨rfl,-,-⟩,-,hnx⟩:=(HSR.out w0 (zab _ _)).at hvn;subst hAS;obtain rfl:nmI s (N:Int)=vn:=by unfold nmI;rw[za1,zan,hnx];rfl
      have cV:=qe t cV0;have cN:=qe t cN0;have HCV:Hid (w0.cell? ⟨w.heap.size,3,none⟩=some (.slice (some ⟨bv,ov,none⟩) u cV')/\w0.cell? ⟨bv,ov+j,none⟩=some (.int .i64 (N:Int))/\w0.cell? ⟨bs,os+N,none⟩=some (.int .i64 (nmI s (N:Int)))):=⟨HCP.out.2.2.2,cV0,cN0⟩;have hv0:(0:Int)<=(N:Int):=by omega
      have hv1:(N:Int)<(n:Int):=by omega
      have hnz:=qe7 HP.out hv0 hvi.2;have HZB:Hid (-2000<=nmI s (N:Int)/\nmI s (N:Int)<=2000):=⟨by omega,by omega⟩;have HZN:Hid (∃yq:Nat,nmI s (N:Int)=(yq:Int)/\yq<n):=⟨(nmI s (N:Int)).toNat,by omega,by omega⟩;have HTK:Hid (comp (V.take (j+1)) s=comp (V.take j) s++ [nmI s (N:Int)]):=by
       show _=_
       rw[zbj,hvx];simp[comp]
      have HMN:Hid (m<=1000):=by
       have h1:=hoY.1;rw[q3d,HYE.out]at h1;have:=q3t n fun z=>hasI (z:Int) (comp (V.take j) s)
       show m<=1000
       omega
      have HYB:Hid (∀z∈Y, -2000<=z/\z<=2000):=fun z hz=>by
       rw[HYE.out]at hz;have:=q4h _ hz;omega
      clear hnx hvx hnz hvi cV0 cN0;go_wp2_with fail;refine zb1 (S:=fun w'=>w'.cell? ⟨w.heap.size,3,none⟩=some (.slice (some ⟨bv,ov,none⟩) u cV')/\w'.cell? ⟨bv,ov+j,none⟩=some (.int .i64 N)/\w'.cell? ⟨bs,os+N,none⟩=some (.int .i64 (nmI s (N:Int)))) (by kernel_rfl) ⟨D,cV,cN⟩ (fun hHeld0=>?_);obtain⟨J,af⟩:∃x,Hid (x=World.drew wr):=⟨_,rfl⟩;have r:Below wr.heap.size wr J:=by rw[af.out];exact(zab _ _).drew
      rw[<-af.out]at hHeld0⊢;have ywt1:=r.size;replace t:=q9 t r rfl;replace Z:=Z.next r;replace l:=ql l r;replace o:=ql o r;replace hoY:=ql hoY r;have O:=kk4 r I D cV cN;clear I D cV cN;obtain⟨I,D,cV,cN⟩:=O;refine tp 0 (.pointer (some ⟨g,3,none⟩)) rfl ?_;refine tp 2 (.slice (some ⟨bs,os,none⟩) n cS) rfl ?_;refine tp 3 (.pointer (some ⟨w.heap.size,3,none⟩)) rfl ?_;refine tk 4 (.slice (some ⟨bv,ov,none⟩) u cV') rfl (.inl ⟨by kernel_rfl,fun wv P=>by(obtain⟨hS0,hS1,hS2⟩:=P);go_simp⟩) ?_;refine tp 5 (.int .i64 j) rfl ?_;refine tp 6 (.pointer (some ⟨bv,ov+j,none⟩)) rfl ?_;refine tk 7 (.int .i64 N) rfl (.inl ⟨by kernel_rfl,fun wv P=>by(obtain⟨hS0,hS1,hS2⟩:=P);go_simp⟩) ?_;refine tp 8 (.pointer (some ⟨bs,os+N,none⟩)) rfl ?_;refine tk 9 (.int .i64 (nmI s (N:Int))) rfl (.inl ⟨by kernel_rfl,fun wv P=>by(obtain⟨hS0,hS1,hS2⟩:=P);go_simp⟩) ?_
      (try simp only[Act.put,zA,zB,zC,zD,zE,zF])
      refine r1 1 rfl (fun K hK=>?_);go_simp;refine hK.out _ _ ⟨D,cV,cN⟩ (fun hHeld1=>?_);clear hK K hHeld0
      (try simp only[Act.put,zA,zB,zC,zD,zE,zF])
      refine r1 10 rfl (fun K hK=>?_);go_simp;refine(q8e w0.heap.size b m c3 Y (nmI s (N:Int)) J hoY t.size HMN.out HYB.out HZB.out).mono ?_;rintro e T ⟨A9,m9,c9,L9,rfl,hoL,hm9,hP9,M,hor⟩;have hq1:=l;have hq2:=o;go_wp2_with fail;have ywt2:=M.size;replace t:=q9 t M rfl;replace Z:=Z.next M;replace l:=ql l M;replace o:=ql o M;replace hoY:=ql hoY M;have O:=kk4 M I D cV cN;clear I D cV cN;obtain⟨I,D,cV,cN⟩:=O;refine hK.out _ _ ⟨D,cV,cN⟩ (fun hHeld2=>?_);clear hK K hHeld1;refine tp 11 (.pointer (some ⟨g,3,none⟩)) rfl ?_
      (try simp only[Act.put,zA,zB,zC,zD,zE,zF])
      refine r1 12 rfl (fun K hK=>?_);have BGc:=Z;have gF3:=Z.frozen 3;go_simp;obtain⟨ak,ae⟩:∃x,Hid (x=T.setCell ⟨g,3,none⟩ (.slice A9 m9 c9)):=⟨_,rfl⟩;rw[<-ae.out];have ai:Blk ak g 57 #[.int .i64 5,.slice E y G,.slice F B H,.slice A9 m9 c9]:=by rw[ae.out];simpa using Z.set_ 3 (.slice A9 m9 c9)
      have hof1:ak.ownsRow w0.heap.size 3 1 (.slice E y G) y (ints L):=by rw[ae.out];exact q1c l Z (by decide)
      have hof2:ak.ownsRow w0.heap.size 3 1 (.slice F B H) B (ints R):=by rw[ae.out];exact q1c o Z (by decide)
      have hofL:ak.ownsRow w0.heap.size 3 1 (.slice A9 m9 c9) m9 (ints L9):=by rw[ae.out];exact q1c hoL Z (by decide)
      have Tf:Below w0.heap.size w0 ak:=by rw[ae.out];exact t.setCell (p:=⟨g,3,none⟩) (by exact hgl) _
      replace D:=qe Tf HCV.out.1;replace cV:=qe Tf HCV.out.2.1;replace cN:=qe Tf HCV.out.2.2;refine hK.out _ _ ⟨D,cV,cN⟩ (fun hHeld3=>?_);clear hK K hHeld2
      (try simp only[Act.put,zA,zB,zC,zD,zE,zF])
      refine zbg (by kernel_rfl) ?_ _;obtain⟨A10,hA10⟩:∃b9,A9=some ⟨b9,0,none⟩:=by
       have hL9:0<m9:=by
        have h1:=hofL.1;rw[q3d]at h1;have:=qki hP9;omega
       obtain⟨b9,rfl,-,-⟩:=q2b hofL hL9;exact⟨b9,rfl⟩
      subst hA10;have HY2:Hid (L9=q1n n fun z=>hasI (z:Int) (comp (V.take (j+1)) s)):=by
       have hP:=hP9;rw[HYE.out]at hP;obtain⟨yq,hyq,hyn⟩:=HZN.out;rw[hyq]at hP;have:=qe0 hyn hP;rw[<-hyq]at this;rw[<-HTK.out]at this;exact this
      have HA1:Hid (Apart (.slice E y G) (.slice (some ⟨A10,0,none⟩) m9 c9)/\Apart (.slice F B H) (.slice (some ⟨A10,0,none⟩) m9 c9)):=by
       rcases hor with⟨e1,e2,e3,-⟩|hor
       .injection e1 with e1
        injection e1 with e1
        subst e1 e2 e3;exact⟨am,an⟩
       .exact⟨qx hq1 hor (zad _),qx hq2 hor (zad _)⟩
      go_wp2_with fail
      go_roundw
      case rel=>exact⟨j+1,A10,m9,c9,L9,by omega,by go_num,ai,hof1,hof2,hofL,HY2,Tf,HA1.out.1,HA1.out.2⟩
      case measure=>simp[intOf];try omega
     .obtain rfl:j=u:=by omega
      have hj1:¬(j:Int)<(j:Int):=by omega
      have HYX:Hid (Y=X):=by
       show Y=X
       rw[HXE.out,HYE.out,zaq (by rw[HVL.out];exact zad _)]
      go_wp2_with fail;go_meet;exact⟨some ⟨b,0,none⟩,m,c3,Y,Z,l,o,hoY,t,HA12.out,am,an,fun h=>absurd h (by decide),fun _=>HYX.out⟩
   .
    obtain⟨wb,HWB⟩:∃wb,wb=w1:=⟨_,rfl⟩;subst HWB;have hvn:u=n:=by rw[<-HVL.out];exact H46.out (by decide)
    subst hvn
    go_wp2_with (at_make;refine q2w wb rfl _ _ rfl u rfl rfl (by omega) ?_;intro w3 ac hg3;have hb3:=(zab wb.heap.size wb).grown hg3 (zad _) (by simp);have ah:=Z.next hb3;have gD3:=ah.cell 3;simp at gD3;have gE3:=ah.frozen 3;clear gC0 gC1 gC2 I gF0 gF1 gF2 gF3 a d f D)
    rw[q56]at ac;have am:=qx l ac (zad _);have an:=qx o ac (zad _);obtain⟨gr,HGR⟩:∃gr,gr=wb.heap.size:=⟨_,rfl⟩;rw[<-HGR]at ac am an;obtain⟨w4,HW4⟩:∃w4,Hid (w4=w3.setCell ⟨g,3,none⟩ (.slice (some ⟨gr,0,none⟩) u u)):=⟨_,rfl⟩;have BG4:Blk w4 g 57 #[.int .i64 6,.slice E y G,.slice F B H,.slice (some ⟨gr,0,none⟩) u u]:=by rw[HW4.out];simpa using ah.set_ 3 (.slice (some ⟨gr,0,none⟩) u u)
    have ho14:w4.ownsRow w0.heap.size 3 1 (.slice E y G) y (ints L):=by rw[HW4.out];exact q1c (ql l hb3) ah (by decide)
    have ho24:w4.ownsRow w0.heap.size 3 1 (.slice F B H) B (ints R):=by rw[HW4.out];exact q1c (ql o hb3) ah (by decide)
    have hgrl:w0.heap.size<=gr:=by rw[HGR];exact hz1
    have hggr:g≠gr:=by rw[HGR];omega
    have hoQ4:w4.ownsRow w0.heap.size 3 1 (.slice (some ⟨gr,0,none⟩) u u) u (ints (List.replicate u 0)):=by rw[HW4.out];exact qh (q1c ac ah (by decide)) hgrl
    have Tk4:Below w0.heap.size w0 w4:=by rw[HW4.out];exact(q9 t hb3 rfl).setCell (p:=⟨g,3,none⟩) (by exact hgl) _
    have HA:=zaa (zap am an);have HOO:=zaa (zap BG4 (zap ho14 (zap ho24 (zap hoQ4 Tk4))));clear Z ah BG4 l o hoe ac hg3 ho14 ho24 hoQ4 t Tk4 am an U W hz1 hg1;rw[<-HGR,<-HW4.out];clear gD3 gE3 hb3 HGR
    go_loopw [7] (fun i wr=>∃(j:Nat) (Q:List Int),j<=u/\i=.int .i64 j/\Blk wr g 57 #[.int .i64 6,.slice E y G,.slice F B H,.slice (some ⟨gr,0,none⟩) u u]/\wr.ownsRow w0.heap.size 3 1 (.slice E y G) y (ints L)/\wr.ownsRow w0.heap.size 3 1 (.slice F B H) B (ints R)/\wr.ownsRow w0.heap.size 3 1 (.slice (some ⟨gr,0,none⟩) u u) u (ints Q)/\Hid (Q.length=u)/\Hid (∀x,x<j->Q[nmAt s x]?=some (nmI s (V.getD x 0)))/\Below w0.heap.size w0 wr) (fun i _=>u - (intOf i).toNat)
    case atStart=>exact⟨0,_,zah _,rfl,HOO.out.1,HOO.out.2.1,HOO.out.2.2.1,HOO.out.2.2.2.1,zej ..,(fun x hx=>absurd hx (by omega)),HOO.out.2.2.2.2⟩
    case round=>
     obtain⟨j,Q,hj,rfl,Z,l,o,hoQ,HQL,HQ,t⟩:=hrel;have D:=qe t HCP.out.2.2.2;have I:=Z.cell 3;simp at I;have am:=HA.out.1;have an:=HA.out.2
     by_cases hlt:j<u
     .have hj0:(0:Int)<=(j:Int):=by omega
      have hj1:(j:Int)<(u:Int):=by omega
      obtain⟨bv,ov,vv,vz,hAV,cV0,⟨rfl,-,-⟩,-,hvx⟩:=(HVR.out w0 (zab _ _)).at hlt;subst hAV;have hvi:=HVI.out vz (zaf hvx);obtain⟨N,rfl⟩:=zam hvi.1;have hvn:N<u:=by omega
      obtain⟨bs,os,vs,vn,hAS,cN0,⟨rfl,-,-⟩,-,hnx⟩:=(HSR.out w0 (zab _ _)).at hvn;subst hAS;obtain rfl:nmI s (N:Int)=vn:=by unfold nmI;rw[za1,zan,hnx];rfl
      obtain⟨bs2,os2,vs2,vn2,hAS2,cX0,⟨rfl,-,-⟩,-,hnx2⟩:=(HSR.out w0 (zab _ _)).at hlt;injection hAS2 with hAS2
      injection hAS2 with e1 e2
      subst e1 e2;obtain⟨yq,hy,hyn,hye⟩:=HP.out.at hlt;obtain rfl:vn2=(yq:Int):=by rw[hnx2]at hy;injection hy
      have cV:=qe t cV0;have cN:=qe t cN0;have cX:=qe t cX0;have HCV:Hid (w0.cell? ⟨w.heap.size,3,none⟩=some (.slice (some ⟨bv,ov,none⟩) u cV')/\w0.cell? ⟨bv,ov+j,none⟩=some (.int .i64 (N:Int))/\w0.cell? ⟨bs,os+N,none⟩=some (.int .i64 (nmI s (N:Int)))/\w0.cell? ⟨bs,os+j,none⟩=some (.int .i64 (yq:Int))):=⟨HCP.out.2.2.2,cV0,cN0,cX0⟩;have hv0:(0:Int)<=(N:Int):=by omega
      have hv1:(N:Int)<(u:Int):=by omega
      have hy0:(0:Int)<=(yq:Int):=by omega
      have hy1:(yq:Int)<(u:Int):=by omega
      have eF:nmI s (V.getD j 0)=nmI s (N:Int):=by rw[zan,hvx];rfl
      have HQ2:Hid (∀x,x<j+1->(Q.set yq (nmI s (N:Int)))[nmAt s x]?=some (nmI s (V.getD x 0))):=by
       have:=qh9 HP.out HQL.out hlt HQ.out
       rwa [hye,eF]at this
      have HQL2:Hid ((Q.set yq (nmI s (N:Int))).length=u):=by show _=_;rw[zcn];exact HQL.out
      clear hnx hnx2 hvx hvi cV0 cN0 cX0 hy hye eF;go_wp2_with fail;refine zb1 (S:=fun w'=>w'.cell? ⟨g,3,none⟩=some (.slice (some ⟨gr,0,none⟩) u u)/\w'.cell? ⟨w.heap.size,3,none⟩=some (.slice (some ⟨bv,ov,none⟩) u cV')/\w'.cell? ⟨bv,ov+j,none⟩=some (.int .i64 N)/\w'.cell? ⟨bs,os+N,none⟩=some (.int .i64 (nmI s (N:Int)))/\w'.cell? ⟨bs,os+j,none⟩=some (.int .i64 yq)) (by kernel_rfl) ⟨I,D,cV,cN,cX⟩ (fun hHeld0=>?_);obtain⟨J,af⟩:∃x,Hid (x=World.drew wr):=⟨_,rfl⟩;have r:Below wr.heap.size wr J:=by rw[af.out];exact(zab _ _).drew
      rw[<-af.out]at hHeld0⊢;have ywt1:=r.size;replace t:=q9 t r rfl;replace Z:=Z.next r;replace l:=ql l r;replace o:=ql o r;replace hoQ:=ql hoQ r;refine tp 0 (.pointer (some ⟨g,3,none⟩)) rfl ?_;refine tk 1 (.slice (some ⟨gr,0,none⟩) u u) rfl (.inl ⟨by kernel_rfl,fun wv P=>by(obtain⟨hS0,hS1,hS2,hS3,hS4⟩:=P);go_simp⟩) ?_;refine tp 2 (.slice (some ⟨bs,os,none⟩) u cS) rfl ?_;refine tp 3 (.int .i64 j) rfl ?_;refine tp 4 (.pointer (some ⟨bs,os+j,none⟩)) rfl ?_;refine tk 5 (.int .i64 yq) rfl (.inl ⟨by kernel_rfl,fun wv P=>by(obtain⟨hS0,hS1,hS2,hS3,hS4⟩:=P);go_simp⟩) ?_;refine tp 6 (.slice (some ⟨bs,os,none⟩) u cS) rfl ?_;refine tp 7 (.pointer (some ⟨w.heap.size,3,none⟩)) rfl ?_;refine tk 8 (.slice (some ⟨bv,ov,none⟩) u cV') rfl (.inl ⟨by kernel_rfl,fun wv P=>by(obtain⟨hS0,hS1,hS2,hS3,hS4⟩:=P);go_simp⟩) ?_;refine tp 9 (.int .i64 j) rfl ?_;refine tp 10 (.pointer (some ⟨bv,ov+j,none⟩)) rfl ?_;refine tk 11 (.int .i64 N) rfl (.inl ⟨by kernel_rfl,fun wv P=>by(obtain⟨hS0,hS1,hS2,hS3,hS4⟩:=P);go_simp⟩) ?_;refine tp 12 (.pointer (some ⟨bs,os+N,none⟩)) rfl ?_;refine tk 13 (.int .i64 (nmI s (N:Int))) rfl (.inl ⟨by kernel_rfl,fun wv P=>by(obtain⟨hS0,hS1,hS2,hS3,hS4⟩:=P);go_simp⟩) ?_;refine tp 14 (.pointer (some ⟨gr,yq,none⟩)) rfl ?_
      (try simp only[Act.put,zA,zB,zC,zD,zE,zF])
      refine r1 15 rfl (fun K hK=>?_);have hfz:=hoQ.frozenAt yq;obtain⟨z0,hz0⟩:=q50 hoQ HQL.out hyn;go_simp;obtain⟨T,aj⟩:∃x,Hid (x=J.setCell ⟨gr,yq,none⟩ (.int .i64 (nmI s (N:Int)))):=⟨_,rfl⟩;rw[<-aj.out];have ai:Blk T g 57 #[.int .i64 6,.slice E y G,.slice F B H,.slice (some ⟨gr,0,none⟩) u u]:=by rw[aj.out];exact Z.far (by exact hggr) _
      have hof1:T.ownsRow w0.heap.size 3 1 (.slice E y G) y (ints L):=by rw[aj.out];exact q9f l fun q hq e=>am q hq (by rw[e];rfl)
      have hof2:T.ownsRow w0.heap.size 3 1 (.slice F B H) B (ints R):=by rw[aj.out];exact q9f o fun q hq e=>an q hq (by rw[e];rfl)
      have hofQ:T.ownsRow w0.heap.size 3 1 (.slice (some ⟨gr,0,none⟩) u u) u (ints (Q.set yq (nmI s (N:Int)))):=by rw[aj.out,<-q2a];exact(hoQ.stored yq (.int .i64 (nmI s (N:Int)))).1
      have Tf:Below w0.heap.size w0 T:=by rw[aj.out];exact t.setCell (p:=⟨gr,yq,none⟩) (by exact hgrl) _
      replace I:=ai.cell 3;simp at I;replace D:=qe Tf HCV.out.1;replace cV:=qe Tf HCV.out.2.1;replace cN:=qe Tf HCV.out.2.2.1;replace cX:=qe Tf HCV.out.2.2.2;refine hK.out _ _ ⟨I,D,cV,cN,cX⟩ (fun hHeld1=>?_);clear hK K hHeld0
      (try simp only[Act.put,zA,zB,zC,zD,zE,zF])
      refine zbg (by kernel_rfl) ?_ _;go_wp2_with fail
      go_roundw
      case rel=>exact⟨j+1,_,by omega,by go_num,ai,hof1,hof2,hofQ,HQL2,HQ2,Tf⟩
      case measure=>simp[intOf];try omega
     .obtain rfl:j=u:=by omega
      have hj1:¬(j:Int)<(j:Int):=by omega
      have HFD:=zaa (qdc HP.out HVL.out HQL.out HQ.out);go_wp2_with fail;go_meet;exact⟨some ⟨gr,0,none⟩,j,j,Q,Z,l,o,hoQ,t,HA12.out,am,an,fun h=>absurd h (by decide),fun _=>by rw[HFD.out,<-HX.out];unfold rfL;rw[zaj (by decide),zaj (by decide),zaj (by decide),zao rfl,HSL.out]⟩
  case rest=>
   clear Z l o hoe t U W gC0 gC1 gC2 I gF0 gF1 gF2 gF3 a d f D hz1 hg1;obtain⟨A3,m,c3,Y,Z,l,o,ho3,t,aa,ha13,ha23,hk4,hkn⟩:=hcut;obtain⟨w2,HWC⟩:∃wq:World,wq=wc:=⟨_,rfl⟩;subst HWC;have a:=qe t HCP.out.1;have hz2:=t.size
   go_upto_if 76 with fail
   go_cut []from 77 to 81 (fun wx=>∃A3 c3,Blk wx g 57 #[.int .i64 k,.slice E y G,.slice F B H,.slice A3 nX c3]/\wx.ownsRow w0.heap.size 3 1 (.slice E y G) y (ints L)/\wx.ownsRow w0.heap.size 3 1 (.slice F B H) B (ints R)/\wx.ownsRow w0.heap.size 3 1 (.slice A3 nX c3) nX (ints X)/\Below w0.heap.size w0 wx/\Apart (.slice E y G) (.slice F B H)/\Apart (.slice E y G) (.slice A3 nX c3)/\Apart (.slice F B H) (.slice A3 nX c3))
   case first=>
    by_cases hk:k=4
    .obtain⟨hY,hmn,hYI⟩:=hk4 hk
     subst hmn;subst hk;have HKR:Hid (Calls Tryz.prog 119 #[.slice A3 m c3] w2 fun e w'=>∃A c,e=.returned (.slice A nX c)/\w'.ownsRow w2.heap.size 3 1 (.slice A nX c) nX (ints X)/\Below w2.heap.size w2 w'):=by
      have:=qdr A3 m c3 Y w2 (q14 (R:=RI) ho3 (q1o fun v hv=>by have:=hYI v hv;omega)) hn;unfold OwI at this;rw[hY,HNX.out]at this;exact this
     have I:=Z.cell 3;simp at I;clear hk4 hkn;go_wp2_with fail;refine HKR.out.mono ?_;rintro e w4 ⟨A5,c5,rfl,ho5,hb4⟩;have BG4:=Z.next hb4;have T4:=q9 t hb4 rfl;have hq1:=ql l hb4;have hq2:=ql o hb4;have hb13:=qx l ho5 (zad _);have hb23:=qx o ho5 (zad _);have gD3:=BG4.cell 3;simp at gD3;have gE3:=BG4.frozen 3;obtain⟨w3,HW3⟩:∃x,Hid (x=w4.setCell ⟨g,3,none⟩ (.slice A5 nX c5)):=⟨_,rfl⟩;have ah:Blk w3 g 57 #[.int .i64 4,.slice E y G,.slice F B H,.slice A5 nX c5]:=by rw[HW3.out];simpa using BG4.set_ 3 (.slice A5 nX c5)
     have hr1:w3.ownsRow w0.heap.size 3 1 (.slice E y G) y (ints L):=by rw[HW3.out];exact q1c hq1 BG4 (by decide)
     have hr2:w3.ownsRow w0.heap.size 3 1 (.slice F B H) B (ints R):=by rw[HW3.out];exact q1c hq2 BG4 (by decide)
     have hr3:w3.ownsRow w0.heap.size 3 1 (.slice A5 nX c5) nX (ints X):=by rw[HW3.out];exact q1c (qh ho5 hz2) BG4 (by decide)
     have T3:Below w0.heap.size w0 w3:=by rw[HW3.out];exact T4.setCell (p:=⟨g,3,none⟩) (by exact hgl) _
     have HH:=zaa (zap ah (zap hr1 (zap hr2 (zap hr3 (zap T3 (zap hb13 hb23))))));clear ah hr1 hr2 hr3 T3 hb13 hb23 Z l o ho3 hq1 hq2 ho5 a I;go_wp2_with fail;rw[<-HW3.out];go_meet;exact⟨A5,c5,HH.out.1,HH.out.2.1,HH.out.2.2.1,HH.out.2.2.2.1,HH.out.2.2.2.2.1,HA12.out,HH.out.2.2.2.2.2.1,HH.out.2.2.2.2.2.2⟩
    .have hk1:(k==4)=false:=by simpa using hk
     have hY:=hkn hk;subst hY;obtain rfl:m=nX:=by
      have h1:=ho3.1;rw[q3d,HNX.out]at h1;omega
     clear hk4 hkn;go_wp2_with fail;go_meet;exact⟨A3,c3,Z,l,o,ho3,t,HA12.out,ha13,ha23⟩
   case rest=>
    clear Z l o ho3 t aa ha13 ha23 hk4 hkn a hz2;obtain⟨A5,c5,Z,l,o,ho5,t,aa,ha15,ha25⟩:=hcut;obtain⟨w5,HWC⟩:∃wq:World,wq=wc:=⟨_,rfl⟩;subst HWC;have BR:=BQ.next t;obtain⟨cG0,cG1,cG2,cG3⟩:=cl4 Z;obtain⟨cR0,cR1,cR2,cR3⟩:=cl4 BR;have fR0:=BR.frozen 0;have fR1:=BR.frozen 1;have fR2:=BR.frozen 2;have fR3:=BR.frozen 3;obtain⟨wf,HWF⟩:∃wf,Hid (wf=(((w5.setCell ⟨w.heap.size+1,0,none⟩ (.int .i64 k)).setCell ⟨w.heap.size+1,1,none⟩ (.slice E y G)).setCell ⟨w.heap.size+1,2,none⟩ (.slice F B H)).setCell ⟨w.heap.size+1,3,none⟩ (.slice A5 nX c5)):=⟨_,rfl⟩;have BRR:Blk wf (w.heap.size+1) 57 #[.int .i64 k,.slice E y G,.slice F B H,.slice A5 nX c5]:=by rw[HWF.out];simpa using(((BR.set_ 0 (.int .i64 k)).set_ 1 (.slice E y G)).set_ 2 (.slice F B H)).set_ 3 (.slice A5 nX c5)
    have far:∀ {v:Value} {n:Nat} {xs:List Value},w5.ownsRow w0.heap.size 3 1 v n xs->wf.ownsRow w0.heap.size 3 1 v n xs:=fun h=>by
     rw[HWF.out];exact qy (qy (qy (qy h (by exact hs0)) (by exact hs0)) (by exact hs0)) (by exact hs0)
    have HO1:=zaa (far l);have HO2:=zaa (far o);have HO3:=zaa (far ho5);have HTT:Hid (Below w.heap.size w wf):=by
     show Below _ _ _
     rw[HWF.out];exact((((q9 HT0.out t rfl).setCell (p:=⟨w.heap.size+1,0,none⟩) (show w.heap.size<=w.heap.size+1 by omega) _).setCell (p:=⟨w.heap.size+1,1,none⟩) (show w.heap.size<=w.heap.size+1 by omega) _).setCell (p:=⟨w.heap.size+1,2,none⟩) (show w.heap.size<=w.heap.size+1 by omega) _).setCell (p:=⟨w.heap.size+1,3,none⟩) (show w.heap.size<=w.heap.size+1 by omega) _
    have ab:=zaa (zap aa (zap ha15 ha25));clear l o ho5 BR far aa ha15 ha25;go_wp2_with fail;rw[<-HWF.out]
    (try simp only[Exit.inBlock,Exit.then])
    refine zas (v:=.agg #[.int .i64 k,.slice E y G,.slice F B H,.slice A5 nX c5]) (zb3 rfl _ _ (w.heap.size+1) 57 #[.int .i64 k,.slice E y G,.slice F B H,.slice A5 nX c5] (0,0) _ (by simp) BRR zcr rfl (by kernel_rfl)) rfl ?_;exact⟨E,G,F,H,A5,c5,rfl,qh HO1.out HT0.out.size,qh HO2.out HT0.out.size,qh HO3.out HT0.out.size,ab.out.1,ab.out.2.1,ab.out.2.2,HTT.out⟩
theorem q17:(Tryz.prog.info? 57).map (fun i=>(i.zero,i.size,i.bytes))=some (some (.agg #[.int .i64 0,.slice none 0 0,.slice none 0 0,.slice none 0 0]),4,80):=by kernel_rfl
theorem qbi {w:World} {c:List Value} {x:q12} {d:List Nat} (h:qj.own w c x d) {b:Nat} (a:b∈d):∃cur fr,w.heap[b]?=some (.cells cur 3 fr):=by
 obtain⟨s,t,m,n,rfl,rfl,⟨_,rfl,-,rfl⟩,⟨o,p,i,j,rfl,rfl,⟨q,r,k,l,rfl,rfl,⟨v,rfl,f,-,rfl⟩,⟨y,rfl,g,-,rfl⟩⟩,⟨u,rfl,e,-,rfl⟩⟩⟩:=h;rw[zch,zat,zat]at a
 rcases a with(a|a)|a
 .exact q5t f a
 .exact q5t g a
 .exact q5t e a
theorem q4i:NoE qj 57:=fun h b d=>by
 obtain⟨a,c,e⟩:=qbi h d;exact⟨a,_,c,e,by decide⟩
theorem PO.noB {lo:Nat} {w:World} {v:Value} {xs:List OpM} {css:List (List Value)} {bls:List (List Nat)} (h:PO lo w v xs css bls) {g:Nat} {t:TypeId} {cs:Array Value} (e:Blk w g t cs) (l:122≠t) (m:3≠t):g∉obl v++bls.flatten:=fun b=>by
 rcases zat.1 b with b|b
 .obtain⟨c,j,a⟩:=q5t h.2.1 b
  rw[show w.heap[g]?=_ from e]at a;injection a with a
  injection a with _ a
  exact l a.symm
 .obtain⟨i,d,b⟩:=zbp.1 b
  obtain⟨k,f⟩:=zbh d;have n:=(zag.1 f).1;have o:=h.1.l1;have p:=h.1.l2;obtain⟨c,j,a⟩:=qcn (h.1.el k _ _ i (zae (by omega)) (zae (by omega)) f) b;rw[show w.heap[g]?=_ from e]at a;injection a with a
  injection a with _ a
  exact m a.symm
theorem PO.setB {lo:Nat} {w:World} {v:Value} {xs:List OpM} {css:List (List Value)} {bls:List (List Nat)} (h:PO lo w v xs css bls) {g k:Nat} {t:TypeId} {cs:Array Value} (d:Blk w g t cs) (a:122≠t) (c:3≠t) (u:Value):PO lo (w.setCell ⟨g,k,none⟩ u) v xs css bls:=
 h.same (by simp) fun b f=>zal w ⟨g,k,none⟩ u b fun e=>h.noB d a c (by rw[<-show b=g from e];exact f)
theorem PGf.noB {lo:Nat} {w:World} {v:Value} {xs:List q12} {css:List (List Value)} {bls:List (List Nat)} (h:PG qj 4 57 lo w v xs css bls) {g:Nat} {t:TypeId} {cs:Array Value} (e:Blk w g t cs) (l:57≠t) (m:3≠t):g∉obl v++bls.flatten:=fun b=>by
 rcases zat.1 b with b|b
 .obtain⟨c,j,a⟩:=q5t h.2.1 b
  rw[show w.heap[g]?=_ from e]at a;injection a with a
  injection a with _ a
  exact l a.symm
 .obtain⟨i,d,b⟩:=zbp.1 b
  obtain⟨k,f⟩:=zbh d;have n:=(zag.1 f).1;have o:=h.1.l1;have p:=h.1.l2;obtain⟨c,j,a⟩:=qbi (h.1.el k _ _ i (zae (by omega)) (zae (by omega)) f) b;rw[show w.heap[g]?=_ from e]at a;injection a with a
  injection a with _ a
  exact m a.symm
theorem PGf.setB {lo:Nat} {w:World} {v:Value} {xs:List q12} {css:List (List Value)} {bls:List (List Nat)} (h:PG qj 4 57 lo w v xs css bls) {g k:Nat} {t:TypeId} {cs:Array Value} (d:Blk w g t cs) (a:57≠t) (c:3≠t) (u:Value):PG qj 4 57 lo (w.setCell ⟨g,k,none⟩ u) v xs css bls:=
 h.same (by simp) fun b f=>zal w ⟨g,k,none⟩ u b fun e=>PGf.noB h d a c (by rw[<-show b=g from e];exact f)
theorem qc7 {lo hi:Nat} {a b:List Nat} (d:Iv lo hi a) (f:Iv lo hi b) (g:∀x∈a,x∉b):Iv lo hi (a++b):=⟨zbf.2 ⟨d.1,f.1,fun x c y i e=>g x c (e ▸ i)⟩,fun x c=>by
 rcases zat.1 c with h|h
 .exact d.2 x h
 .exact f.2 x h⟩
theorem qb2 {w w':World} {f:q12} {e:Ending} (h:CfE w f e w') (i:InR f.1) (m:∀v∈f.2.1.1,InR v) (n:∀v∈f.2.1.2,InR v) (o:∀v∈f.2.2,InR v):
  ∃A1 c1 A2 c2 A3 c3 bk,e=.returned (.agg #[.int .i64 f.1,.slice A1 f.2.1.1.length c1,.slice A2 f.2.1.2.length c2,.slice A3 f.2.2.length c3])/\qj.own w' [.int .i64 f.1,.slice A1 f.2.1.1.length c1,.slice A2 f.2.1.2.length c2,.slice A3 f.2.2.length c3] f bk/\Iv w.heap.size w'.heap.size bk/\Below w.heap.size w w':=by
 obtain⟨A1,c1,A2,c2,A3,c3,rfl,j,k,l,c,d,g,p⟩:=h;have b:∀ {u v:Value},Apart u v->∀x∈obl u,x∉obl v:=fun q x a r=>q x (q1h.1 a) (q1h.1 r)
 refine⟨A1,c1,A2,c2,A3,c3, []++((obl _++obl _)++obl _),rfl,⟨[_], [_,_,_], [],_,rfl,rfl,⟨_,rfl,⟨rfl,i.1,i.2⟩,rfl⟩,⟨[_,_], [_],_,_,rfl,rfl,⟨[_], [_],_,_,rfl,rfl,⟨_,rfl,qh j (zah _),m,rfl⟩,⟨_,rfl,qh k (zah _),n,rfl⟩⟩,⟨_,rfl,qh l (zah _),o,rfl⟩⟩⟩,?_,p⟩;rw[zch];refine qc7 (qc7 (q76 j) (q76 k) (b c)) (q76 l) fun x a=>?_
 rcases zat.1 a with a|a
 .exact b d x a
 .exact b g x a
def LabP (lo:Nat) (w:World) (x:LabM) (v u:Value):Prop:=∃css bls dss cls mid,PO lo w v x.2.1.2 css bls/\Iv lo mid (obl v++bls.flatten)/\lo<=mid/\PG qj 4 57 mid w u x.2.2.1 dss cls
def LabE (w:World) (x:LabM) (e:Ending) (w':World):Prop:=∃v u,e=.returned (.agg #[.bool x.1,.int .i64 x.2.1.1,v,u,.int .i64 x.2.2.2])/\LabP w.heap.size w' x v u/\Below w.heap.size w w'
theorem qd8 (cs:List Value) (x:LabM) (w:World) (h:q19.rd w cs x) (hn:q19.cnt x<=1048576):Calls Tryz.prog 43 #[.agg cs.toArray] w (LabE w x):=by
 obtain⟨Bo,k,d,F,n,c,rfl,qZ,qO,qF,qR⟩:=q3j h;have hcn:0+(qf.cnt x.2.1+((x.2.2.1.length+cntS qj.cnt x.2.2.1)+0))<=1048576:=hn;obtain rfl:x.2.2.1.length=n:=qF.len;have hle:x.2.2.1.length<=1048576:=by omega
 obtain⟨C,hw0,T0,hsz0,BP,BQ⟩:=q1p w #[.bool x.1,.int .i64 x.2.1.1,.slice Bo k d,.slice F x.2.2.1.length c,.int .i64 x.2.2.2] #[.bool false,.int .i64 0,.slice none 0 0,.slice none 0 0,.int .i64 0] 27 27;have HW0:=zaa hw0;have HCL:Hid (∀wz,Below C.heap.size C wz->Calls Tryz.prog 78 #[.agg #[.int .i64 x.2.1.1,.slice Bo k d]] wz (AlgE wz x.2.1)):=fun wz hz=>q60 [.int .i64 x.2.1.1,.slice Bo k d] x.2.1 wz (q2o qZ ((qO.next T0).next hz)) (by omega)
 obtain⟨a,l,r,cP3,s⟩:=cl5 BP;have E:Below C.heap.size C C:=zab _ _;have HT0:=zaa T0;have HQF:=zaa (qF.next T0);have HQR:=zaa qR;have HQZ:=zaa qZ;have HCN:Hid (x.2.2.1.length+cntS qj.cnt x.2.2.1<=1048576):=by show _<=_;omega
 have hs0:C.heap.size=w.heap.size+2:=hsz0;have hs1:w.heap.size+1<C.heap.size:=by omega
 have HS0:=zaa hs0;clear hw0 hsz0 h qO qF hcn hn qR qZ T0 hs0
 go_enter Tryz.func43,Tryz.ntmps43
 go_upto_region 1 with fail;rw[<-HW0.out];have HD:=zaa (zap a (zap l (zap r s)))
 go_cut [3]from 6 to 13 (fun u3 wx=>∃g v Y bls,u3=.pointer (some ⟨g,0,none⟩)/\Blk wx g 27 #[.bool x.1,.int .i64 x.2.1.1,v,.slice none 0 0,.int .i64 x.2.2.2]/\PO C.heap.size wx v x.2.1.2 Y bls/\Below C.heap.size C wx/\C.heap.size<=g)
 case first=>
  refine zb1 (S:=fun w'=>w'.cell? ⟨w.heap.size,0,none⟩=some (.bool x.1)/\w'.cell? ⟨w.heap.size,1,none⟩=some (.int .i64 x.2.1.1)/\w'.cell? ⟨w.heap.size,2,none⟩=some (.slice Bo k d)/\w'.cell? ⟨w.heap.size,4,none⟩=some (.int .i64 x.2.2.2)) (by kernel_rfl) ⟨a,l,r,s⟩ (fun hHeld0=>?_);obtain⟨z,Hwt1⟩:∃x,Hid (x=World.drew C):=⟨_,rfl⟩;have R:Below C.heap.size C z:=by rw[Hwt1.out];exact(zab _ _).drew
  rw[<-Hwt1.out]at hHeld0⊢;have ywt1:=R.size;replace E:=q9 E R rfl;have O:=kk4 R a l r s;clear a l r s;obtain⟨a,l,r,s⟩:=O;refine tp 0 (.pointer (some ⟨w.heap.size,0,none⟩)) rfl ?_;refine tk 1 (.bool x.1) rfl (.inl ⟨by kernel_rfl,fun wv hSw=>by(obtain⟨hS0,hS1,hS2,hS3⟩:=hSw);go_simp⟩) ?_;refine tp 2 (.pointer (some ⟨w.heap.size,1,none⟩)) rfl ?_;refine tk 3 (.agg #[.int .i64 x.2.1.1,.slice Bo k d]) rfl (.inl ⟨by kernel_rfl,fun wv hSw=>by(obtain⟨hS0,hS1,hS2,hS3⟩:=hSw);go_simp⟩) ?_;refine tp 5 (.pointer (some ⟨w.heap.size,4,none⟩)) rfl ?_;refine tk 6 (.int .i64 x.2.2.2) rfl (.inl ⟨by kernel_rfl,fun wv hSw=>by(obtain⟨hS0,hS1,hS2,hS3⟩:=hSw);go_simp⟩) ?_
  (try simp only[Act.put,zA,zB,zC,zD,zE,zF])
  refine r2 4 8 rfl (fun K hK=>?_) rfl (fun K hK=>?_)
  .go_simp
   refine(HCL.out _ E).mono ?_;rintro e B ⟨v4,css4,bls4,rfl,t,T⟩;obtain⟨I,J,rfl⟩:=qq t.2.1;replace t:=t.mono E.size;go_wp2_with fail;have ywt2:=T.size;replace E:=q9 E T rfl;have O:=kk4 T a l r s;clear a l r s;obtain⟨a,l,r,s⟩:=O;refine hK.out _ _ ⟨a,l,r,s⟩ (fun hHeld1=>?_);clear hK K hHeld0;refine tp 7 (.agg #[.bool x.1,.int .i64 x.2.1.1,.slice I x.2.1.2.length J,.slice none 0 0,.int .i64 x.2.2.2]) rfl ?_
   (try simp only[Act.put,zA,zB,zC,zD,zE,zF])
   refine r1 8 rfl (fun K hK=>?_);go_simp;obtain⟨wt3,Hwt3,M,H,zwt3⟩:=al B #[.bool false,.int .i64 0,.slice none 0 0,.slice none 0 0,.int .i64 0] 27;rw[<-Hwt3.out];have ywt3:=M.size;replace E:=q9 E M rfl;replace t:=t.next M;have O:=kk4 M a l r s;clear a l r s;obtain⟨a,l,r,s⟩:=O;refine hK.out _ _ ⟨a,l,r,s⟩ (fun hHeld2=>?_);clear hK K hHeld1
   (try simp only[Act.put,zA,zB,zC,zD,zE,zF])
   refine r1 9 rfl (fun K hK=>?_);obtain⟨gC0,gC1,gC2,gC3,gC4,gF0,gF1,gF2,gF3,gF4⟩:=cf5 H;go_simp;obtain⟨wt4,W⟩:∃wq,Hid (wq=(((((wt3.setCell ⟨B.heap.size,0,none⟩ (.bool x.1)).setCell ⟨B.heap.size,1,none⟩ (.int .i64 x.2.1.1)).setCell ⟨B.heap.size,2,none⟩ (.slice I x.2.1.2.length J)).setCell ⟨B.heap.size,3,none⟩ (.slice none 0 0)).setCell ⟨B.heap.size,4,none⟩ (.int .i64 x.2.2.2))):=⟨_,zaa rfl⟩;rw[<-W.out];have BGf:Blk wt4 B.heap.size 27 #[.bool x.1,.int .i64 x.2.1.1,.slice I x.2.1.2.length J,.slice none 0 0,.int .i64 x.2.2.2]:=by rw[W.out];simpa using(((((H.set_ 0 (.bool x.1)).set_ 1 (.int .i64 x.2.1.1)).set_ 2 (.slice I x.2.1.2.length J)).set_ 3 (.slice none 0 0)).set_ 4 (.int .i64 x.2.2.2))
   have hP0:=PO.setB (k:=0) t H (by decide) (by decide) (.bool x.1);have hP1:=PO.setB (k:=1) hP0 (H.set_ 0 (.bool x.1)) (by decide) (by decide) (.int .i64 x.2.1.1);have hP2:=PO.setB (k:=2) hP1 ((H.set_ 0 (.bool x.1)).set_ 1 (.int .i64 x.2.1.1)) (by decide) (by decide) (.slice I x.2.1.2.length J);have hP3:=PO.setB (k:=3) hP2 (((H.set_ 0 (.bool x.1)).set_ 1 (.int .i64 x.2.1.1)).set_ 2 (.slice I x.2.1.2.length J)) (by decide) (by decide) (.slice none 0 0);have hP4:=PO.setB (k:=4) hP3 ((((H.set_ 0 (.bool x.1)).set_ 1 (.int .i64 x.2.1.1)).set_ 2 (.slice I x.2.1.2.length J)).set_ 3 (.slice none 0 0)) (by decide) (by decide) (.int .i64 x.2.2.2);have hPf:PO C.heap.size wt4 (.slice I x.2.1.2.length J) x.2.1.2 css4 bls4:=by rw[W.out];exact hP4
   have Tf:Below C.heap.size C wt4:=by rw[W.out];exact(((((E.setCell (p:=⟨B.heap.size,0,none⟩) (by show _<=B.heap.size;have:=E.size;omega) (.bool x.1)).setCell (p:=⟨B.heap.size,1,none⟩) (by show _<=B.heap.size;have:=E.size;omega) (.int .i64 x.2.1.1)).setCell (p:=⟨B.heap.size,2,none⟩) (by show _<=B.heap.size;have:=E.size;omega) (.slice I x.2.1.2.length J)).setCell (p:=⟨B.heap.size,3,none⟩) (by show _<=B.heap.size;have:=E.size;omega) (.slice none 0 0)).setCell (p:=⟨B.heap.size,4,none⟩) (by show _<=B.heap.size;have:=E.size;omega) (.int .i64 x.2.2.2))
   replace a:=qe Tf HD.out.1;replace l:=qe Tf HD.out.2.1;replace r:=qe Tf HD.out.2.2.1;replace s:=qe Tf HD.out.2.2.2;have hgl:C.heap.size<=B.heap.size:=by omega
   refine hK.out _ _ ⟨a,l,r,s⟩ (fun hHeld3=>?_);clear hK K hHeld2
   (try simp only[Act.put,zA,zB,zC,zD,zE,zF])
   refine zbg (by kernel_rfl) ?_ _;go_wp2_with fail;go_meet;exact⟨_,_,_,_,rfl,BGf,hPf,Tf,hgl⟩
  .go_simp
   obtain⟨wt5,Hwt5,U,D,zwt5⟩:=al z #[.bool false,.int .i64 0,.slice none 0 0,.slice none 0 0,.int .i64 0] 27;rw[<-Hwt5.out];have ywt5:=U.size;replace E:=q9 E U rfl;have O:=kk4 U a l r s;clear a l r s;obtain⟨a,l,r,s⟩:=O;refine hK.out _ _ ⟨a,l,r,s⟩ (fun hHeld1=>?_);clear hK K hHeld0
   (try simp only[Act.put,zA,zB,zC,zD,zE,zF])
   refine r1 4 rfl (fun K hK=>?_);go_simp;refine(HCL.out _ E).mono ?_;rintro e wt6 ⟨v4,css4,bls4,rfl,t,N⟩;obtain⟨I,J,rfl⟩:=qq t.2.1;replace t:=t.mono E.size;go_wp2_with fail;have ywt6:=N.size;replace E:=q9 E N rfl;replace D:=D.next N;have O:=kk4 N a l r s;clear a l r s;obtain⟨a,l,r,s⟩:=O;refine hK.out _ _ ⟨a,l,r,s⟩ (fun hHeld2=>?_);clear hK K hHeld1;refine tp 7 (.agg #[.bool x.1,.int .i64 x.2.1.1,.slice I x.2.1.2.length J,.slice none 0 0,.int .i64 x.2.2.2]) rfl ?_
   (try simp only[Act.put,zA,zB,zC,zD,zE,zF])
   refine r1 9 rfl (fun K hK=>?_);obtain⟨gC0,gC1,gC2,gC3,gC4,gF0,gF1,gF2,gF3,gF4⟩:=cf5 D;go_simp;obtain⟨wt7,X⟩:∃wq,Hid (wq=(((((wt6.setCell ⟨z.heap.size,0,none⟩ (.bool x.1)).setCell ⟨z.heap.size,1,none⟩ (.int .i64 x.2.1.1)).setCell ⟨z.heap.size,2,none⟩ (.slice I x.2.1.2.length J)).setCell ⟨z.heap.size,3,none⟩ (.slice none 0 0)).setCell ⟨z.heap.size,4,none⟩ (.int .i64 x.2.2.2))):=⟨_,zaa rfl⟩;rw[<-X.out];have BGf:Blk wt7 z.heap.size 27 #[.bool x.1,.int .i64 x.2.1.1,.slice I x.2.1.2.length J,.slice none 0 0,.int .i64 x.2.2.2]:=by rw[X.out];simpa using(((((D.set_ 0 (.bool x.1)).set_ 1 (.int .i64 x.2.1.1)).set_ 2 (.slice I x.2.1.2.length J)).set_ 3 (.slice none 0 0)).set_ 4 (.int .i64 x.2.2.2))
   have hP0:=PO.setB (k:=0) t D (by decide) (by decide) (.bool x.1);have hP1:=PO.setB (k:=1) hP0 (D.set_ 0 (.bool x.1)) (by decide) (by decide) (.int .i64 x.2.1.1);have hP2:=PO.setB (k:=2) hP1 ((D.set_ 0 (.bool x.1)).set_ 1 (.int .i64 x.2.1.1)) (by decide) (by decide) (.slice I x.2.1.2.length J);have hP3:=PO.setB (k:=3) hP2 (((D.set_ 0 (.bool x.1)).set_ 1 (.int .i64 x.2.1.1)).set_ 2 (.slice I x.2.1.2.length J)) (by decide) (by decide) (.slice none 0 0);have hP4:=PO.setB (k:=4) hP3 ((((D.set_ 0 (.bool x.1)).set_ 1 (.int .i64 x.2.1.1)).set_ 2 (.slice I x.2.1.2.length J)).set_ 3 (.slice none 0 0)) (by decide) (by decide) (.int .i64 x.2.2.2);have hPf:PO C.heap.size wt7 (.slice I x.2.1.2.length J) x.2.1.2 css4 bls4:=by rw[X.out];exact hP4
   have Tf:Below C.heap.size C wt7:=by rw[X.out];exact(((((E.setCell (p:=⟨z.heap.size,0,none⟩) (by show _<=z.heap.size;have:=E.size;omega) (.bool x.1)).setCell (p:=⟨z.heap.size,1,none⟩) (by show _<=z.heap.size;have:=E.size;omega) (.int .i64 x.2.1.1)).setCell (p:=⟨z.heap.size,2,none⟩) (by show _<=z.heap.size;have:=E.size;omega) (.slice I x.2.1.2.length J)).setCell (p:=⟨z.heap.size,3,none⟩) (by show _<=z.heap.size;have:=E.size;omega) (.slice none 0 0)).setCell (p:=⟨z.heap.size,4,none⟩) (by show _<=z.heap.size;have:=E.size;omega) (.int .i64 x.2.2.2))
   replace a:=qe Tf HD.out.1;replace l:=qe Tf HD.out.2.1;replace r:=qe Tf HD.out.2.2.1;replace s:=qe Tf HD.out.2.2.2;have hgl:C.heap.size<=z.heap.size:=by omega
   refine hK.out _ _ ⟨a,l,r,s⟩ (fun hHeld3=>?_);clear hK K hHeld2
   (try simp only[Act.put,zA,zB,zC,zD,zE,zF])
   refine zbg (by kernel_rfl) ?_ _;go_wp2_with fail;go_meet;exact⟨_,_,_,_,rfl,BGf,hPf,Tf,hgl⟩
 case rest=>
  obtain⟨g,v,Y,bls,rfl,BG,t,T1,hg⟩:=hcut;obtain⟨w1,HWC⟩:∃wq:World,wq=wc:=⟨_,rfl⟩;subst HWC;obtain⟨G,V⟩:∃m,Hid (m=w1.heap.size):=⟨_,zaa rfl⟩;have hmid:G<=w1.heap.size:=by rw[V.out];exact zad _
  have HIV:Hid (Iv C.heap.size G (obl v++bls.flatten)):=by rw[V.out];exact t.2.2
  have hgm:g<G:=by rw[V.out];exact BG.lt
  have hlm:C.heap.size<=G:=by rw[V.out];exact T1.size
  have dP3:=qe T1 cP3;have BQ1:=BQ.next T1;have HBQ:=zaa BQ;clear BQ1 a l r s;go_wp2_with fail
  go_loopw [17] (fun i wr=>∃(j:Nat) (u:Value) (dss:List (List Value)) (cls:List (List Nat)),j<=x.2.2.1.length/\i=.int .i64 (j:Int)/\Blk wr g 27 #[.bool x.1,.int .i64 x.2.1.1,v,u,.int .i64 x.2.2.2]/\PO C.heap.size wr v x.2.1.2 Y bls/\PG qj 4 57 G wr u (x.2.2.1.take j) dss cls/\Below C.heap.size C wr/\G<=wr.heap.size) (fun i _=>x.2.2.1.length - (intOf i).toNat)
  case atStart=>exact⟨0,_,_,_,zah _,rfl,BG,t,by rw[zc4];exact PG.nil _ _ _ _ _,T1,hmid⟩
  case round=>
   clear BG t T1 hmid dP3 cP3;obtain⟨j,u,dss,cls,hj,rfl,BG,t,Q,hT,hmr⟩:=hrel
   by_cases hlt:j<x.2.2.1.length
   .have hj0:(0:Int)<=(j:Int):=by omega
    have hj1:(j:Int)<(x.2.2.1.length:Int):=by omega
    obtain⟨b,o,vs,y,rfl,-,hc,hr,-,hx⟩:=HQF.out.at hlt;obtain⟨AL,nL,cL,AR,nR,cR,AV,nV,cV,rfl,qk,qL,qRr,qV⟩:=q1u hr;have cc0:wr.cell? ⟨b,o+j*4,none⟩=some (.int .i64 y.1):=qe hT (hc 0 _ rfl);have cc1:wr.cell? ⟨b,o+j*4+1,none⟩=some (.slice AL nL cL):=qe hT (hc 1 _ rfl);have cc2:wr.cell? ⟨b,o+j*4+2,none⟩=some (.slice AR nR cR):=qe hT (hc 2 _ rfl);have cc3:wr.cell? ⟨b,o+j*4+3,none⟩=some (.slice AV nV cV):=qe hT (hc 3 _ rfl);have HTS:Hid (x.2.2.1.take (j+1)=x.2.2.1.take j++ [y]):=q3i hx;have hcy:qj.cnt y<=1048576:=by
     have h1:=q4e (f:=qj.cnt) (zaf hx);have h2:=HCN.out;omega
    have hcy':0+((y.2.1.1.length+y.2.1.2.length)+y.2.2.length)<=1048576:=hcy;obtain⟨L,HL⟩:∃L,Hid (x.2.2.1.take j=L):=⟨_,rfl⟩;have HLK:Hid (L.length=j):=by show _=_;rw[<-HL.out,za8];omega
    rw[HL.out]at Q;have HTS2:Hid (x.2.2.1.take (j+1)=L++ [y]):=by show _=_;rw[HTS.out,HL.out]
    obtain⟨A,cA,rfl⟩:=qq Q.2.1;obtain⟨w5,HW5⟩:∃wb,Hid (wb=wr.alloc (.cells #[.int .i64 y.1,.slice AL nL cL,.slice AR nR cR,.slice AV nV cV] 57)):=⟨_,rfl⟩;have T5:Below wr.heap.size wr w5:=by rw[HW5.out];exact qm _ _
    have BY:Blk w5 wr.heap.size 57 #[.int .i64 y.1,.slice AL nL cL,.slice AR nR cR,.slice AV nV cV]:=by rw[HW5.out];exact Blk.new _ _ _
    have hT5:=q9 hT T5 rfl;have HCF:Hid (∀wz,Below w5.heap.size w5 wz->Calls Tryz.prog 79 #[.agg #[.int .i64 y.1,.slice AL nL cL,.slice AR nR cR,.slice AV nV cV]] wz (CfE wz y)):=fun wz hz=>
     q5a y.1 AL nL cL AR nR cR AV nV cV y.2.1.1 y.2.1.2 y.2.2 wz (qL.next qd (q9 hT5 hz rfl)) (qRr.next qd (q9 hT5 hz rfl)) (qV.next qd (q9 hT5 hz rfl)) (by rw[<-qL.len];omega) (by rw[<-qRr.len];omega) (by rw[<-qV.len];omega)
    have HBD:Hid ((∀v∈y.2.1.1,InR v)/\(∀v∈y.2.1.2,InR v)/\(∀v∈y.2.2,InR v)):=⟨qL.bounds,qRr.bounds,qV.bounds⟩;have HQK:=zaa qk;obtain⟨cY0,cY1,cY2,cY3⟩:=cl4 BY;have BG5:=BG.next T5;have cO5:=BG5.cell 3;have fO5:=BG5.frozen 3;simp at cO5;have hPO5:=t.next T5;have hP5:=Q.next T5;have hm5:G<=w5.heap.size:=by have:=T5.size;omega
    have hz5:=T5.size;have E:Below w5.heap.size w5 w5:=zab _ _;clear hc hx hr Q cY0 cY1 cY2 cY3 hcy hcy' qL qRr qV qk;obtain⟨cY0,cY1,cY2,cY3⟩:=cl4 BY;go_upto_region 5 with fail;rw[<-HW5.out];clear cc0 cc1 cc2 cc3
    go_region_law (first
     |(refine q83 w6 rfl (.tmp 22) (.tmp 25) 25 57 rfl (.agg #[.int .i64 0,.slice none 0 0,.slice none 0 0,.slice none 0 0]) 4 80 zbz q17 rfl (by decide) (by decide) G L.length cA A dss.flatten (by rfl) hvs [.int .i64 y.1,.slice A1 y.2.1.1.length c1,.slice A2 y.2.1.2.length c2,.slice A3 y.2.2.length c3] rfl (by intro q hq;simp at hq;rcases hq with rfl|rfl|rfl|rfl<;>rfl) (by rfl) (by have:=HLK.out;omega) (by omega) ?_;intro A8 c8 w8 hown8 hg8 hb8;have aa:=Z.grown hg8 (fun e=>q1q hvs Z (by decide) e.symm);have cO8:=aa.cell 3;have fO8:=aa.frozen 3;simp at cO8)
     |(go_simp;go_at_call 79;(with_reducible refine(HCF.out _ ?_).mono ?_);(first|exact E|exact zai E);rintro e w6 hcf;obtain⟨A1,c1,A2,c2,A3,c3,bk,rfl,hO6,hiv6,hbn⟩:=qb2 hcf HQK.out HBD.out.1 HBD.out.2.1 HBD.out.2.2;have hb:=q9 (zai (zab w5.heap.size w5)) hbn rfl;have hiv6':Iv w5.heap.size w6.heap.size bk:=hiv6;obtain⟨hvs,HPU⟩:=hP5.push q4i rfl hb hm5 hO6 hiv6';have hsz6:=hb.size;have Z:=BG5.next hb;have cO6:=Z.cell 3;have fO6:=Z.frozen 3;have cO6a:=(Z.alloc (.cells #[.int .i64 y.1,.slice A1 y.2.1.1.length c1,.slice A2 y.2.1.2.length c2,.slice A3 y.2.2.length c3] 57)).cell 3;simp at cO6 cO6a;have dY0:=(BY.next hb).cell 0;have dY1:=(BY.next hb).cell 1;have dY2:=(BY.next hb).cell 2;have dY3:=(BY.next hb).cell 3;simp at dY0 dY1 dY2 dY3))
    all_goals
     have PN:=PGf.setB (k:=3) (HPU hown8 hg8) aa (by decide) (by decide) (.slice A8 (L.length+1) c8);have hT8:Below C.heap.size C (w8.setCell ⟨g,3,none⟩ (.slice A8 (L.length+1) c8)):=((q9 hT5 hb rfl).trans (hb8.mono (by omega))).setCell (p:=⟨g,3,none⟩) (by exact hg) _;have BG9:Blk (w8.setCell ⟨g,3,none⟩ (.slice A8 (L.length+1) c8)) g 27 #[.bool x.1,.int .i64 x.2.1.1,v,.slice A8 (L.length+1) c8,.int .i64 x.2.2.2]:=by simpa using aa.set_ 3 (.slice A8 (L.length+1) c8)
     have hPO8:PO C.heap.size w8 v x.2.1.2 Y bls:=(hPO5.next hb).same hg8.size fun b hb'=>hb8.block b (by have:=HIV.out.2 b hb';omega)
     have hPO9:=PO.setB (k:=3) hPO8 aa (by decide) (by decide) (.slice A8 (L.length+1) c8);have hm9:G<=(w8.setCell ⟨g,3,none⟩ (.slice A8 (L.length+1) c8)).heap.size:=by simp;have:=hb8.size;omega
     have P:=zaa (zap BG9 (zap hPO9 (zap PN (zap hT8 hm9))));clear BG9 hPO9 PN hT8 hPO8 hown8 hb8 hvs HPU hb cO6 cO6a fO6 dY0 dY1 dY2 dY3;go_wp2_with fail
     go_roundw
     case rel=>exact⟨j+1,_,_,_,by omega,by go_num,P.out.1,P.out.2.1,by rw[HTS2.out];exact P.out.2.2.1,P.out.2.2.2.1,P.out.2.2.2.2⟩
     case measure=>simp[intOf];omega
   .obtain rfl:j=x.2.2.1.length:=by omega
    have hlt':¬(x.2.2.1.length:Int)<(x.2.2.1.length:Int):=by omega
    rw[zaq (zad _)]at Q;obtain⟨Av,cv,rfl⟩:=qq t.2.1;obtain⟨Au,cu,rfl⟩:=qq Q.2.1;have BQr:=HBQ.out.next hT;obtain⟨cG0,cG1,cG2,cG3,cG4⟩:=cl5 BG;obtain⟨cQ0,cQ1,cQ2,cQ3,cQ4,fQ0,fQ1,fQ2,fQ3,fQ4⟩:=cf5 BQr;obtain⟨wf,ab⟩:∃wf,Hid (wf=((((wr.setCell ⟨w.heap.size+1,0,none⟩ (.bool x.1)).setCell ⟨w.heap.size+1,1,none⟩ (.int .i64 x.2.1.1)).setCell ⟨w.heap.size+1,2,none⟩ (.slice Av x.2.1.2.length cv)).setCell ⟨w.heap.size+1,3,none⟩ (.slice Au x.2.2.1.length cu)).setCell ⟨w.heap.size+1,4,none⟩ (.int .i64 x.2.2.2)):=⟨_,zaa rfl⟩;have hpp:w.heap.size+1<C.heap.size:=hs1;have BRR:Blk wf (w.heap.size+1) 27 #[.bool x.1,.int .i64 x.2.1.1,.slice Av x.2.1.2.length cv,.slice Au x.2.2.1.length cu,.int .i64 x.2.2.2]:=by rw[ab.out];simpa using((((BQr.set_ 0 (.bool x.1)).set_ 1 (.int .i64 x.2.1.1)).set_ 2 (.slice Av x.2.1.2.length cv)).set_ 3 (.slice Au x.2.2.1.length cu)).set_ 4 (.int .i64 x.2.2.2)
    have HPO:Hid (PO C.heap.size wf (.slice Av x.2.1.2.length cv) x.2.1.2 Y bls):=by rw[ab.out];exact((((t.far (p:=⟨w.heap.size+1,0,none⟩) hpp _).far (p:=⟨w.heap.size+1,1,none⟩) hpp _).far (p:=⟨w.heap.size+1,2,none⟩) hpp _).far (p:=⟨w.heap.size+1,3,none⟩) hpp _).far (p:=⟨w.heap.size+1,4,none⟩) hpp _
    have hpm:w.heap.size+1<G:=by omega
    have HPG:Hid (PG qj 4 57 G wf (.slice Au x.2.2.1.length cu) x.2.2.1 dss cls):=by rw[ab.out];exact((((Q.far (p:=⟨w.heap.size+1,0,none⟩) hpm _).far (p:=⟨w.heap.size+1,1,none⟩) hpm _).far (p:=⟨w.heap.size+1,2,none⟩) hpm _).far (p:=⟨w.heap.size+1,3,none⟩) hpm _).far (p:=⟨w.heap.size+1,4,none⟩) hpm _
    have hpl:w.heap.size<=w.heap.size+1:=by omega
    have HTT:Hid (Below w.heap.size w wf):=by rw[ab.out];exact(((((q9 HT0.out hT rfl).setCell (p:=⟨w.heap.size+1,0,none⟩) hpl _).setCell (p:=⟨w.heap.size+1,1,none⟩) hpl _).setCell (p:=⟨w.heap.size+1,2,none⟩) hpl _).setCell (p:=⟨w.heap.size+1,3,none⟩) hpl _).setCell (p:=⟨w.heap.size+1,4,none⟩) hpl _
    have hgne:g≠w.heap.size+1:=by omega
    clear t Q BQr;go_wp2_with fail;rw[<-ab.out]
    (try simp only[Exit.inBlock,Exit.then])
    refine zas (v:=.agg #[.bool x.1,.int .i64 x.2.1.1,.slice Av x.2.1.2.length cv,.slice Au x.2.2.1.length cu,.int .i64 x.2.2.2]) (zb3 rfl _ _ (w.heap.size+1) 27 #[.bool x.1,.int .i64 x.2.1.1,.slice Av x.2.1.2.length cv,.slice Au x.2.2.1.length cu,.int .i64 x.2.2.2] (0,0) _ (by simp) BRR zbk rfl (by kernel_rfl)) rfl ?_;exact⟨_,_,rfl,⟨Y,bls,dss,cls,G,HPO.out.mono (by omega),HIV.out.mono (by omega) (zad _),by omega,HPG.out⟩,HTT.out⟩
def zLab:LabM:=(false,(0, []), [],0)
noncomputable def twoF (x:LabM) (kind a b:Int):Option q12:=
 match x.2.2.1[a.toNat]?,x.2.2.1[b.toNat]? with
 | some f, some g =>
   if a = b \/ f.1 ≠ g.1 then none
   else if f.1 = 3 then some (3, ([], []), if kind = 3 then q29 g.2.2 f.2.2 else genL x.2.1.1.toNat x.2.1.2 (f.2.2 ++ g.2.2))
   else if f.1 = 4 then some (4, ([], []), if kind = 3 then q48 f.2.2 g.2.2 else q67 f.2.2 g.2.2)
   else none
 |_,_=>none
noncomputable def addF (x:LabM) (f:q12):LabM:=if posF x.2.2.1 f<0 then(x.1,x.2.1,x.2.2.1++ [f],x.2.2.2)else x
noncomputable def makM (x:LabM) (s:qw):Option LabM:=
 if s.1=2 then some (if q1l x.2.1 s.2.2.1=true/\posF x.2.2.1 s.2.2.1<0 then(x.1,x.2.1,x.2.2.1++ [s.2.2.1],x.2.2.2)else(x.1,x.2.1,x.2.2.1,x.2.2.2+1))
 else if s.1=3\/s.1=4 then(twoF x s.1 s.2.2.2.2.1 s.2.2.2.2.2).map (addF x)
 else if s.1=5 then(if s.2.2.2.2.1<(x.2.2.1.length:Int)then some (x.1,x.2.1,x.2.2.1.take s.2.2.2.2.1.toNat++x.2.2.1.drop (s.2.2.2.2.1.toNat+1),x.2.2.2)else none)
 else if s.1=6 then(if q7f x.2.1.1.toNat s.2.2.2.1=true then some (x.1,ren x.2.1 s.2.2.2.1,x.2.2.1.map fun f=>(f.1,f.2.1,rfL f.1 f.2.2 s.2.2.2.1),x.2.2.2)else none)
 else some (false,(0, []), [],x.2.2.2)
noncomputable def q96 (x:LabM) (s:qw):Option LabM:=
 if labB x=true/\q2j s=true/\(x.1=true↔s.1≠1)then
  (if s.1 = 1 then (parA s.2.1).map fun a => (true, a, x.2.2.1, x.2.2.2)
   else (makM x s).bind fun y => if y.2.2.1.length <= 12 /\ y.2.2.2 <= 9999 then some y else none)
 else none
noncomputable def slR (x:LabM) (s:qw):LabM:=(q96 x s).getD zLab
noncomputable def slOk (x:LabM) (s:qw):Bool:=(q96 x s).isSome
theorem q4c {x:LabM} {s:qw} (h:q96 x s=none):slR x s=zLab/\slOk x s=false:=by unfold slR slOk;rw[h];exact⟨rfl,rfl⟩
theorem qco {x:LabM} {s:qw} {y:LabM} (h:q96 x s=some y):slR x s=y/\slOk x s=true:=by unfold slR slOk;rw[h];exact⟨rfl,rfl⟩
theorem q3h {x:LabM} {s:qw} (h:¬(labB x=true/\q2j s=true/\(x.1=true↔s.1≠1))):q96 x s=none:=by unfold q96;rw[zaj h]
theorem q8m {x:LabM} {s:qw} (h:labB x=true/\q2j s=true/\(x.1=true↔s.1≠1)) (b:s.1=1):q96 x s=(parA s.2.1).map fun a=>(true,a,x.2.2.1,x.2.2.2):=by unfold q96;rw[zao h,zao b]
theorem q8n {x:LabM} {s:qw} (h:labB x=true/\q2j s=true/\(x.1=true↔s.1≠1)) (a:s.1≠1):q96 x s=(makM x s).bind fun y=>if y.2.2.1.length<=12/\y.2.2.2<=9999 then some y else none:=by unfold q96;rw[zao h,zaj a]
def q2i:Sh LabM:=(Sh.pair Sh.bool (Sh.pair qf (Sh.pair (Sh.rowsW qj 57) Sh.int)))
def LabD (lo:Nat) (w:World) (x:LabM) (v u:Value):Prop:=∃css bls dss cls,PO lo w v x.2.1.2 css bls/\PG qj 4 57 lo w u x.2.2.1 dss cls/\∀b∈obl v++bls.flatten,b∉obl u++cls.flatten
def LabPW (lo:Nat) (w:World) (x:LabM) (v u:Value):Prop:=∃css bls dss cls A n c d,u=.slice A n d/\n<=d/\PO lo w v x.2.1.2 css bls/\PG qj 4 57 lo w (.slice A n c) x.2.2.1 dss cls/\∀b∈obl v++bls.flatten,b∉obl (.slice A n c)++cls.flatten
theorem qij {w:World} {base size n c m:Nat} {e:TypeId} {A:Option Addr} {xs:List Value} (h:w.ownsRow base e size (.slice A n c) m xs):n<=c:=by
 rcases h.2 with⟨a,-⟩|⟨g,b,d,a,-,-,f,-⟩
 .injection a with _ e2 e3
  omega
 .injection a with _ e2 e3
  omega
theorem LabP.d {lo:Nat} {w:World} {x:LabM} {v u:Value} (h:LabP lo w x v u):LabD lo w x v u:=by
 obtain⟨c,bls,e,a,m,i,j,k,g⟩:=h
 exact⟨c,bls,e,a,i,g.mono k,fun b l f=>by
  have:=j.2 b l;have:=g.2.2.2 b f
  omega⟩
theorem LabD.w {lo:Nat} {w:World} {x:LabM} {v u:Value} (h:LabD lo w x v u):LabPW lo w x v u:=by
 obtain⟨b,bls,d,a,f,e,g⟩:=h;obtain⟨A,c,rfl⟩:=qq e.2.1;exact⟨b,bls,d,a,A,_,c,c,rfl,qij e.2.1,f,e,g⟩
theorem LabD.next {lo:Nat} {w w':World} {x:LabM} {v u:Value} (h:LabD lo w x v u) (d:Below w.heap.size w w'):LabD lo w' x v u:=by
 obtain⟨b,bls,c,a,e,f,g⟩:=h;exact⟨b,bls,c,a,e.next d,f.next d,g⟩
theorem LabD.setB {lo:Nat} {w:World} {x:LabM} {v u:Value} (h:LabD lo w x v u) {g k:Nat} {cs:Array Value} (d:Blk w g 27 cs) (q:Value):LabD lo (w.setCell ⟨g,k,none⟩ q) x v u:=by
 obtain⟨b,bls,c,a,e,f,i⟩:=h;exact⟨b,bls,c,a,e.setB d (by decide) (by decide) q,PGf.setB f d (by decide) (by decide) q,i⟩
theorem LabPW.next {lo:Nat} {w w':World} {x:LabM} {v u:Value} (h:LabPW lo w x v u) (g:Below w.heap.size w w'):LabPW lo w' x v u:=by
 obtain⟨b,bls,e,a,A,n,c,d,i,f,j,k,l⟩:=h;exact⟨b,bls,e,a,A,n,c,d,i,f,j.next g,k.next g,l⟩
theorem LabPW.setB {lo:Nat} {w:World} {x:LabM} {v u:Value} (h:LabPW lo w x v u) {g k:Nat} {cs:Array Value} (i:Blk w g 27 cs) (q:Value):LabPW lo (w.setCell ⟨g,k,none⟩ q) x v u:=by
 obtain⟨b,bls,e,a,A,n,c,d,j,f,l,m,o⟩:=h;exact⟨b,bls,e,a,A,n,c,d,j,f,l.setB i (by decide) (by decide) q,PGf.setB m i (by decide) (by decide) q,o⟩
theorem LabPW.mono {lo lo':Nat} {w:World} {x:LabM} {v u:Value} (h:LabPW lo w x v u) (g:lo'<=lo):LabPW lo' w x v u:=by
 obtain⟨b,bls,e,a,A,n,c,d,i,f,j,k,l⟩:=h;exact⟨b,bls,e,a,A,n,c,d,i,f,j.mono g,k.mono g,l⟩
theorem LabPW.slices {lo:Nat} {w:World} {x:LabM} {v u:Value} (h:LabPW lo w x v u):∃A1 c1 A2 c2,v=.slice A1 x.2.1.2.length c1/\u=.slice A2 x.2.2.1.length c2/\x.2.2.1.length<=c2:=by
 obtain⟨f,bls,g,b,A,n,c,d,rfl,a,j,k,l⟩:=h;obtain⟨A1,c1,e⟩:=qq j.2.1;obtain⟨A2,c2,i⟩:=qq k.2.1;injection i with a1 a2 a3
 subst a1;subst a2;exact⟨A1,c1,_,d,e,rfl,a⟩
theorem LabPW.own {lo:Nat} {w:World} {x:LabM} {v u:Value} (h:LabPW lo w x v u) (k:InR x.2.1.1) (f:InR x.2.2.2):∃bl,q2i.own w [.bool x.1,.int .i64 x.2.1.1,v,u,.int .i64 x.2.2.2] x bl/\Iv lo w.heap.size bl:=by
 obtain⟨j,bls,b,a,A,n,c,d,rfl,e,g,i,l⟩:=h;refine⟨[]++((obl v++bls.flatten)++((obl (.slice A n c)++a.flatten)++ [])),⟨[_], [_,_,_,_], [],_,rfl,rfl,⟨_,rfl,rfl,rfl⟩,⟨[_,_], [_,_],_,_,rfl,rfl,g.algO k,⟨[_], [_],_, [],rfl,rfl,⟨A,n,c,d,b,a,rfl,e,i.1,rfl⟩,⟨_,rfl,⟨rfl,f.1,f.2⟩,rfl⟩⟩⟩⟩,?_⟩;rw[zch,zc3];exact qc7 g.2.2 i.2.2 l
theorem qdt (lo:Nat) (w:World):LabPW lo w zLab (.slice none 0 0) (.slice none 0 0):=
 ⟨[], [], [], [],none,0,0,0,rfl,zad _,PO.nil _ _,PG.nil _ _ _ _ _,fun b a=>by simp[obl,Value.ownBlock]at a⟩
theorem LabD.mono {lo lo':Nat} {w:World} {x:LabM} {v u:Value} (h:LabD lo w x v u) (d:lo'<=lo):LabD lo' w x v u:=by
 obtain⟨b,bls,c,a,e,f,g⟩:=h;exact⟨b,bls,c,a,e.mono d,f.mono d,g⟩
theorem qml {w:World} {size n lo:Nat} {e:TypeId} {v:Value} {xs:List Value} (h:w.ownsRow 0 e size v n xs) (i:∀b,v.ownBlock=some b->lo<=b):w.ownsRow lo e size v n xs:=by
 refine⟨h.1,?_⟩
 rcases h.2 with d|⟨g,a,c,rfl,-,f⟩
 .exact .inl d
 .exact .inr ⟨g,a,c,rfl,i g rfl,f⟩
theorem PO.of_own {w:World} {cs:List Value} {a:qi} {e:List Nat} {lo hi:Nat} (h:qf.own w cs a e) (d:Iv lo hi e) (j:hi<=w.heap.size):∃A c css bls,cs= [.int .i64 a.1,.slice A a.2.length c]/\PO lo w (.slice A a.2.length c) a.2 css bls/\e=obl (.slice A a.2.length c)++bls.flatten/\InR a.1:=by
 obtain⟨m,n,k,l,rfl,rfl,⟨_,rfl,⟨rfl,f,g⟩,rfl⟩,⟨v,css,bls,rfl,P,rfl⟩⟩:=h;obtain⟨A,c,rfl⟩:=qq P.row;refine⟨A,c,css,bls,rfl,⟨P,qml P.row fun b i=>(d.2 b (by rw[zch];exact zba _ (q1h.2 i))).1,?_⟩,rfl,⟨f,g⟩⟩;exact(by simpa using d:Iv lo hi _).mono (zad _) j
theorem qex {w w':World} {x:LabM} {v u:Value} {r:LabM} {c b:Bool} (h:LabPW w.heap.size w' x v u) (f:InR x.2.1.1) (g:InR x.2.2.2) (i:Below w.heap.size w w') (e:r=x/\c=b):
  OwA q2i w r c (.returned (.tuple #[.agg #[.bool x.1,.int .i64 x.2.1.1,v,u,.int .i64 x.2.2.2],.bool b])) w':=by
 obtain⟨rfl,rfl⟩:=e;obtain⟨d,j,a⟩:=h.own f g;exact⟨_,d,rfl,j,a,i⟩
theorem q57 {w w':World} {r:LabM} {a:Bool} (b:Below w.heap.size w w') (e:r=zLab/\a=false):
  OwA q2i w r a (.returned (.tuple #[.agg #[.bool false,.int .i64 0,.slice none 0 0,.slice none 0 0,.int .i64 0],.bool false])) w':=
 qex (x:=zLab) (qdt _ _) ⟨by decide,by decide⟩ ⟨by decide,by decide⟩ b e
def MkO (Bd g:Nat) (x:LabM) (s:qw) (w:World) (e:Ending) (w':World):Prop:=Below Bd w w'/\((makM x s=none/\e=.returned (.bool false))\/∃y v u,makM x s=some y/\e=.returned (.bool true)/\Blk w' g 27 #[.bool y.1,.int .i64 y.2.1.1,v,u,.int .i64 y.2.2.2]/\LabPW Bd w' y v u/\InR y.2.1.1/\InR y.2.2.2)
theorem q18 {w:World} {g:Nat} {f i j k l:Value} (h:Blk w g 27 #[f,i,j,k,l]) (a b c d e:Value):Blk (((((w.setCell ⟨g,0,none⟩ a).setCell ⟨g,1,none⟩ b).setCell ⟨g,2,none⟩ c).setCell ⟨g,3,none⟩ d).setCell ⟨g,4,none⟩ e) g 27 #[a,b,c,d,e]:=by
 simpa using((((h.set_ 0 a).set_ 1 b).set_ 2 c).set_ 3 d).set_ 4 e
theorem q10 {B g:Nat} {w w':World} (h:Below B w w') (f:B<=g) (a b c d e:Value):Below B w (((((w'.setCell ⟨g,0,none⟩ a).setCell ⟨g,1,none⟩ b).setCell ⟨g,2,none⟩ c).setCell ⟨g,3,none⟩ d).setCell ⟨g,4,none⟩ e):=
 ((((h.setCell (p:=⟨g,0,none⟩) f a).setCell (p:=⟨g,1,none⟩) f b).setCell (p:=⟨g,2,none⟩) f c).setCell (p:=⟨g,3,none⟩) f d).setCell (p:=⟨g,4,none⟩) f e
theorem LabPW.set5 {lo:Nat} {w:World} {x:LabM} {v u:Value} (h:LabPW lo w x v u) {g:Nat} {cs:Array Value} (k:Blk w g 27 cs) (a b c d e:Value):LabPW lo (((((w.setCell ⟨g,0,none⟩ a).setCell ⟨g,1,none⟩ b).setCell ⟨g,2,none⟩ c).setCell ⟨g,3,none⟩ d).setCell ⟨g,4,none⟩ e) x v u:=by
 have f:=k.set_ 0 a;have i:=f.set_ 1 b;have j:=i.set_ 2 c;have l:=j.set_ 3 d;exact((((h.setB k a).setB f b).setB i c).setB j d).setB l e
theorem q5p {lo lo' n:Nat} {w:World} {v u:Value} {xs:List OpM} {css:List (List Value)} {bls:List (List Nat)} {s:List Value} (h:PO lo w v xs css bls) (r:w.ownsRow lo' 57 4 u n s):∀b∈obl v++bls.flatten,b∉obl u:=fun b d f=>by
 obtain⟨j,o,i⟩:=q5t r f;have:∃a t e,w.heap[b]?=some (.cells a t e)/\t≠57:=by
  rcases zat.1 d with d|d
  .obtain⟨a,e,c⟩:=q5t h.2.1 d
   exact⟨a,_,e,c,by decide⟩
  .obtain⟨m,g,d⟩:=zbp.1 d
   obtain⟨k,l⟩:=zbh g;have p:=(zag.1 l).1;have x:=h.1.l1;have y:=h.1.l2;obtain⟨a,e,c⟩:=qcn (h.1.el k _ _ m (zae (by omega)) (zae (by omega)) l) d;exact⟨a,_,e,c,by decide⟩
 obtain⟨a,t,e,c,q⟩:=this;rw[i]at c;injection c with c
 injection c with _ c
 exact q c.symm
theorem qob (B:Nat) (E:List Value) (x:LabM) (s:qw) (w:World) (g:Nat) (v u:Value) (Y:B<=g) (b:Blk w g 27 #[.bool x.1,.int .i64 x.2.1.1,v,u,.int .i64 x.2.2.2]) (W:LabD B w x v u) (z:qn.rd w E s) (hx:AlgP x.2.1) (aa:x.2.2.1.length<=12) (hr:0<=x.2.2.2/\x.2.2.2<=9999) (X:qj.cnt s.2.2.1<=1048576) (c:s.1=7):
  Calls Tryz.prog 45 #[.pointer (some ⟨g,0,none⟩),.agg E.toArray] w (MkO B g x s w):=by
 have h:=z;obtain⟨F,nL,K,G,nR,L,I,nV,N,H,nS,M,rfl,pK,pT,pF,pL,pR,pV,pS,pA,pB⟩:=q1f z;obtain⟨P,bls,Q,O,f,e,A⟩:=W;obtain⟨A1,c1,rfl⟩:=qq f.2.1;obtain⟨A2,c2,rfl⟩:=qq e.2.1;obtain⟨w0,j,o,i,C⟩:=q16 w #[.int .i64 s.1,.string s.2.1,.int .i64 s.2.2.1.1,.slice F nL K,.slice G nR L,.slice I nV N,.slice H nS M,.int .i64 s.2.2.2.2.1,.int .i64 s.2.2.2.2.2] 59;have n:=zaa j;have Z:=b.lt;have a:=b.next o;have D:Below B w w0:=o.mono (by omega);have p:=a.cell 0;have q:=a.cell 1;have r:=a.cell 2;have t:=a.cell 3;have y:=a.cell 4;have R:=a.frozen 0;have S:=a.frozen 1;have T:=a.frozen 2;have U:=a.frozen 3;have V:=a.frozen 4;have d:=C.cell 0;simp at p q r t y d;have J:Hid (makM x s=some (false,(0, []), [],x.2.2.2)):=by
  show _=_
  unfold makM;rw[zaj (by rw[c];decide),zaj (by rw[c];decide),zaj (by rw[c];decide),zaj (by rw[c];decide)]
 have k:=zaa (q18 a (.bool false) (.int .i64 0) (.slice none 0 0) (.slice none 0 0) (.int .i64 x.2.2.2));have m:=zaa (q10 D (g:=g) Y (.bool false) (.int .i64 0) (.slice none 0 0) (.slice none 0 0) (.int .i64 x.2.2.2));have l:Hid (InR x.2.2.2):=⟨by omega,by omega⟩;rw[c]at d;clear c;clear j i z h f e A D o a C pK pT pF pL pR pV pS pA pB b
 go_enter Tryz.func45,Tryz.ntmps45
 go_upto_region 1 with fail;rw[<-n.out];go_wp2_with fail;go_ret;exact⟨m.out,ze1 ⟨_,_,_,J.out,rfl,k.out,by exact qdt _ _,(show InR (0:Int)from⟨by decide,by decide⟩),l.out⟩⟩
theorem qo8 (B:Nat) (ds:List Value) (x:LabM) (s:qw) (w:World) (g:Nat) (v u:Value) (hg:B<=g) (hBl:Blk w g 27 #[.bool x.1,.int .i64 x.2.1.1,v,u,.int .i64 x.2.2.2]) (hD:LabD B w x v u) (h':qn.rd w ds s) (hx:AlgP x.2.1) (hln:x.2.2.1.length<=12) (hr:0<=x.2.2.2/\x.2.2.2<=9999) (hcs:qj.cnt s.2.2.1<=1048576) (hk:s.1=2):
  Calls Tryz.prog 45 #[.pointer (some ⟨g,0,none⟩),.agg ds.toArray] w (MkO B g x s w):=by
 have hrd':=h';obtain⟨AL,nL,cL,AR,nR,cR,AV,nV,cV,AS,nS,cS,rfl,pK,pT,pF,pL,pR,pV,pS,pA,pB⟩:=q1f h';obtain⟨css,bls,dss,cls,hPO,hPG,hap⟩:=hD;obtain⟨A1,c1,rfl⟩:=qq hPO.2.1;obtain⟨A2,c2,rfl⟩:=qq hPG.2.1;obtain⟨n,hw0,T0,hsz0,BQ⟩:=q16 w #[.int .i64 s.1,.string s.2.1,.int .i64 s.2.2.1.1,.slice AL nL cL,.slice AR nR cR,.slice AV nV cV,.slice AS nS cS,.int .i64 s.2.2.2.2.1,.int .i64 s.2.2.2.2.2] 59;have HW0:=zaa hw0;have hgw:=hBl.lt;have BG:=hBl.next T0;have T:=hPO.next T0;have S:=hPG.next T0;have TB:Below B w n:=T0.mono (by omega);have HTB:=zaa TB;have hs0:n.heap.size=w.heap.size+1:=hsz0;have K:=BG.cell 0;have L:=BG.cell 1;have M:=BG.cell 2;have l:=BG.cell 3;have m:=BG.cell 4;have fG4:=BG.frozen 4;have cQ0:=BQ.cell 0;have f:=BQ.cell 2;have h:=BQ.cell 3;have i:=BQ.cell 4;have j:=BQ.cell 5;simp at K L M l m cQ0 f h i j;obtain⟨y,HY⟩:∃y,Hid (s.2.2.1=y):=⟨_,zaa rfl⟩;have HQL:=zaa (pL.next qd T0);have HQR:=zaa (pR.next qd T0);have HQV:=zaa (pV.next qd T0);have hcf:0+((s.2.2.1.2.1.1.length+s.2.2.1.2.1.2.length)+s.2.2.1.2.2.length)<=1048576:=hcs;have HCF:Hid (∀c,Below n.heap.size n c->Calls Tryz.prog 79 #[.agg #[.int .i64 s.2.2.1.1,.slice AL nL cL,.slice AR nR cR,.slice AV nV cV]] c (CfE c s.2.2.1)):=fun c z=>
  q5a s.2.2.1.1 AL nL cL AR nR cR AV nV cV s.2.2.1.2.1.1 s.2.2.1.2.1.2 s.2.2.1.2.2 c (HQL.out.next qd z) (HQR.out.next qd z) (HQV.out.next qd z) (by rw[<-pL.len];omega) (by rw[<-pR.len];omega) (by rw[<-pV.len];omega)
 have HFR:Hid (∀c,Below n.heap.size n c->qj.rd c [.int .i64 s.2.2.1.1,.slice AL nL cL,.slice AR nR cR,.slice AV nV cV] s.2.2.1):=fun c z=>q6b pF (HQL.out.next qd z) (HQR.out.next qd z) (HQV.out.next qd z)
 have HBD:Hid ((∀v∈s.2.2.1.2.1.1,InR v)/\(∀v∈s.2.2.1.2.1.2,InR v)/\(∀v∈s.2.2.1.2.2,InR v)):=⟨pL.bounds,pR.bounds,pV.bounds⟩;have HQK:Hid (InR s.2.2.1.1):=pF;have hin:InR x.2.1.1:=⟨by have:=hx.1;omega,by have:=hx.2.1;omega⟩;have hin2:InR x.2.2.2:=⟨by omega,by omega⟩;obtain⟨tb,HTBV⟩:∃b,Hid (q1l x.2.1 s.2.2.1=b):=⟨_,zaa rfl⟩;obtain⟨p,HP⟩:∃p,Hid (posF x.2.2.1 s.2.2.1=p):=⟨_,zaa rfl⟩;have HI:Hid (∀c,Below n.heap.size n c->Calls Tryz.prog 75 #[.agg #[.int .i64 x.2.1.1,.slice A1 x.2.1.2.length c1],.agg #[.int .i64 s.2.2.1.1,.slice AL nL cL,.slice AR nR cR,.slice AV nV cV]] c (Bl c (.bool tb))):=fun c z=>by
  have:=q8s [.int .i64 x.2.1.1,.slice A1 x.2.1.2.length c1] _ x.2.1 s.2.2.1 c (qf.ord ((T.next z).algO hin)) (HFR.out c z) hx
  rwa [HTBV.out]at this
 have HX:Hid (∀c,Below n.heap.size n c->Calls Tryz.prog 76 #[.slice A2 x.2.2.1.length c2,.agg #[.int .i64 s.2.2.1.1,.slice AL nL cL,.slice AR nR cR,.slice AV nV cV]] c (Bl c (.int .i64 p))):=fun c z=>by
  obtain⟨A',c',e,hrd⟩:=(S.next z).rd;injection e with e1 e2 e3
  have:=q5e A2 x.2.2.1.length c2 _ x.2.2.1 s.2.2.1 c (by rw[e1];exact hrd) (HFR.out c z)
  rwa [HP.out]at this
 have HM:Hid (makM x s=some (if tb=true/\p<0 then(x.1,x.2.1,x.2.2.1++ [s.2.2.1],x.2.2.2)else(x.1,x.2.1,x.2.2.1,x.2.2.2+1))):=by
  show _=_
  unfold makM;rw[zao hk,HTBV.out,HP.out]
 have HPO0:=zaa T;have HPG0:=zaa S;have HAP:=zaa hap;rw[hk]at cQ0;have a:Below n.heap.size n n:=zab _ _;clear hk;clear hw0 hsz0 h' hrd' hPO hPG T S hap TB T0 pK pT pF pL pR pV pS pA pB hBl hcf hcs HY
 go_enter Tryz.func45,Tryz.ntmps45
 go_upto_region 1 with fail;rw[<-HW0.out];go_upto_region 3 with fail;obtain⟨qb,Q⟩:∃q,Hid ((tb &&decide (p<0))=q):=⟨_,zaa rfl⟩
 go_cut [27] (fun t wx=>t=.bool qb/\Below n.heap.size n wx)
 case first=>
  rcases tb with _|_
  .first|(go_region_law (first
    |(go_simp;go_at_call 75;(with_reducible refine(HI.out _ ?_).mono ?_);(first|exact a|exact zai a|exact qc (zab _ _) _|exact qc a _);rintro e1 wn ⟨rfl,d⟩;replace a:=q9 (by first|exact a|exact zai a|exact qc (zab _ _) _|exact qc a _) d rfl;have A:=qe a K;have C:=qe a L;have D:=qe a M;have E:=qe a l;have F:=qe a m;have G:=qe a f;have H:=qe a h;have I:=qe a i;have J:=qe a j)))|fail
   all_goals
    go_wp2_with fail;go_meet;exact⟨by rw[<-Q.out];rfl,by first|exact a|exact zai a⟩
  .by_cases hp:p<0
   .skip
    first|(go_region_law (first
     |(go_simp;go_at_call 75;(with_reducible refine(HI.out _ ?_).mono ?_);(first|exact a|exact zai a|exact qc (zab _ _) _|exact qc a _);rintro e1 wn ⟨rfl,d⟩;replace a:=q9 (by first|exact a|exact zai a|exact qc (zab _ _) _|exact qc a _) d rfl;have A:=qe a K;have C:=qe a L;have D:=qe a M;have E:=qe a l;have F:=qe a m;have G:=qe a f;have H:=qe a h;have I:=qe a i;have J:=qe a j)
     |(go_simp;go_at_call 76;(with_reducible refine(HX.out _ ?_).mono ?_);(first|exact a|exact zai a|exact qc (zab _ _) _|exact qc a _);rintro e1 wn ⟨rfl,d⟩;replace a:=q9 (by first|exact a|exact zai a|exact qc (zab _ _) _|exact qc a _) d rfl;have A:=qe a K;have C:=qe a L;have D:=qe a M;have E:=qe a l;have F:=qe a m;have G:=qe a f;have H:=qe a h;have I:=qe a i;have J:=qe a j)))|fail
    all_goals
     go_wp2_with fail;go_meet;exact⟨by rw[<-Q.out];simp[hp],by first|exact a|exact zai a⟩
   .skip
    first|(go_region_law (first
     |(go_simp;go_at_call 75;(with_reducible refine(HI.out _ ?_).mono ?_);(first|exact a|exact zai a|exact qc (zab _ _) _|exact qc a _);rintro e1 wn ⟨rfl,d⟩;replace a:=q9 (by first|exact a|exact zai a|exact qc (zab _ _) _|exact qc a _) d rfl;have A:=qe a K;have C:=qe a L;have D:=qe a M;have E:=qe a l;have F:=qe a m;have G:=qe a f;have H:=qe a h;have I:=qe a i;have J:=qe a j)
     |(go_simp;go_at_call 76;(with_reducible refine(HX.out _ ?_).mono ?_);(first|exact a|exact zai a|exact qc (zab _ _) _|exact qc a _);rintro e1 wn ⟨rfl,d⟩;replace a:=q9 (by first|exact a|exact zai a|exact qc (zab _ _) _|exact qc a _) d rfl;have A:=qe a K;have C:=qe a L;have D:=qe a M;have E:=qe a l;have F:=qe a m;have G:=qe a f;have H:=qe a h;have I:=qe a i;have J:=qe a j)))|fail
    all_goals
     go_wp2_with fail;go_meet;exact⟨by rw[<-Q.out];simp[hp],by first|exact a|exact zai a⟩
 case rest=>
  obtain⟨rfl,o⟩:=hcut;obtain⟨X,HWC⟩:∃wq:World,wq=wc:=⟨_,rfl⟩;subst HWC;have aa:=BG.next o;have zkk:=kk6 o l m f h i j;clear l m f h i j;obtain⟨l,m,f,h,i,j⟩:=zkk;replace fG4:=aa.frozen 4;have R:=HPO0.out.next o;have hG1:=HPG0.out.next o;have T1:=HTB.out.trans (o.mono (by omega:B<=n.heap.size));have hz1:=o.size;clear a BG
  by_cases hgo:tb=true/\p<0
  .obtain⟨rfl,hp⟩:=hgo
   obtain rfl:qb=true:=by rw[<-Q.out];simp[hp]
   have HM2:Hid (makM x s=some (x.1,x.2.1,x.2.2.1++ [s.2.2.1],x.2.2.2)):=HM.out.trans (by rw[zao ⟨rfl,hp⟩]);have hB1:B<=X.heap.size:=by omega
   have a:Below X.heap.size X X:=zab _ _;have HC1:Hid (∀c,Below X.heap.size X c->Calls Tryz.prog 79 #[.agg #[.int .i64 s.2.2.1.1,.slice AL nL cL,.slice AR nR cR,.slice AV nV cV]] c (CfE c s.2.2.1)):=fun c z=>HCF.out c (q9 o z rfl)
   go_upto_region 4 with fail
   go_region_law (first
    |(refine q83 w6 rfl (.tmp 32) (.tmp 36) 25 57 rfl (.agg #[.int .i64 0,.slice none 0 0,.slice none 0 0,.slice none 0 0]) 4 80 zbz q17 rfl (by decide) (by decide) B x.2.2.1.length c2 A2 dss.flatten (by rfl) hvs [.int .i64 s.2.2.1.1,.slice B1 s.2.2.1.2.1.1.length d1,.slice B2 s.2.2.1.2.1.2.length d2,.slice B3 s.2.2.1.2.2.length d3] rfl (by intro q hq;simp at hq;rcases hq with rfl|rfl|rfl|rfl<;>rfl) (by rfl) (by omega) (by omega) ?_;intro Z c8 w8 r hg8 hb8;have P:=O.grown hg8 (fun e=>q1q hvs O (by decide) e.symm);have cO8:=P.cell 3;have fO8:=P.frozen 3;simp at cO8)
    |(go_simp;go_at_call 79;(with_reducible refine(HC1.out _ ?_).mono ?_);(first|exact a|exact zai a);rintro e w6 hcf;obtain⟨B1,d1,B2,d2,B3,d3,bk,rfl,hO6,hiv6,d⟩:=qb2 hcf HQK.out HBD.out.1 HBD.out.2.1 HBD.out.2.2;have V:=q9 (zai (zab X.heap.size X)) d rfl;have W:Iv X.heap.size w6.heap.size bk:=hiv6;obtain⟨hvs,HPU⟩:=hG1.push q4i rfl V hB1 hO6 W;have hsz6:=V.size;have O:=aa.next V;have cO6:=O.cell 3;have fO6:=O.frozen 3;have cO6a:=(O.alloc (.cells #[.int .i64 s.2.2.1.1,.slice B1 s.2.2.1.2.1.1.length d1,.slice B2 s.2.2.1.2.1.2.length d2,.slice B3 s.2.2.1.2.2.length d3] 57)).cell 3;simp at cO6 cO6a;have dY0:=qe V f;have dY1:=qe V h;have dY2:=qe V i;have dY3:=qe V j))
   all_goals
    have PN:=PGf.setB (k:=3) (HPU r hg8) P (by decide) (by decide) (.slice Z (x.2.2.1.length+1) c8);have T8:Below B w (w8.setCell ⟨g,3,none⟩ (.slice Z (x.2.2.1.length+1) c8)):=((T1.trans (V.mono hB1)).trans (hb8.mono (by omega))).setCell (p:=⟨g,3,none⟩) (by exact hg) _;have BG9:Blk (w8.setCell ⟨g,3,none⟩ (.slice Z (x.2.2.1.length+1) c8)) g 27 #[.bool x.1,.int .i64 x.2.1.1,.slice A1 x.2.1.2.length c1,.slice Z (x.2.2.1.length+1) c8,.int .i64 x.2.2.2]:=by simpa using P.set_ 3 (.slice Z (x.2.2.1.length+1) c8)
    have U:PO B w8 (.slice A1 x.2.1.2.length c1) x.2.1.2 css bls:=(R.next V).same hg8.size fun b N=>hg8.block b ((R.next V).2.2.2 b N).2 fun e=>HAP.out b N (zba _ (q1h.2 e.symm))
    have hPO9:=PO.setB (k:=3) U P (by decide) (by decide) (.slice Z (x.2.2.1.length+1) c8);have APN:∀b∈obl (.slice A1 x.2.1.2.length c1)++bls.flatten,b∉obl (.slice Z (x.2.2.1.length+1) c8)++(cls++ [bk]).flatten:=fun b N Y=>by
     rcases zat.1 Y with Y|Y
     .exact q5p U r b N Y
     .rw[zbv,zat]at Y
      rcases Y with Y|Y
      .exact HAP.out b N (zay _ Y)
      .have h1:=(W.2 b (by simpa using Y)).1
       have h2:=(R.2.2.2 b N).2;omega
    have HLD:Hid (LabD B (w8.setCell ⟨g,3,none⟩ (.slice Z (x.2.2.1.length+1) c8)) (x.1,x.2.1,x.2.2.1++ [s.2.2.1],x.2.2.2) (.slice A1 x.2.1.2.length c1) (.slice Z (x.2.2.1.length+1) c8)):=⟨css,bls,_,_,hPO9,PN,APN⟩;have HFIN:=zaa (zap T8 BG9);clear T8 BG9 PN hPO9 U APN r hb8 hvs HPU V cO6 cO6a fO6 dY0 dY1 dY2 dY3;go_wp2_with fail;go_ret;exact⟨HFIN.out.1,ze1 ⟨(x.1,x.2.1,x.2.2.1++ [s.2.2.1],x.2.2.2),_,_,HM2.out,rfl,HFIN.out.2,HLD.out.w,hin,hin2⟩⟩
  .obtain rfl:qb=false:=by
    rw[<-Q.out]
    rcases tb with _|_
    .rfl
    .by_cases hp:p<0
     .exact absurd ⟨rfl,hp⟩ hgo
     .simp[hp]
   have HM2:Hid (makM x s=some (x.1,x.2.1,x.2.2.1,x.2.2.2+1)):=HM.out.trans (by rw[zaj hgo]);have hw64:IntKind.i64.wrap (x.2.2.2+1)=x.2.2.2+1:=zcg _ (by omega);have HBZ:Hid (Blk (X.setCell ⟨g,4,none⟩ (.int .i64 (x.2.2.2+1))) g 27 #[.bool x.1,.int .i64 x.2.1.1,.slice A1 x.2.1.2.length c1,.slice A2 x.2.2.1.length c2,.int .i64 (x.2.2.2+1)]):=by show Blk _ _ _ _;simpa using aa.set_ 4 (.int .i64 (x.2.2.2+1))
   have HLD:Hid (LabD B X (x.1,x.2.1,x.2.2.1,x.2.2.2+1) (.slice A1 x.2.1.2.length c1) (.slice A2 x.2.2.1.length c2)):=⟨css,bls,dss,cls,R,hG1,HAP.out⟩;have HBG1:=zaa aa;have HT1:=zaa (T1.setCell (p:=⟨g,4,none⟩) (by exact hg) (.int .i64 (x.2.2.2+1)));have HRR:Hid (InR (x.2.2.2+1)):=⟨by omega,by omega⟩;have HIN:=zaa hin;clear hgo R hG1 T1;go_wp2_with fail;go_ret;exact⟨HT1.out,ze1 ⟨(x.1,x.2.1,x.2.2.1,x.2.2.2+1),_,_,HM2.out,rfl,HBZ.out,(HLD.out.setB HBG1.out _).w,HIN.out,HRR.out⟩⟩
def BelO (B:Nat) (u:Value) (w w':World):Prop:=Below B w w'/\∀k,k<w.heap.size->k∉obl u->w'.heap[k]?=w.heap[k]?
theorem BelO.of {B:Nat} {u:Value} {w w':World} (h:Below w.heap.size w w') (a:B<=w.heap.size):BelO B u w w':=⟨h.mono a,fun k b _=>h.block k b⟩
theorem BelO.step {B:Nat} {u:Value} {w wr a:World} (h:BelO B u w wr) (d:Below B wr a) (f:w.heap.size<=wr.heap.size) (e:∀k,k<wr.heap.size->k∉obl u->a.heap[k]?=wr.heap[k]?):BelO B u w a:=
 ⟨h.1.trans d,fun k b c=>(e k (zek b f) c).trans (h.2 k b c)⟩
theorem BelO.set5 {B g:Nat} {u:Value} {w w':World} (h:BelO B u w w') (j:w.heap.size<=g) (i:B<=w.heap.size) (a b c d e:Value):BelO B u w (((((w'.setCell ⟨g,0,none⟩ a).setCell ⟨g,1,none⟩ b).setCell ⟨g,2,none⟩ c).setCell ⟨g,3,none⟩ d).setCell ⟨g,4,none⟩ e):=
 ⟨q10 h.1 (zbb i j) a b c d e,fun k l m=>by
  have f:k≠g:=by omega
  rw[zal _ ⟨g,4,none⟩ e k f,zal _ ⟨g,3,none⟩ d k f,zal _ ⟨g,2,none⟩ c k f,zal _ ⟨g,1,none⟩ b k f,zal _ ⟨g,0,none⟩ a k f]
  exact h.2 k l m⟩
def LmE (B:Nat) (u:Value) (w:World) (x:LabM) (s:qw) (e:Ending) (w':World):Prop:=
 BelO B u w w'/\((makM x s=none/\e=.returned (.tuple #[.agg #[.bool false,.int .i64 0,.slice none 0 0,.slice none 0 0,.int .i64 0],.bool false]))\/
  ∃y v u,makM x s=some y/\e=.returned (.tuple #[.agg #[.bool y.1,.int .i64 y.2.1.1,v,u,.int .i64 y.2.2.2],.bool (decide ((y.2.2.1.length:Int)<=12) &&decide (y.2.2.2<=9999))])/\LabD B w' y v u)
theorem qmb (B:Nat) (H:List Value) (x:LabM) (s:qw) (w:World) (D j:Option Addr) (J G l k:Nat) (Z:B<=w.heap.size) (I:qn.rd w H s) (a:x.1=true) (hr:0<=x.2.2.2/\x.2.2.2<=9999) (d:s.1=7):
  Calls Tryz.prog 28 #[.agg #[.bool x.1,.int .i64 x.2.1.1,.slice D J G,.slice j l k,.int .i64 x.2.2.2],.agg H.toArray] w (LmE B (.slice j l k) w x s):=by
 obtain⟨K,nL,Q,L,nR,R,N,nV,T,M,nS,S,rfl,-,-,-,-,-,-,-,-,-⟩:=q1f I;obtain⟨w0,i,F,h,m,E,c⟩:=q41 w #[.bool x.1,.int .i64 x.2.1.1,.slice D J G,.slice j l k,.int .i64 x.2.2.2] #[.int .i64 s.1,.string s.2.1,.int .i64 s.2.2.1.1,.slice K nL Q,.slice L nR R,.slice N nV T,.slice M nS S,.int .i64 s.2.2.2.2.1,.int .i64 s.2.2.2.2.2] #[.bool false,.int .i64 0,.slice none 0 0,.slice none 0 0,.int .i64 0] 27 59 27;have q:=zaa i;have e:=m.cell 0;have r:=m.cell 4;have f:=E.cell 0;have t:=c.cell 0;have y:=c.cell 1;have z:=c.cell 2;have A:=c.cell 3;have C:=c.cell 4;have U:=c.frozen 0;have V:=c.frozen 1;have W:=c.frozen 2;have X:=c.frozen 3;have Y:=c.frozen 4;simp at e r f t y z A C;rw[d]at f;rw[a]at e;have O:Hid (makM x s=some (false,(0, []), [],x.2.2.2)):=by
  show _=_
  unfold makM;rw[zaj (by rw[d];decide),zaj (by rw[d];decide),zaj (by rw[d];decide),zaj (by rw[d];decide)]
 have n:=zaa (q18 c (.bool false) (.int .i64 0) (.slice none 0 0) (.slice none 0 0) (.int .i64 x.2.2.2));have p:=zaa (BelO.of (u:=.slice j l k) (q10 F (g:=w.heap.size+1+1) (by omega) (.bool false) (.int .i64 0) (.slice none 0 0) (.slice none 0 0) (.int .i64 x.2.2.2)) Z);have o:Hid (decide (x.2.2.2<=9999)=true):=zbm hr.2;have HK:=zaa d;have P:=zaa a;clear i h I d a m E c F
 go_enter Tryz.func28,zf8
 go_upto_region 1 with fail;rw[<-q.out];go_wp2_with fail
 (try simp only[Exit.inBlock,Exit.then])
 refine zas (v:=.tuple #[.agg #[.bool false,.int .i64 0,.slice none 0 0,.slice none 0 0,.int .i64 x.2.2.2],.bool true]) ?hr rfl ?_
 case hr=>exact qp rfl _ _ (w.heap.size+1+1) 27 #[.bool false,.int .i64 0,.slice none 0 0,.slice none 0 0,.int .i64 x.2.2.2] (0,0) _ _ rfl n.out zbk rfl (by kernel_rfl) rfl
 exact⟨p.out,ze1 ⟨(false,(0, []), [],x.2.2.2),_,_,O.out,by show _=Ending.returned (.tuple #[_,.bool (decide ((0:Int)<=12) &&decide (x.2.2.2<=9999))]);rw[o.out];rfl,⟨[], [], [], [],PO.nil _ _,PG.nil _ _ _ _ _,fun b hb=>by simp[obl,Value.ownBlock]at hb⟩⟩⟩
def PutE (B:Nat) (w:World) (x:LabM) (v u:Value) (e:Ending) (w':World):Prop:=
 ∃u',e=.returned (.tuple #[.agg #[.bool x.1,.int .i64 x.2.1.1,v,u',.int .i64 x.2.2.2],.bool (decide ((x.2.2.1.length:Int)<=12))])/\LabD B w' x v u'/\Below B w w'/\∀k,k<w.heap.size->k∉obl u->w'.heap[k]?=w.heap[k]?
theorem qiu (x:LabM) (f:q12) (v:Value):(addF x f).1=x.1/\(addF x f).2.1=x.2.1/\(addF x f).2.2.2=x.2.2.2:=by
 unfold addF
 split<;>exact⟨rfl,rfl,rfl⟩
theorem qb7 (B:Nat) (wa w:World) (x:LabM) (v u:Value) (f:q12) (AL AR AV:Option Addr) (nL cL nR cR nV cV:Nat) (bk:List Nat) (hB:B<=wa.heap.size) (hD:LabD B wa x v u) (hba:Below wa.heap.size wa w) (ho:qj.own w [.int .i64 f.1,.slice AL nL cL,.slice AR nR cR,.slice AV nV cV] f bk) (hiv:Iv wa.heap.size w.heap.size bk) (hln:x.2.2.1.length<=1000):
  Calls Tryz.prog 60 #[.agg #[.bool x.1,.int .i64 x.2.1.1,v,u,.int .i64 x.2.2.2],.agg #[.int .i64 f.1,.slice AL nL cL,.slice AR nR cR,.slice AV nV cV]] w (PutE B w (addF x f) v u):=by
 obtain⟨css,bls,dss,cls,hPO,T,hap⟩:=hD;obtain⟨o,s,rfl⟩:=qq hPO.2.1;obtain⟨Q,R,rfl⟩:=qq T.2.1;have hza:=hba.size;obtain⟨w0,hw0,T0,hsz0,BP,BF1,BR⟩:=q41 w #[.bool x.1,.int .i64 x.2.1.1,.slice o x.2.1.2.length s,.slice Q x.2.2.1.length R,.int .i64 x.2.2.2] #[.int .i64 f.1,.slice AL nL cL,.slice AR nR cR,.slice AV nV cV] #[.bool false,.int .i64 0,.slice none 0 0,.slice none 0 0,.int .i64 0] 27 57 27;have HW0:=zaa hw0;have hs0:w0.heap.size=w.heap.size+3:=hsz0;have hb0:=q9 hba T0 rfl;have HRD:Hid (∀j,Below w0.heap.size w0 j->Calls Tryz.prog 59 #[.slice Q x.2.2.1.length R,.agg #[.int .i64 f.1,.slice AL nL cL,.slice AR nR cR,.slice AV nV cV]] j (Bl j (.int .i64 (posF x.2.2.1 f)))):=fun j P=>by
  obtain⟨A',c',e,hrd⟩:=((T.next hb0).next P).rd;injection e with e1 e2 e3
  exact q7c Q x.2.2.1.length R _ x.2.2.1 f j (by rw[e1];exact hrd) (qj.ord (Sh.onext (Sh.onext ho T0) P))
 obtain⟨p,HP⟩:∃p,Hid (posF x.2.2.1 f=p):=⟨_,zaa rfl⟩;rw[HP.out]at HRD;obtain⟨t,y,z,A,C⟩:=cl5 BP;obtain⟨cQ0,cQ1,cQ2,cQ3⟩:=cl4 BF1;have HPO:=zaa hPO;have HPG:=zaa T;have HAP:=zaa hap;have HT0:=zaa T0;have HB0:=zaa hb0;have HO:=zaa (Sh.onext ho T0);have HIV:Hid (Iv wa.heap.size w0.heap.size bk):=hiv.mono (zad _) (by omega);clear hw0 hsz0 hPO T hap ho hiv T0 hb0
 go_enter Tryz.func60,Tryz.ntmps60
 go_upto_region 1 with fail;rw[<-HW0.out];go_wp2_with fail;refine(HRD.out _ (zab _ _)).mono ?_;rintro e F ⟨rfl,m⟩;have L:=q9 HB0.out m rfl;have T1:=q9 HT0.out m rfl;have J:=HPO.out.next L;have l:=BP.next m;have i:=BR.next m;have hz1:=m.size;have zkk:=kk9 m t y z A C cQ0 cQ1 cQ2 cQ3;clear t y z A C cQ0 cQ1 cQ2 cQ3;obtain⟨t,y,z,A,C,cQ0,cQ1,cQ2,cQ3⟩:=zkk
 by_cases hp:p<0
 .have HAD:Hid (addF x f=(x.1,x.2.1,x.2.2.1++ [f],x.2.2.2)):=by
   show _=_
   unfold addF;rw[HP.out,zao hp]
  have S:B<=w.heap.size:=by omega
  have W:Hid (Iv wa.heap.size F.heap.size bk):=HIV.out.mono (zad _) hz1;obtain⟨U,HPU⟩:=HPG.out.push q4i rfl L hB (Sh.onext HO.out m) W.out;have hB1:B<=F.heap.size:=by omega
  have cO1:=l.cell 3;have fO1:=l.frozen 3;have X:=(l.alloc (.cells #[.int .i64 f.1,.slice AL nL cL,.slice AR nR cR,.slice AV nV cV] 57)).cell 3;simp at cO1 X
  go_wp2_with (at_builtin;refine appU F rfl _ _ 25 57 rfl (.agg #[.int .i64 0,.slice none 0 0,.slice none 0 0,.slice none 0 0]) 4 80 zbz q17 rfl (by decide) (by decide) B x.2.2.1.length R Q dss.flatten rfl U [.int .i64 f.1,.slice AL nL cL,.slice AR nR cR,.slice AV nV cV] rfl (by intro q hq;simp at hq;rcases hq with rfl|rfl|rfl|rfl<;>rfl) rfl (by omega) hB1 ?_;intro M N w8 n E hb8;have G:=l.grown E (fun e=>q1q U l (by decide) e.symm);have BR8:=i.grown E (fun e=>q1q U i (by decide) e.symm);have cO8:=G.cell 3;have fO8:=G.frozen 3;simp at cO8)
  obtain⟨V,r⟩:∃wb,Hid (wb=w8.setCell ⟨w.heap.size,3,none⟩ (.slice M (x.2.2.1.length+1) N)):=⟨_,zaa rfl⟩;rw[<-r.out];have H:Blk V w.heap.size 27 #[.bool x.1,.int .i64 x.2.1.1,.slice o x.2.1.2.length s,.slice M (x.2.2.1.length+1) N,.int .i64 x.2.2.2]:=by rw[r.out];simpa using G.set_ 3 (.slice M (x.2.2.1.length+1) N)
  have h:Blk V (w.heap.size+1+1) 27 #[.bool false,.int .i64 0,.slice none 0 0,.slice none 0 0,.int .i64 0]:=by rw[r.out];exact BR8.far (p:=⟨w.heap.size,3,none⟩) (by show _≠w.heap.size;omega) _
  have PN8:=HPU n E;have K:PO B w8 (.slice o x.2.1.2.length s) x.2.1.2 css bls:=J.same E.size fun b D=>E.block b (J.2.2.2 b D).2 fun e=>HAP.out b D (zba _ (q1h.2 e.symm))
  have APN:∀b∈obl (.slice o x.2.1.2.length s)++bls.flatten,b∉obl (.slice M (x.2.2.1.length+1) N)++(cls++ [bk]).flatten:=fun b D O=>by
   rcases zat.1 O with O|O
   .exact q5p K n b D O
   .rw[zbv,zat]at O
    rcases O with O|O
    .exact HAP.out b D (zay _ O)
    .have h1:=(W.out.2 b (by simpa using O)).1
     have h2:=(HPO.out.2.2.2 b D).2;omega
  have Y:LabD B w8 (x.1,x.2.1,x.2.2.1++ [f],x.2.2.2) (.slice o x.2.1.2.length s) (.slice M (x.2.2.1.length+1) N):=⟨css,bls,_,_,K,PN8,APN⟩;have Z:LabD B V (x.1,x.2.1,x.2.2.1++ [f],x.2.2.2) (.slice o x.2.1.2.length s) (.slice M (x.2.2.1.length+1) N):=by rw[r.out];exact Y.setB G _
  have T9:Below B w V:=by rw[r.out];exact((T1.mono S).trans hb8).setCell (p:=⟨w.heap.size,3,none⟩) S _
  have HLD:Hid (∀a b c d e,LabD B (((((V.setCell ⟨w.heap.size+1+1,0,none⟩ a).setCell ⟨w.heap.size+1+1,1,none⟩ b).setCell ⟨w.heap.size+1+1,2,none⟩ c).setCell ⟨w.heap.size+1+1,3,none⟩ d).setCell ⟨w.heap.size+1+1,4,none⟩ e) (x.1,x.2.1,x.2.2.1++ [f],x.2.2.2) (.slice o x.2.1.2.length s) (.slice M (x.2.2.1.length+1) N)):=fun a b c d e=>
   ((((Z.setB h a).setB (h.set_ 0 a) b).setB ((h.set_ 0 a).set_ 1 b) c).setB (((h.set_ 0 a).set_ 1 b).set_ 2 c) d).setB ((((h.set_ 0 a).set_ 1 b).set_ 2 c).set_ 3 d) e
  have HBX:Hid (∀a b c d e,Blk (((((V.setCell ⟨w.heap.size+1+1,0,none⟩ a).setCell ⟨w.heap.size+1+1,1,none⟩ b).setCell ⟨w.heap.size+1+1,2,none⟩ c).setCell ⟨w.heap.size+1+1,3,none⟩ d).setCell ⟨w.heap.size+1+1,4,none⟩ e) (w.heap.size+1+1) 27 #[a,b,c,d,e]):=fun a b c d e=>q18 h a b c d e
  have HTX:Hid (∀a b c d e,Below B w (((((V.setCell ⟨w.heap.size+1+1,0,none⟩ a).setCell ⟨w.heap.size+1+1,1,none⟩ b).setCell ⟨w.heap.size+1+1,2,none⟩ c).setCell ⟨w.heap.size+1+1,3,none⟩ d).setCell ⟨w.heap.size+1+1,4,none⟩ e)):=fun a b c d e=>q10 T9 (by omega) a b c d e
  have HSM:Hid (∀a b c d e k,k<w.heap.size->k∉obl (.slice Q x.2.2.1.length R)->(World.drew (((((V.setCell ⟨w.heap.size+1+1,0,none⟩ a).setCell ⟨w.heap.size+1+1,1,none⟩ b).setCell ⟨w.heap.size+1+1,2,none⟩ c).setCell ⟨w.heap.size+1+1,3,none⟩ d).setCell ⟨w.heap.size+1+1,4,none⟩ e)).heap[k]?=w.heap[k]?):=fun a b c d e k hk hn=>by
   have q1:Below w.heap.size w8 V:=by rw[r.out];exact(zab w.heap.size w8).setCell (p:=⟨w.heap.size,3,none⟩) (zad _) _
   have q2:=(zai (q10 q1 (g:=w.heap.size+1+1) (by omega) a b c d e)).block k hk;rw[q2,E.block k (by omega) (fun e=>hn (q1h.2 e.symm))];exact T1.block k hk
  have hlen:((x.2.2.1++ [f]).length:Int)=(x.2.2.1.length:Int)+1:=by simp
  have HLN:=zaa hlen;clear cO1 fO1 X cO8 fO8 t y z A C hlen;have t:=H.cell 0;have y:=H.cell 1;have z:=H.cell 2;have A:=H.cell 3;have C:=H.cell 4;have fR0:=h.frozen 0;have fR1:=h.frozen 1;have fR2:=h.frozen 2;have fR3:=h.frozen 3;have fR4:=h.frozen 4;have cR0:=h.cell 0;have cR1:=h.cell 1;have cR2:=h.cell 2;have cR3:=h.cell 3;have cR4:=h.cell 4;simp at t y z A C cR0 cR1 cR2 cR3 cR4;clear J l i G BR8 PN8 K APN Y Z n U HPU
  go_region
  all_goals
   go_wp2_with fail
   (try simp only[Exit.inBlock,Exit.then])
   refine zas (v:=.tuple #[.agg #[.bool x.1,.int .i64 x.2.1.1,.slice o x.2.1.2.length s,.slice M (x.2.2.1.length+1) N,.int .i64 x.2.2.2],.bool (decide ((x.2.2.1.length:Int)+1<=12))]) ?hr rfl ?_
   case hr=>exact qp rfl _ _ (w.heap.size+1+1) 27 #[.bool x.1,.int .i64 x.2.1.1,.slice o x.2.1.2.length s,.slice M (x.2.2.1.length+1) N,.int .i64 x.2.2.2] (0,0) _ _ rfl ((HBX.out _ _ _ _ _).next (zai (zab _ _))) zbk rfl (by kernel_rfl) rfl
   rw[HAD.out];exact⟨.slice M (x.2.2.1.length+1) N,by show _=Ending.returned (.tuple #[_,.bool (decide (((x.2.2.1++ [f]).length:Int)<=12))]);rw[HLN.out],(HLD.out _ _ _ _ _).next (zai (zab _ _)),zai (HTX.out _ _ _ _ _),fun k hk hn=>HSM.out _ _ _ _ _ k hk hn⟩
 .have HAD:Hid (addF x f=x):=by
   show _=_
   unfold addF;rw[HP.out,zaj hp]
  have S:B<=w.heap.size:=by omega
  have HLD:Hid (∀j,Below F.heap.size F j->∀a b c d e,LabD B (((((j.setCell ⟨w.heap.size+1+1,0,none⟩ a).setCell ⟨w.heap.size+1+1,1,none⟩ b).setCell ⟨w.heap.size+1+1,2,none⟩ c).setCell ⟨w.heap.size+1+1,3,none⟩ d).setCell ⟨w.heap.size+1+1,4,none⟩ e) x (.slice o x.2.1.2.length s) (.slice Q x.2.2.1.length R)):=fun j P a b c d e=>by
   have I:=i.next P;have h0:LabD B j x (.slice o x.2.1.2.length s) (.slice Q x.2.2.1.length R):=⟨css,bls,dss,cls,J.next P,(HPG.out.next L).next P,HAP.out⟩;exact((((h0.setB I a).setB (I.set_ 0 a) b).setB ((I.set_ 0 a).set_ 1 b) c).setB (((I.set_ 0 a).set_ 1 b).set_ 2 c) d).setB ((((I.set_ 0 a).set_ 1 b).set_ 2 c).set_ 3 d) e
  have HSM:Hid (∀a b c d e k,k<w.heap.size->(World.drew (((((F.setCell ⟨w.heap.size+1+1,0,none⟩ a).setCell ⟨w.heap.size+1+1,1,none⟩ b).setCell ⟨w.heap.size+1+1,2,none⟩ c).setCell ⟨w.heap.size+1+1,3,none⟩ d).setCell ⟨w.heap.size+1+1,4,none⟩ e)).heap[k]?=w.heap[k]?):=fun a b c d e k hk=>(zai (q10 T1 (g:=w.heap.size+1+1) (by omega) a b c d e)).block k hk
  have HBX:Hid (∀j,Below F.heap.size F j->∀a b c d e,Blk (((((j.setCell ⟨w.heap.size+1+1,0,none⟩ a).setCell ⟨w.heap.size+1+1,1,none⟩ b).setCell ⟨w.heap.size+1+1,2,none⟩ c).setCell ⟨w.heap.size+1+1,3,none⟩ d).setCell ⟨w.heap.size+1+1,4,none⟩ e) (w.heap.size+1+1) 27 #[a,b,c,d,e]):=fun j P a b c d e=>q18 (i.next P) a b c d e
  have HTX:Hid (∀j,Below F.heap.size F j->∀a b c d e,Below B w (((((j.setCell ⟨w.heap.size+1+1,0,none⟩ a).setCell ⟨w.heap.size+1+1,1,none⟩ b).setCell ⟨w.heap.size+1+1,2,none⟩ c).setCell ⟨w.heap.size+1+1,3,none⟩ d).setCell ⟨w.heap.size+1+1,4,none⟩ e)):=fun j P a b c d e=>q10 ((q9 T1 P rfl).mono S) (by omega) a b c d e
  have fR0:=i.frozen 0;have fR1:=i.frozen 1;have fR2:=i.frozen 2;have fR3:=i.frozen 3;have fR4:=i.frozen 4;obtain⟨cR0,cR1,cR2,cR3,cR4⟩:=cl5 i;clear J l;go_upto_region 3 with fail
  go_region
  all_goals
   go_wp2_with fail
   (try simp only[Exit.inBlock,Exit.then])
   refine zas (v:=.tuple #[.agg #[.bool x.1,.int .i64 x.2.1.1,.slice o x.2.1.2.length s,.slice Q x.2.2.1.length R,.int .i64 x.2.2.2],(.bool (decide ((x.2.2.1.length:Int)<=12)):Value)]) ?hr rfl ?_
   case hr=>exact qp rfl _ _ (w.heap.size+1+1) 27 #[.bool x.1,.int .i64 x.2.1.1,.slice o x.2.1.2.length s,.slice Q x.2.2.1.length R,.int .i64 x.2.2.2] (0,0) _ _ rfl ((HBX.out F (zab _ _) _ _ _ _ _).next (zai (zab _ _))) zbk rfl (by kernel_rfl) rfl
   rw[HAD.out];exact⟨_,rfl,(HLD.out F (zab _ _) _ _ _ _ _).next (zai (zab _ _)),zai (HTX.out F (zab _ _) _ _ _ _ _),fun k hk _=>HSM.out _ _ _ _ _ k hk⟩
theorem q9w (k:Int) (G:Option Addr) (g cL:Nat) (H:Option Addr) (i cR:Nat) (I:Option Addr) (j cV:Nat) (L R V:List Int) (w:World) (hL:RdL RI w G g L) (hR:RdL RI w H i R) (hV:RdL RI w I j V) (h1:g<=1048576) (h2:i<=1048576) (h3:j<=1048576):
  Calls Tryz.prog 61 #[.agg #[.int .i64 k,.slice G g cL,.slice H i cR,.slice I j cV]] w (CfE w (k,(L,R),V)):=by
 obtain rfl:L.length=g:=hL.len;obtain rfl:R.length=i:=hR.len;obtain rfl:V.length=j:=hV.len;obtain⟨g,J⟩:∃n,Hid (L.length=n):=⟨_,rfl⟩;obtain⟨i,K⟩:∃n,Hid (R.length=n):=⟨_,rfl⟩;obtain⟨j,HNV⟩:∃n,Hid (V.length=n):=⟨_,rfl⟩;unfold CfE;simp only;rw[J.out]at hL h1⊢;rw[K.out]at hR h2⊢;rw[HNV.out]at hV h3⊢;obtain⟨m,X,Z,W,BP,t⟩:=q1p w #[.int .i64 k,.slice G g cL,.slice H i cR,.slice I j cV] #[.int .i64 0,.slice none 0 0,.slice none 0 0,.slice none 0 0] 57 57;have HW0:=zaa X;have HC1:Hid (∀l,Below m.heap.size m l->Calls Tryz.prog 109 #[.agg #[.slice G g cL,.slice H i cR]] l fun e w'=>∃r u s x,e=.returned (.agg #[.slice r g u,.slice s i x])/\w'.ownsRow l.heap.size 3 1 (.slice r g u) g (ints L)/\w'.ownsRow l.heap.size 3 1 (.slice s i x) i (ints R)/\Apart (.slice r g u) (.slice s i x)/\Below l.heap.size l w'):=fun l hz=>by
  have:=qdq G g cL H i cR L R l ((hL.next qd Z).next qd hz) ((hR.next qd Z).next qd hz) h1 h2;unfold CeE at this;rw[J.out,K.out]at this;exact this
 have HC2:Hid (∀l,Below m.heap.size m l->Calls Tryz.prog 110 #[.slice I j cV] l fun e w'=>∃A' c',e=.returned (.slice A' j c')/\w'.ownsRow l.heap.size 3 1 (.slice A' j c') j (ints V)/\Below l.heap.size l w'):=fun l hz=>q2h I j cV V l ((hV.next qd Z).next qd hz) h3
 obtain⟨M,N,O,P⟩:=cl4 BP;obtain⟨Q,S,T,U⟩:=cl4 t;have hne:w.heap.size+1≠w.heap.size:=by omega
 have a:Below m.heap.size m m:=zab _ _;have B:w.heap.size+1<m.heap.size:=by omega
 have y:=zaa Z;clear X W hL hR hV
 go_enter Tryz.func61,Tryz.ntmps61
 go_upto_region 1 with fail;rw[<-HW0.out]
 first|(go_region_law (first|(go_simp;go_at_call 109;(with_reducible refine(HC1.out _ ?_).mono ?_);(first|exact a|exact zai a|exact qc (zab _ _) _|exact qc a _);rintro e wn ⟨r,u,s,x,rfl,d,f,C,c⟩;(try (have o:=(qx b d (by first|exact zad _|(simp;omega))).symm));(try (have q:=(qx b f (by first|exact zad _|(simp;omega))).symm));(try replace b:=ql b (by first|exact c|exact(qc (zab _ _) _).trans c));replace d:=qh (base':=m.heap.size) d (by exact a.size);replace f:=qh (base':=m.heap.size) f (by exact a.size);replace a:=q9 (by first|exact a|exact zai a|exact qc (zab _ _) _|exact qc a _) c rfl;have xP0:=qe a M;have xP1:=qe a N;have xP2:=qe a O;have xP3:=qe a P;have xR0:=qe a Q;have xR1:=qe a S;have xR2:=qe a T;have xR3:=qe a U;have fR0:=(t.next a).frozen 0;have fR1:=(t.next a).frozen 1;have fR2:=(t.next a).frozen 2;have fR3:=(t.next a).frozen 3)|(go_simp;go_at_call 110;(with_reducible refine(HC2.out _ ?_).mono ?_);(first|exact a|exact zai a|exact qc (zab _ _) _|exact qc a _);rintro e wn ⟨E,F,rfl,b,c⟩;(try (have o:=qx d b (by first|exact zad _|(simp;omega))));(try (have q:=qx f b (by first|exact zad _|(simp;omega))));(try replace d:=ql d (by first|exact c|exact(qc (zab _ _) _).trans c));(try replace f:=ql f (by first|exact c|exact(qc (zab _ _) _).trans c));replace b:=qh (base':=m.heap.size) b (by exact a.size);replace a:=q9 (by first|exact a|exact zai a|exact qc (zab _ _) _|exact qc a _) c rfl;have xP0:=qe a M;have xP1:=qe a N;have xP2:=qe a O;have xP3:=qe a P;have xR0:=qe a Q;have xR1:=qe a S;have xR2:=qe a T;have xR3:=qe a U;have fR0:=(t.next a).frozen 0;have fR1:=(t.next a).frozen 1;have fR2:=(t.next a).frozen 2;have fR3:=(t.next a).frozen 3)))|fail
 all_goals
  have BR:=t.next a;obtain⟨Y,z⟩:∃Y,Hid (Y=(((wn.setCell ⟨w.heap.size+1,0,none⟩ (.int .i64 k)).setCell ⟨w.heap.size+1,1,none⟩ (.slice r g u)).setCell ⟨w.heap.size+1,2,none⟩ (.slice s i x)).setCell ⟨w.heap.size+1,3,none⟩ (.slice E j F)):=⟨_,rfl⟩;have BRR:Blk Y (w.heap.size+1) 57 #[.int .i64 k,.slice r g u,.slice s i x,.slice E j F]:=by rw[z.out];simpa using(((BR.set_ 0 (.int .i64 k)).set_ 1 (.slice r g u)).set_ 2 (.slice s i x)).set_ 3 (.slice E j F)
  have A:∀ {v:Value} {n:Nat} {xs:List Value},wn.ownsRow m.heap.size 3 1 v n xs->Y.ownsRow m.heap.size 3 1 v n xs:=fun h=>by
   rw[z.out];exact qy (qy (qy (qy h (by exact B)) (by exact B)) (by exact B)) (by exact B)
  have HO1:=zaa (A d);have HO2:=zaa (A f);have HO3:=zaa (A b);have HTT:Hid (Below w.heap.size w Y):=by
   show Below _ _ _
   rw[z.out];exact((((q9 y.out a rfl).setCell (p:=⟨w.heap.size+1,0,none⟩) (show w.heap.size<=w.heap.size+1 by omega) _).setCell (p:=⟨w.heap.size+1,1,none⟩) (show w.heap.size<=w.heap.size+1 by omega) _).setCell (p:=⟨w.heap.size+1,2,none⟩) (show w.heap.size<=w.heap.size+1 by omega) _).setCell (p:=⟨w.heap.size+1,3,none⟩) (show w.heap.size<=w.heap.size+1 by omega) _
  have D:=zaa (zap C (zap o q));clear d f b BR C o q A;go_wp2_with fail;rw[<-z.out]
  (try simp only[Exit.inBlock,Exit.then])
  refine zas (v:=.agg #[.int .i64 k,.slice r g u,.slice s i x,.slice E j F]) (zb3 rfl _ _ (w.heap.size+1) 57 #[.int .i64 k,.slice r g u,.slice s i x,.slice E j F] (0,0) _ (by simp) BRR zcr rfl (by kernel_rfl)) rfl ?_;exact⟨r,u,s,x,E,F,rfl,qh HO1.out y.out.size,qh HO2.out y.out.size,qh HO3.out y.out.size,D.out.1,D.out.2.1,D.out.2.2,HTT.out⟩
theorem qm8 (B:Nat) (ds:List Value) (x:LabM) (s:qw) (w:World) (v u:Value) (hB:B<=w.heap.size) (hD:LabD B w x v u) (h':qn.rd w ds s) (N:x.1=true) (hx:AlgP x.2.1) (hln:x.2.2.1.length<=12) (hr:0<=x.2.2.2/\x.2.2.2<=9999) (hcs:qj.cnt s.2.2.1<=1048576) (hk:s.1=2):
  Calls Tryz.prog 28 #[.agg #[.bool x.1,.int .i64 x.2.1.1,v,u,.int .i64 x.2.2.2],.agg ds.toArray] w (LmE B u w x s):=by
 obtain⟨AL,nL,cL,AR,nR,cR,AV,nV,cV,AS,nS,cS,rfl,-,-,pF,pL,pR,pV,-,-,-⟩:=q1f h';obtain⟨css,bls,dss,cls,hPO,hPG,hap⟩:=hD;obtain⟨j,k,rfl⟩:=qq hPO.2.1;obtain⟨n,o,rfl⟩:=qq hPG.2.1;obtain⟨w0,hw0,T0,hsz0,BP,BQ,BZ⟩:=q41 w #[.bool x.1,.int .i64 x.2.1.1,.slice j x.2.1.2.length k,.slice n x.2.2.1.length o,.int .i64 x.2.2.2] #[.int .i64 s.1,.string s.2.1,.int .i64 s.2.2.1.1,.slice AL nL cL,.slice AR nR cR,.slice AV nV cV,.slice AS nS cS,.int .i64 s.2.2.2.2.1,.int .i64 s.2.2.2.2.2] #[.bool false,.int .i64 0,.slice none 0 0,.slice none 0 0,.int .i64 0] 27 59 27;have HW0:=zaa hw0;have hs0:w0.heap.size=w.heap.size+3:=hsz0;have HQL:=zaa (pL.next qd T0);have HQR:=zaa (pR.next qd T0);have HQV:=zaa (pV.next qd T0);have hcf:0+((s.2.2.1.2.1.1.length+s.2.2.1.2.1.2.length)+s.2.2.1.2.2.length)<=1048576:=hcs;have HCF:Hid (∀i,Below w0.heap.size w0 i->Calls Tryz.prog 61 #[.agg #[.int .i64 s.2.2.1.1,.slice AL nL cL,.slice AR nR cR,.slice AV nV cV]] i (CfE i s.2.2.1)):=fun i G=>
  q9w s.2.2.1.1 AL nL cL AR nR cR AV nV cV s.2.2.1.2.1.1 s.2.2.1.2.1.2 s.2.2.1.2.2 i (HQL.out.next qd G) (HQR.out.next qd G) (HQV.out.next qd G) (by rw[<-pL.len];omega) (by rw[<-pR.len];omega) (by rw[<-pV.len];omega)
 have HFR:Hid (∀i,Below w0.heap.size w0 i->qj.rd i [.int .i64 s.2.2.1.1,.slice AL nL cL,.slice AR nR cR,.slice AV nV cV] s.2.2.1):=fun i G=>q6b pF (HQL.out.next qd G) (HQR.out.next qd G) (HQV.out.next qd G)
 have HBD:Hid ((∀v∈s.2.2.1.2.1.1,InR v)/\(∀v∈s.2.2.1.2.1.2,InR v)/\(∀v∈s.2.2.1.2.2,InR v)):=⟨pL.bounds,pR.bounds,pV.bounds⟩;have HQK:Hid (InR s.2.2.1.1):=pF;have hin:InR x.2.1.1:=⟨by have:=hx.1;omega,by have:=hx.2.1;omega⟩;obtain⟨tb,HTBV⟩:∃b,Hid (q1l x.2.1 s.2.2.1=b):=⟨_,zaa rfl⟩;obtain⟨p,HP⟩:∃p,Hid (posF x.2.2.1 s.2.2.1=p):=⟨_,zaa rfl⟩;have ad:=hPO.next T0;have ac:=hPG.next T0;have HI:Hid (∀i,Below w0.heap.size w0 i->Calls Tryz.prog 58 #[.agg #[.int .i64 x.2.1.1,.slice j x.2.1.2.length k],.agg #[.int .i64 s.2.2.1.1,.slice AL nL cL,.slice AR nR cR,.slice AV nV cV]] i (Bl i (.bool tb))):=fun i G=>by
  have:=q9y [.int .i64 x.2.1.1,.slice j x.2.1.2.length k] _ x.2.1 s.2.2.1 i (qf.ord ((ad.next G).algO hin)) (HFR.out i G) hx
  rwa [HTBV.out]at this
 have HX:Hid (∀i,Below w0.heap.size w0 i->Calls Tryz.prog 59 #[.slice n x.2.2.1.length o,.agg #[.int .i64 s.2.2.1.1,.slice AL nL cL,.slice AR nR cR,.slice AV nV cV]] i (Bl i (.int .i64 p))):=fun i G=>by
  obtain⟨A',c',e,hrd⟩:=(ac.next G).rd;injection e with e1 e2 e3
  have:=q7c n x.2.2.1.length o _ x.2.2.1 s.2.2.1 i (by rw[e1];exact hrd) (HFR.out i G)
  rwa [HP.out]at this
 have HNG:Hid (w.heap.size+1+1∉obl (.slice n x.2.2.1.length o)):=fun h=>by have:=(hPG.2.2.2 _ (zba _ h)).2;omega
 have HM:Hid (makM x s=some (if tb=true/\p<0 then(x.1,x.2.1,x.2.2.1++ [s.2.2.1],x.2.2.2)else(x.1,x.2.1,x.2.2.1,x.2.2.2+1))):=by
  show _=_
  unfold makM;rw[zao hk,HTBV.out,HP.out]
 have HLD:Hid (LabD B w0 x (.slice j x.2.1.2.length k) (.slice n x.2.2.1.length o)):=⟨css,bls,dss,cls,ad,ac,hap⟩;have HAD:Hid (p<0->addF x s.2.2.1=(x.1,x.2.1,x.2.2.1++ [s.2.2.1],x.2.2.2)):=fun hp=>by unfold addF;rw[HP.out,zao hp]
 have cP0:=BP.cell 0;have C:=BP.cell 1;have D:=BP.cell 2;have E:=BP.cell 3;have y:=BP.cell 4;have cQ0:=BQ.cell 0;have I:=BQ.cell 2;have J:=BQ.cell 3;have K:=BQ.cell 4;have L:=BQ.cell 5;simp at cP0 C D E y cQ0 I J K L;rw[hk]at cQ0;have l:=cP0;rw[N]at l;have HOP:=zaa N;have HT0:=zaa T0;clear hw0 hsz0 h' hk hPO hPG ad ac hap T0 pF pL pR pV hcf hcs cP0 N
 go_enter Tryz.func28,zf8
 go_upto_region 1 with fail;rw[<-HW0.out];go_wp2_with fail;refine(HI.out _ (zab _ _)).mono ?_;rintro e w1 ⟨rfl,F⟩;have zkk:=kk9 F l C D E y I J K L;clear l C D E y I J K L;obtain⟨l,C,D,E,y,I,J,K,L⟩:=zkk;have T1:=q9 HT0.out F rfl;obtain⟨qb,HQB⟩:∃q,Hid ((tb &&decide (p<0))=q):=⟨_,zaa rfl⟩;have hcase:(tb=false)\/(tb=true/\p<0)\/(tb=true/\¬p<0):=by
  rcases tb with _|_
  .exact Or.inl rfl
  .by_cases hp:p<0
   .exact ze1 (Or.inl ⟨rfl,hp⟩)
   .exact ze1 (ze1 ⟨rfl,hp⟩)
 rcases hcase with rfl|⟨rfl,hp⟩|⟨rfl,hp⟩
 .have HNO:Hid (¬(false=true/\p<0)):=fun h=>by cases h.1
  have S:Hid (makM x s=some (x.1,x.2.1,x.2.2.1,x.2.2.2+1)):=HM.out.trans (by rw[zaj HNO.out]);have hw64:IntKind.i64.wrap (x.2.2.2+1)=x.2.2.2+1:=zcg _ (by omega);have A:=BP.next F;have P:=BZ.next F;have fP4:=A.frozen 4;obtain⟨O,t⟩:∃wb,Hid (wb=w1.setCell ⟨w.heap.size,4,none⟩ (.int .i64 (x.2.2.2+1))):=⟨_,zaa rfl⟩;have r:Blk O w.heap.size 27 #[.bool x.1,.int .i64 x.2.1.1,.slice j x.2.1.2.length k,.slice n x.2.2.1.length o,.int .i64 (x.2.2.2+1)]:=by rw[t.out];simpa using A.set_ 4 (.int .i64 (x.2.2.2+1))
  have f:Blk O (w.heap.size+1+1) 27 #[.bool false,.int .i64 0,.slice none 0 0,.slice none 0 0,.int .i64 0]:=by rw[t.out];exact P.far (p:=⟨w.heap.size,4,none⟩) (by show _≠w.heap.size;omega) _
  have ab:LabD B w1 (x.1,x.2.1,x.2.2.1,x.2.2.2+1) (.slice j x.2.1.2.length k) (.slice n x.2.2.1.length o):=HLD.out.next F;have aa:LabD B O (x.1,x.2.1,x.2.2.1,x.2.2.2+1) (.slice j x.2.1.2.length k) (.slice n x.2.2.1.length o):=by rw[t.out];exact ab.setB A _
  have T9:Below w.heap.size w O:=by rw[t.out];exact T1.setCell (p:=⟨w.heap.size,4,none⟩) (zad _) _
  have R:Hid (∀a b c d e,LabD B (((((O.setCell ⟨w.heap.size+1+1,0,none⟩ a).setCell ⟨w.heap.size+1+1,1,none⟩ b).setCell ⟨w.heap.size+1+1,2,none⟩ c).setCell ⟨w.heap.size+1+1,3,none⟩ d).setCell ⟨w.heap.size+1+1,4,none⟩ e) (x.1,x.2.1,x.2.2.1,x.2.2.2+1) (.slice j x.2.1.2.length k) (.slice n x.2.2.1.length o)):=fun a b c d e=>
   ((((aa.setB f a).setB (f.set_ 0 a) b).setB ((f.set_ 0 a).set_ 1 b) c).setB (((f.set_ 0 a).set_ 1 b).set_ 2 c) d).setB ((((f.set_ 0 a).set_ 1 b).set_ 2 c).set_ 3 d) e
  have Q:Hid (∀a b c d e,Blk (((((O.setCell ⟨w.heap.size+1+1,0,none⟩ a).setCell ⟨w.heap.size+1+1,1,none⟩ b).setCell ⟨w.heap.size+1+1,2,none⟩ c).setCell ⟨w.heap.size+1+1,3,none⟩ d).setCell ⟨w.heap.size+1+1,4,none⟩ e) (w.heap.size+1+1) 27 #[a,b,c,d,e]):=fun a b c d e=>q18 f a b c d e
  have U:Hid (∀a b c d e,Below w.heap.size w (((((O.setCell ⟨w.heap.size+1+1,0,none⟩ a).setCell ⟨w.heap.size+1+1,1,none⟩ b).setCell ⟨w.heap.size+1+1,2,none⟩ c).setCell ⟨w.heap.size+1+1,3,none⟩ d).setCell ⟨w.heap.size+1+1,4,none⟩ e)):=fun a b c d e=>q10 T9 (by omega) a b c d e
  have dP0:=r.cell 0;have dP1:=r.cell 1;have dP2:=r.cell 2;have dP3:=r.cell 3;have dP4:=r.cell 4;have fR0:=f.frozen 0;have fR1:=f.frozen 1;have fR2:=f.frozen 2;have fR3:=f.frozen 3;have fR4:=f.frozen 4;have V:=f.cell 0;have W:=f.cell 1;have X:=f.cell 2;have Y:=f.cell 3;have Z:=f.cell 4;simp at dP0 dP1 dP2 dP3 dP4 V W X Y Z;have T:Hid ((decide ((x.2.2.1.length:Int)<=12) &&decide (x.2.2.2+1<=9999))=decide (x.2.2.2+1<=9999)):=by show _=_;rw[zbm (by omega:(x.2.2.1.length:Int)<=12),zdt]
  clear A P ab aa;go_upto_region 15 with fail;rw[<-t.out]
  go_region
  all_goals
   go_wp2_with fail
   (try simp only[Exit.inBlock,Exit.then])
   refine zas (v:=.tuple #[.agg #[.bool x.1,.int .i64 x.2.1.1,.slice j x.2.1.2.length k,.slice n x.2.2.1.length o,.int .i64 (x.2.2.2+1)],.bool (decide (x.2.2.2+1<=9999))]) ?hr rfl ?_
   case hr=>exact qp rfl _ _ (w.heap.size+1+1) 27 #[.bool x.1,.int .i64 x.2.1.1,.slice j x.2.1.2.length k,.slice n x.2.2.1.length o,.int .i64 (x.2.2.2+1)] (0,0) _ _ rfl ((Q.out _ _ _ _ _).next (zai (zab _ _))) zbk rfl (by kernel_rfl) rfl
   exact⟨BelO.of (zai (U.out _ _ _ _ _)) hB,ze1 ⟨(x.1,x.2.1,x.2.2.1,x.2.2.2+1),.slice j x.2.1.2.length k,.slice n x.2.2.1.length o,S.out,by show _=Ending.returned (.tuple #[_,.bool (decide ((x.2.2.1.length:Int)<=12) &&decide (x.2.2.2+1<=9999))]);rw[T.out],(R.out _ _ _ _ _).next (zai (zab _ _))⟩⟩
 .go_wp2_with fail
  refine(HX.out _ F).mono ?_;rintro e H ⟨rfl,M⟩;have S:Hid (makM x s=some (true,x.2.1,x.2.2.1++ [s.2.2.1],x.2.2.2)):=HM.out.trans (by rw[zao (by simp[hp]),HOP.out]);have m:=q9 F M rfl;have T2:=q9 T1 M rfl;have zkk:=kk9 M l C D E y I J K L;clear l C D E y I J K L;obtain⟨l,C,D,E,y,I,J,K,L⟩:=zkk;have HLD2:Hid (LabD B H x (.slice j x.2.1.2.length k) (.slice n x.2.2.1.length o)):=HLD.out.next m;have BZ2:=BZ.next m;have hz12:=m.size;have HC2:Hid (∀i,Below H.heap.size H i->Calls Tryz.prog 61 #[.agg #[.int .i64 s.2.2.1.1,.slice AL nL cL,.slice AR nR cR,.slice AV nV cV]] i (CfE i s.2.2.1)):=fun i G=>HCF.out i (q9 m G rfl)
  have hBw2:B<=H.heap.size:=by omega
  have HPUT:Hid (∀(w6:World) (B1:Option Addr) (d1:Nat) (B2:Option Addr) (d2:Nat) (B3:Option Addr) (d3:Nat) (bk:List Nat),Below H.heap.size H w6->qj.own w6 [.int .i64 s.2.2.1.1,.slice B1 s.2.2.1.2.1.1.length d1,.slice B2 s.2.2.1.2.1.2.length d2,.slice B3 s.2.2.1.2.2.length d3] s.2.2.1 bk->Iv H.heap.size w6.heap.size bk->
    Calls Tryz.prog 60 #[.agg #[.bool true,.int .i64 x.2.1.1,.slice j x.2.1.2.length k,.slice n x.2.2.1.length o,.int .i64 x.2.2.2],.agg #[.int .i64 s.2.2.1.1,.slice B1 s.2.2.1.2.1.1.length d1,.slice B2 s.2.2.1.2.1.2.length d2,.slice B3 s.2.2.1.2.2.length d3]] w6 (PutE B w6 (true,x.2.1,x.2.2.1++ [s.2.2.1],x.2.2.2) (.slice j x.2.1.2.length k) (.slice n x.2.2.1.length o))):=fun w6 B1 d1 B2 d2 B3 d3 bk G ho hiv=>by
   have:=qb7 B H w6 x (.slice j x.2.1.2.length k) (.slice n x.2.2.1.length o) s.2.2.1 B1 B2 B3 _ d1 _ d2 _ d3 bk hBw2 HLD2.out G ho hiv (by omega);rw[HAD.out hp,HOP.out]at this;exact this
  have Tk:Below H.heap.size H H:=zab _ _;go_upto_region 13 with fail
  first|(go_region_law (first
   |(go_simp;go_at_call 61;(with_reducible refine(HC2.out _ ?_).mono ?_);(first|exact Tk|exact zai Tk);rintro e w6 hcf;obtain⟨B1,d1,B2,d2,B3,d3,bk,rfl,hO6,hiv6,hbn⟩:=qb2 hcf HQK.out HBD.out.1 HBD.out.2.1 HBD.out.2.2;have z:=q9 (zai (zab H.heap.size H)) hbn rfl;have hiv6':Iv H.heap.size w6.heap.size bk:=hiv6;have ycP0:=qe z l;have ycP1:=qe z C;have ycP2:=qe z D;have ycP3:=qe z E;have ycP4:=qe z y)
   |(go_simp;go_at_call 60;refine(HPUT.out _ _ _ _ _ _ _ _ z hO6 hiv6').mono ?_;rintro e w7 ⟨u7,rfl,hLD7,hB7,hS7⟩;obtain⟨A7,c7,A8,c8,-,rfl,-⟩:=hLD7.w.slices;have g:Blk w7 (w.heap.size+1+1) 27 #[.bool false,.int .i64 0,.slice none 0 0,.slice none 0 0,.int .i64 0]:=(hS7 _ (by have:=z.size;omega) HNG.out).trans (BZ2.next z);have V:=g.cell 0;have fR0:=g.frozen 0;have W:=g.cell 1;have fR1:=g.frozen 1;have X:=g.cell 2;have fR2:=g.frozen 2;have Y:=g.cell 3;have fR3:=g.frozen 3;have Z:=g.cell 4;have fR4:=g.frozen 4;simp at V W X Y Z)))|fail
  all_goals
   have hle:(x.2.2.1++ [s.2.2.1]).length=x.2.2.1.length+1:=by simp
   have hLD8:LabD B w7 (true,x.2.1,x.2.2.1++ [s.2.2.1],x.2.2.2) (.slice j x.2.1.2.length k) (.slice A8 (x.2.2.1.length+1) c8):=by rw[<-hle];exact hLD7
   have R:Hid (∀a b c d e,LabD B (((((w7.setCell ⟨w.heap.size+1+1,0,none⟩ a).setCell ⟨w.heap.size+1+1,1,none⟩ b).setCell ⟨w.heap.size+1+1,2,none⟩ c).setCell ⟨w.heap.size+1+1,3,none⟩ d).setCell ⟨w.heap.size+1+1,4,none⟩ e) (true,x.2.1,x.2.2.1++ [s.2.2.1],x.2.2.2) (.slice j x.2.1.2.length k) (.slice A8 (x.2.2.1.length+1) c8)):=fun a b c d e=>
    ((((hLD8.setB g a).setB (g.set_ 0 a) b).setB ((g.set_ 0 a).set_ 1 b) c).setB (((g.set_ 0 a).set_ 1 b).set_ 2 c) d).setB ((((g.set_ 0 a).set_ 1 b).set_ 2 c).set_ 3 d) e
   have Q:Hid (∀a b c d e,Blk (((((w7.setCell ⟨w.heap.size+1+1,0,none⟩ a).setCell ⟨w.heap.size+1+1,1,none⟩ b).setCell ⟨w.heap.size+1+1,2,none⟩ c).setCell ⟨w.heap.size+1+1,3,none⟩ d).setCell ⟨w.heap.size+1+1,4,none⟩ e) (w.heap.size+1+1) 27 #[a,b,c,d,e]):=fun a b c d e=>q18 g a b c d e
   have U:Hid (∀a b c d e,BelO B (.slice n x.2.2.1.length o) w (((((w7.setCell ⟨w.heap.size+1+1,0,none⟩ a).setCell ⟨w.heap.size+1+1,1,none⟩ b).setCell ⟨w.heap.size+1+1,2,none⟩ c).setCell ⟨w.heap.size+1+1,3,none⟩ d).setCell ⟨w.heap.size+1+1,4,none⟩ e)):=fun a b c d e=>BelO.set5 (BelO.step (BelO.of (q9 T2 z rfl) hB) hB7 (by have:=z.size;have:=T2.size;omega) hS7) (by omega) hB a b c d e
   have T:Hid ((decide (((x.2.2.1++ [s.2.2.1]).length:Int)<=12) &&decide (x.2.2.2<=9999))=decide ((x.2.2.1.length:Int)+1<=12)):=by show _=_;rw[zbm hr.2,Bool.and_true,hle];push_cast;rfl
   go_wp2_with fail
   (try simp only[Exit.inBlock,Exit.then])
   refine zas (v:=.tuple #[.agg #[.bool true,.int .i64 x.2.1.1,.slice j x.2.1.2.length k,.slice A8 (x.2.2.1.length+1) c8,.int .i64 x.2.2.2],.bool (decide ((x.2.2.1.length:Int)+1<=12))]) ?hr rfl ?_
   case hr=>exact qp rfl _ _ (w.heap.size+1+1) 27 #[.bool true,.int .i64 x.2.1.1,.slice j x.2.1.2.length k,.slice A8 (x.2.2.1.length+1) c8,.int .i64 x.2.2.2] (0,0) _ _ rfl (Q.out _ _ _ _ _) zbk rfl (by kernel_rfl) rfl
   exact⟨U.out _ _ _ _ _,ze1 ⟨(true,x.2.1,x.2.2.1++ [s.2.2.1],x.2.2.2),.slice j x.2.1.2.length k,.slice A8 (x.2.2.1.length+1) c8,S.out,by show _=Ending.returned (.tuple #[_,.bool (decide (((x.2.2.1++ [s.2.2.1]).length:Int)<=12) &&decide (x.2.2.2<=9999))]);rw[T.out],R.out _ _ _ _ _⟩⟩
 .have HNO:Hid (¬(true=true/\p<0)):=fun h=>hp h.2
  go_wp2_with fail;refine(HX.out _ F).mono ?_;rintro e H ⟨rfl,M⟩;have m:=q9 F M rfl;have T2:=q9 T1 M rfl;replace y:=qe M y;clear C D E;have S:Hid (makM x s=some (x.1,x.2.1,x.2.2.1,x.2.2.2+1)):=HM.out.trans (by rw[zaj HNO.out]);have hw64:IntKind.i64.wrap (x.2.2.2+1)=x.2.2.2+1:=zcg _ (by omega);have A:=BP.next m;have P:=BZ.next m;have fP4:=A.frozen 4;obtain⟨O,t⟩:∃wb,Hid (wb=H.setCell ⟨w.heap.size,4,none⟩ (.int .i64 (x.2.2.2+1))):=⟨_,zaa rfl⟩;have r:Blk O w.heap.size 27 #[.bool x.1,.int .i64 x.2.1.1,.slice j x.2.1.2.length k,.slice n x.2.2.1.length o,.int .i64 (x.2.2.2+1)]:=by rw[t.out];simpa using A.set_ 4 (.int .i64 (x.2.2.2+1))
  have f:Blk O (w.heap.size+1+1) 27 #[.bool false,.int .i64 0,.slice none 0 0,.slice none 0 0,.int .i64 0]:=by rw[t.out];exact P.far (p:=⟨w.heap.size,4,none⟩) (by show _≠w.heap.size;omega) _
  have ab:LabD B H (x.1,x.2.1,x.2.2.1,x.2.2.2+1) (.slice j x.2.1.2.length k) (.slice n x.2.2.1.length o):=HLD.out.next m;have aa:LabD B O (x.1,x.2.1,x.2.2.1,x.2.2.2+1) (.slice j x.2.1.2.length k) (.slice n x.2.2.1.length o):=by rw[t.out];exact ab.setB A _
  have T9:Below w.heap.size w O:=by rw[t.out];exact T2.setCell (p:=⟨w.heap.size,4,none⟩) (zad _) _
  have R:Hid (∀a b c d e,LabD B (((((O.setCell ⟨w.heap.size+1+1,0,none⟩ a).setCell ⟨w.heap.size+1+1,1,none⟩ b).setCell ⟨w.heap.size+1+1,2,none⟩ c).setCell ⟨w.heap.size+1+1,3,none⟩ d).setCell ⟨w.heap.size+1+1,4,none⟩ e) (x.1,x.2.1,x.2.2.1,x.2.2.2+1) (.slice j x.2.1.2.length k) (.slice n x.2.2.1.length o)):=fun a b c d e=>
   ((((aa.setB f a).setB (f.set_ 0 a) b).setB ((f.set_ 0 a).set_ 1 b) c).setB (((f.set_ 0 a).set_ 1 b).set_ 2 c) d).setB ((((f.set_ 0 a).set_ 1 b).set_ 2 c).set_ 3 d) e
  have Q:Hid (∀a b c d e,Blk (((((O.setCell ⟨w.heap.size+1+1,0,none⟩ a).setCell ⟨w.heap.size+1+1,1,none⟩ b).setCell ⟨w.heap.size+1+1,2,none⟩ c).setCell ⟨w.heap.size+1+1,3,none⟩ d).setCell ⟨w.heap.size+1+1,4,none⟩ e) (w.heap.size+1+1) 27 #[a,b,c,d,e]):=fun a b c d e=>q18 f a b c d e
  have U:Hid (∀a b c d e,Below w.heap.size w (((((O.setCell ⟨w.heap.size+1+1,0,none⟩ a).setCell ⟨w.heap.size+1+1,1,none⟩ b).setCell ⟨w.heap.size+1+1,2,none⟩ c).setCell ⟨w.heap.size+1+1,3,none⟩ d).setCell ⟨w.heap.size+1+1,4,none⟩ e)):=fun a b c d e=>q10 T9 (by omega) a b c d e
  have dP0:=r.cell 0;have dP1:=r.cell 1;have dP2:=r.cell 2;have dP3:=r.cell 3;have dP4:=r.cell 4;have fR0:=f.frozen 0;have fR1:=f.frozen 1;have fR2:=f.frozen 2;have fR3:=f.frozen 3;have fR4:=f.frozen 4;have V:=f.cell 0;have W:=f.cell 1;have X:=f.cell 2;have Y:=f.cell 3;have Z:=f.cell 4;simp at dP0 dP1 dP2 dP3 dP4 V W X Y Z;have T:Hid ((decide ((x.2.2.1.length:Int)<=12) &&decide (x.2.2.2+1<=9999))=decide (x.2.2.2+1<=9999)):=by show _=_;rw[zbm (by omega:(x.2.2.1.length:Int)<=12),zdt]
  clear A P ab aa;go_upto_region 15 with fail;rw[<-t.out]
  go_region
  all_goals
   go_wp2_with fail
   (try simp only[Exit.inBlock,Exit.then])
   refine zas (v:=.tuple #[.agg #[.bool x.1,.int .i64 x.2.1.1,.slice j x.2.1.2.length k,.slice n x.2.2.1.length o,.int .i64 (x.2.2.2+1)],.bool (decide (x.2.2.2+1<=9999))]) ?hr rfl ?_
   case hr=>exact qp rfl _ _ (w.heap.size+1+1) 27 #[.bool x.1,.int .i64 x.2.1.1,.slice j x.2.1.2.length k,.slice n x.2.2.1.length o,.int .i64 (x.2.2.2+1)] (0,0) _ _ rfl ((Q.out _ _ _ _ _).next (zai (zab _ _))) zbk rfl (by kernel_rfl) rfl
   exact⟨BelO.of (zai (U.out _ _ _ _ _)) hB,ze1 ⟨(x.1,x.2.1,x.2.2.1,x.2.2.2+1),.slice j x.2.1.2.length k,.slice n x.2.2.1.length o,S.out,by show _=Ending.returned (.tuple #[_,.bool (decide ((x.2.2.1.length:Int)<=12) &&decide (x.2.2.2+1<=9999))]);rw[T.out],(R.out _ _ _ _ _).next (zai (zab _ _))⟩⟩
end Go.Proofs.YtfnmkbpogbekpaaGreatDoor
