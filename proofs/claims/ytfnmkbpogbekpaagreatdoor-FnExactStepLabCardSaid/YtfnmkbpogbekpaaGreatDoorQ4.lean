import Derived.Test.YtfnmkbpogbekpaaGreatDoorQ3
set_option linter.unusedVariables false
set_option linter.unusedSimpArgs false
set_option maxRecDepth 100000
set_option maxHeartbeats 32000000
namespace Go.Proofs.YtfnmkbpogbekpaaGreatDoor
open Go.RowKit
theorem qj6 {N:Nat} {ops:List OpM} {vals:List Int}:∀l:List Int,(evS N ops vals l).length<=l.length
 | []=>zad _
 | v :: l => by
   have ih := qj6 (N := N) (ops := ops) (vals := vals) l;unfold evS
   split
   . simp only [za0]; omega
   . simp only [za0, zcq]; omega
theorem qox {N:Nat} {ops:List OpM} {vals t:List Int} (B:0<N) (c:∀o∈ops,OpP N o) (f:∀y∈vals,0<=y/\y<=(N:Int) - 1) (G:q2q ops t=true) (b:∀v∈t,v<(vals.length:Int)) {k:Nat} {v:Int} (z:t[k]?=some v):
  (0<=v->∃y:Nat,vals[v.toNat]?=some (y:Int)/\y<N/\evS N ops vals (t.drop k)=y::evS N ops vals (t.drop (k+1)))/\
  (¬ 0<=v->∃(ar:Nat) (tb:List Int) (u:Nat),ops[(-1 - v).toNat]?=some ((ar:Int),tb)/\(-1 - v).toNat<ops.length/\ar<=3/\ar<=(evS N ops vals (t.drop (k+1))).length/\(∀d∈evS N ops vals (t.drop (k+1)),d<N)/\tb[idx N ((evS N ops vals (t.drop (k+1))).take ar)]?=some (u:Int)/\u<N/\evS N ops vals (t.drop k)=u::(evS N ops vals (t.drop (k+1))).drop ar):=by
 have I:=(zag.1 z).1;have e:t.drop k=v::t.drop (k+1):=by rw[zbd I,(zag.1 z).2]
 obtain⟨m,r⟩:=GoodS.drop k (show GoodS ops t 1 from(q2t G).2);rw[e]at r⊢;obtain⟨M,H,E⟩:=r.cons;have g:=qnb B c f E fun x K=>b x (zdy K)
 refine⟨fun h=>?_,fun h=>?_⟩
 .have p:v.toNat<vals.length:=by have:=b v (zaf z);omega
  have L:=f _ (zcu p);obtain⟨y,A⟩:=zam L.1;have j:vals[v.toNat]?=some (y:Int):=by rw[zae p,A]
  exact⟨y,j,by omega,qnw h j⟩
 .obtain⟨o,J,i,C,s,p⟩:=qk8 c H h
  obtain⟨ar,tb,rfl,F⟩:=q7z i;have q:arF ops v=ar:=by rw[C];simp
  have a:=(r.room (n:=N) (vals:=vals)).2 h;rw[q]at a;obtain⟨u,D,w⟩:=qnp B i (l:=(evS N ops vals (t.drop (k+1))).take ar) (by rw[za8];simp;omega) fun d hd=>g d (zbu hd)
  refine⟨ar,tb,u,J,p,F,a,g,D,w,?_⟩;have:=qow (n:=N) (vals:=vals) (l:=t.drop (k+1)) (o:=((ar:Int),tb)) (x:=u) h C s (by simpa using D)
  simpa using this
theorem qhg {α:Type} (S:List α) (a:Nat):S.reverse.take (S.length - a)=(S.drop a).reverse:=by
 rw[List.take_reverse]
 congr 1
 by_cases h:a<=S.length
 .congr 1;omega
 .rw[zbe (show S.length<=a by omega),zbe (by omega)]
theorem qkp {S:List Nat} {q d:Nat} (h:S[q]?=some d):(ints (nats S.reverse))[S.length - 1 - q]?=some (.int .i64 (d:Int)):=by
 have a:=(zag.1 h).1;unfold ints nats;rw[za6,za6,List.getElem?_reverse (by omega),show S.length - 1 - (S.length - 1 - q)=q by omega,h];rfl
theorem q6s (a b:List Nat):nats (a++b)=nats a++nats b:=by simp[nats]
theorem q2y (a b:List Int):ints (a++b)=ints a++ints b:=by simp[ints]
theorem qdk (a:List Int) (k:Nat):(ints a).take k=ints (a.take k):=by simp[ints,List.map_take]
theorem qe6 (a:List Nat) (k:Nat):(nats a).take k=nats (a.take k):=by simp[nats,List.map_take]
theorem qne {N:Nat} (a:N<=8) {l:List Nat} (b:l.length<=3) (hd:∀d∈l,d<N):idx N l<=4096:=by
 have:=q9r a (l:=l) (by omega) hd;omega
theorem q98 (cs:List Value) (x:qi) (A B0:Option Addr) (n c m0 c0:Nat) (t vals:List Int) (w:World) (h:qf.rd w cs x) (hx:AlgP x) (ht:RdL RI w A n t) (hv:RdL RI w B0 m0 vals) (hT:q2q x.2 t=true) (K:∀v∈t,v<(vals.length:Int)) (ab:∀y∈vals,0<=y/\y<=x.1 - 1):
  Calls Tryz.prog 175 #[.agg cs.toArray,.slice A n c,.slice B0 m0 c0] w (Bl w (.int .i64 ((evT x.1.toNat x.2 vals t:Nat):Int))):=by
 obtain⟨a,ops⟩:=x;obtain⟨hx1,hx2,hx3,Q⟩:=hx;simp only at hx1 hx2 hx3 Q hT ab;obtain⟨N,rfl⟩:=zam (show 0<=a by omega);rw[za1]at Q;show Calls Tryz.prog 175 _ w (Bl w (.int .i64 ((evT (Int.toNat (N:Int)) ops vals t:Nat):Int)))
 rw[za1];have hN0:0<N:=by omega
 have hN8:N<=8:=by omega
 obtain⟨B,m,d,rfl,-,qo⟩:=qv h;have ae:=qo.len;simp only at ae;have hn60:n<=60:=by have:=(q2t hT).1;have:=ht.len;omega
 have hn0:0<n:=by have:=qcw hT;have:=ht.len;omega
 have HAT:Hid (∀k v,t[k]?=some v->_):=fun k v hv=>qox hN0 Q ab hT K hv
 have HE1:Hid (∀k,(evS N ops vals (t.drop k)).length<=60):=fun k=>by have:=qj6 (N:=N) (ops:=ops) (vals:=vals) (t.drop k);rw[zcq]at this;have:=ht.len;omega
 have X:Hid (evS N ops vals (t.drop n)= []):=by show _=_;rw[zbe (by rw[ht.len];exact zad _)];rfl
 have HE0:Hid ((evS N ops vals (t.drop 0)).length=1):=qbz (show GoodS ops t 1 from(q2t hT).2);have V:Hid (evT N ops vals t=(evS N ops vals (t.drop 0)).headD 0):=rfl;obtain⟨E,hE⟩:∃E:Nat->List Nat,(fun k=>evS N ops vals (t.drop k))=E:=⟨_,rfl⟩;have hE':∀k,evS N ops vals (t.drop k)=E k:=fun k=>congrFun hE k
 simp only[hE']at HAT HE1 X HE0 V;have HML:=zaa ae;clear hE hE' Q ab hT K hx3 ae h;obtain⟨I,hw0,T0,hsz0,BP⟩:=q16 w #[.int .i64 (N:Int),.slice B m d] 24;have HW0:=zaa hw0;replace qo:=qo.next T0;replace ht:=ht.next qd T0;replace hv:=hv.next qd T0;clear hw0 hsz0
 go_enter Tryz.func175,Tryz.ntmps175
 obtain⟨ii,hi,hz0,hz1,hz2⟩:=info_parts q15;go_upto_region 1 with fail;rw[<-HW0.out]
 go_wp2_with (at_make;refine wpList_make_own I rfl _ _ 43 rfl I.heap.size 3 ii (.int .i64 0) 1 zax hi hz0 hz1 .i64 .i64 n n rfl rfl rfl (by rw[hz2];omega) (by unfold maxLen;omega) (zad _) ?_;intro L f hg1)
 have hb1:=(zab I.heap.size I).grown hg1 (zad _) (by simp);clear hg1 hi hz0 hz1 hz2
 go_loopw [7,8] (fun s i wr=>∃(k q:Nat) (A1:Option Addr) (Y:Nat),k<=n/\i=.int .i64 ((k:Int) - 1)/\s=.slice A1 q Y/\q=(E k).length/\wr.ownsRow I.heap.size 3 1 (.slice A1 q Y) q (ints (nats (E k).reverse))/\Below I.heap.size I wr) (fun _ i _=>(intOf i+1).toNat)
 case atStart=>
  refine⟨n,0,_,_,zad _,rfl,rfl,?_,?_,hb1⟩
  .rw[X.out];rfl
  .rw[X.out];exact f
 case round=>
  clear f hb1;obtain⟨k,q,A1,Y,hk,rfl,rfl,hq,l,C⟩:=hrel;have hq60:q<=60:=by rw[hq];exact HE1.out k
  have HQ:=zaa hq;clear hq;have Z:=(BP.next C).cell 0;have cP1:=(BP.next C).cell 1;simp at Z cP1;have hzr:=C.size
  rcases k with _|k
  .skip
   obtain⟨u,hu⟩:∃u,E 0= [u]:=by
    have:=HE0.out
    rcases e:E 0 with _|⟨u,_|⟨_,_⟩⟩
    .rw[e]at this;simp at this
    .exact⟨u,rfl⟩
    .rw[e]at this;simp at this
   have hq1:q=1:=by rw[HQ.out,hu];rfl
   subst hq1;obtain⟨g,rfl,-,-⟩:=q2b l (by omega);have hc0:wr.cell? ⟨g,0,none⟩=some (.int .i64 (u:Int)):=by
    rw[l.cellAt 0 (by omega),hu];rfl
   have HR2:Hid (evT N ops vals t=u):=by show _=_;rw[V.out,hu];rfl
   clear l hu;go_wp2_with fail;go_ret;exact⟨q11 (by rw[HR2.out]),q9 T0 C rfl⟩
  .skip
   have e1:((k+1:Nat):Int) - 1=(k:Int):=by omega
   rw[e1];clear e1;have hk0:(0:Int)<=(k:Int):=by omega
   have hk1:(k:Int)<(n:Int):=by omega
   obtain⟨b,o,uu,v,rfl,hc,⟨rfl,hv0,hv1⟩,-,hxv⟩:=(ht.next qd C).at (k:=k) (by omega);obtain⟨hA,hB⟩:=HAT.out k v hxv;clear hxv
   by_cases h0v:0<=v
   .obtain⟨y,R,hyN,he⟩:=hA h0v
    obtain⟨j,rfl⟩:=zam h0v;rw[za1]at R;have ad:j<m0:=by rw[<-hv.len];exact(zag.1 R).1
    obtain⟨b2,o2,u2,y2,rfl,O,⟨rfl,-,-⟩,-,T⟩:=(hv.next qd C).at ad;rw[R]at T;injection T with T
    subst T;have hj1:(j:Int)<(m0:Int):=by omega
    have hj0:(0:Int)<=(j:Int):=by omega
    have J:Hid (E k=y::E (k+1)):=he;clear he hA hB R
    go_wp2_with (at_builtin;refine app1 wr rfl _ _ 43 3 rfl (.int .i64 0) 8 zax q15 rfl (by decide) I.heap.size q Y A1 _ rfl l (.int .i64 (y:Int)) rfl rfl (by omega) (by omega) ?_;intro A2 c2 w2 ag hg2 hb2)
    go_roundw
    case rel=>exact⟨k,q+1,A2,c2,by omega,by go_num,rfl,by rw[J.out,za0,<-HQ.out],by rw[J.out,List.reverse_cons,q6s,q2y];exact ag,C.trans hb2⟩
    case measure=>simp[intOf];try omega
   .obtain⟨W,tb,u,af,ac,h3,G,aa,D,huN,he⟩:=hB (by omega)
    clear hA hB;obtain⟨j,hj⟩:∃j,j=(-1 - v).toNat:=⟨_,rfl⟩;rw[<-hj]at af ac;have ad:j<m:=by rw[<-HML.out];exact ac
    obtain⟨b2,o2,vs,y,rfl,-,O,hr2,-,R⟩:=(qo.next C).at ad;rw[af]at R;injection R with R
    subst R;obtain⟨B',m',d',rfl,-,qt⟩:=rdOp hr2;have cc0:wr.cell? ⟨b2,o2+j*2,none⟩=some (.int .i64 (W:Int)):=O 0 _ rfl;have cc1:wr.cell? ⟨b2,o2+j*2+1,none⟩=some (.slice B' m' d'):=O 1 _ rfl;have ej:(-1:Int) - v=(j:Int):=by omega
    have hj0:(0:Int)<=(j:Int):=by omega
    have hj1:(j:Int)<(m:Int):=by omega
    obtain⟨S,HS⟩:∃S,Hid (E (k+1)=S):=⟨_,rfl⟩;rw[HS.out]at G aa D he l;have J:=zaa he;have H:Hid (q=S.length):=by show _=_;rw[HQ.out,HS.out]
    have har:W<=q:=by rw[H.out];exact G
    have HDL:=zaa aa;have HTU:=zaa D;obtain⟨L,hw1,T1,hsz1,BX⟩:=q16 wr #[.int .i64 (W:Int),.slice B' m' d'] 122;have HW1:=zaa hw1;have f:=ql l T1;have Z:=((BP.next C).next T1).cell 0;have BX0:=BX.cell 0;have BX1:=BX.cell 1;simp at Z BX0 BX1;have qt1:=qt.next qd T1;have hT1:=q9 C T1 rfl;have hz1:wr.heap.size<L.heap.size:=by omega
    have hz2:wr.heap.size≠L.heap.size:=by omega
    clear af ac hj hr2 O qt G aa D he hw1 l HQ hsz1;go_wp2_with fail;rw[<-HW1.out]
    go_loopw [11,12] (fun at_ kk wi=>∃p:Nat,p<=W/\kk=.int .i64 p/\at_=.int .i64 ((idx N (S.take p):Nat):Int)/\Drawn L wi) (fun _ kk _=>W - (intOf kk).toNat)
    case atStart=>exact⟨0,zah _,rfl,rfl,Drawn.zero _⟩
    case round=>
     obtain⟨p,hp,rfl,rfl,z,rfl⟩:=hrel;obtain⟨P,HP⟩:∃P,Hid (idx N (S.take p)=P):=⟨_,rfl⟩;have hP:P<=4096:=by rw[<-HP.out];exact qne hN8 (by rw[za8];omega) fun d hd=>HDL.out d (zbu hd)
     rw[HP.out]
     by_cases hlt:p<W
     .have hpl:p<S.length:=by have:=H.out;omega
      have M:S[p]?=some S[p]:=zae hpl;have hdN:=HDL.out _ (zcu hpl)
      generalize S[p]=d at M hdN
      have HT:Hid (idx N (S.take (p+1))=P*N+d):=by show _=_;rw[q9b M,HP.out]
      have hM:P*N<=4096*8:=zcj hP hN8;have HEE:Hid ((P:Int)*(N:Int)=((P*N:Nat):Int)):=(zbx _ _).symm;obtain⟨g,rfl,-,-⟩:=q2b f (by omega);obtain⟨r,hr⟩:∃r,r=q - 1 - p:=⟨_,rfl⟩;have hcr:L.cell? ⟨g,r,none⟩=some (.int .i64 (d:Int)):=by
       rw[f.cellAt r (by omega),hr,H.out];exact qkp M
      have er:(q:Int) - 1 - (p:Int)=(r:Int):=by omega
      have hr0:(0:Int)<=(r:Int):=by omega
      have hr1:(r:Int)<(q:Int):=by omega
      have hp1:(p:Int)<(W:Int):=by omega
      have hw1:IntKind.i64.wrap ((P:Int)*(N:Int))=(P:Int)*(N:Int):=by rw[zde];omega
      have hw2:IntKind.i64.wrap ((P:Int)*(N:Int)+(d:Int))=(P:Int)*(N:Int)+(d:Int):=by rw[zde];omega
      have hws1:IntKind.i64.wrap ((q:Int) - 1)=(q:Int) - 1:=by rw[zde];omega
      have hws2:IntKind.i64.wrap (r:Int)=(r:Int):=by rw[zde];omega
      clear hM M hr;go_wp2_with fail
      go_quiet (fail)
      go_wp2_with fail
      go_roundw
      case rel=>exact⟨p+1,by omega,by go_num,by rw[HT.out,HEE.out];simp,(by first|exact Drawn.zero _|exact Drawn.at_ _ _|exact(Drawn.at_ _ _).more _|exact((Drawn.at_ _ _).more _).more _)⟩
      case measure=>simp[intOf];try omega
     .obtain rfl:p=W:=by omega
      have hp1:¬(p:Int)<(p:Int):=by omega
      have D:=HTU.out;rw[HP.out]at D;have hPm:P<m':=by rw[<-qt1.len];exact(zag.1 D).1
      obtain⟨b3,o3,u3,y3,rfl,hc3,⟨rfl,-,-⟩,-,U⟩:=qt1.at hPm;rw[D]at U;injection U with U
      subst U;have hP0:(0:Int)<=(P:Int):=by omega
      have hP1:(P:Int)<(m':Int):=by omega
      obtain⟨s,hs⟩:∃s,s=q - p:=⟨_,rfl⟩;have F:=qgw f (k:=s) (by omega);rw[qdk,qe6,show s=S.length - p by rw[hs,H.out],qhg,<-show s=S.length - p by rw[hs,H.out]]at F;have hqc:=qcp f;have es:(q:Int) - (p:Int)=(s:Int):=by omega
      have hs0:(0:Int)<=(s:Int):=by omega
      have hs1:(s:Int)<=(Y:Int):=by omega
      have hs2:(s:Int)<=(q:Int):=by omega
      have hs60:s<=60:=by omega
      have HSL:Hid (s+1=(E k).length):=by show _=_;rw[J.out,za0,zcq,hs,H.out]
      have ai:((L.drewN z).drew).ownsRow I.heap.size 3 1 (.slice A1 s Y) s (ints (nats (S.drop p).reverse)):=F;have hzz:I.heap.size<=((L.drewN z).drew).heap.size:=hT1.size;have hws2:IntKind.i64.wrap (s:Int)=(s:Int):=by rw[zde];omega
      have cA:((L.drewN (z+1)).alloc (.cells #[.int .i64 (u:Int)] 3)).cell? ⟨wr.heap.size,0,none⟩=some (.int .i64 (p:Int)):=qe (w:=L.drewN (z+1)) (qm _ _) BX0;clear hs F D HP;go_wp2_with fail
      go_region_law (first
       |(refine qkw ((L.drewN z).drew) rfl (.tmp 67) (.tmp 73) 43 3 rfl (.int .i64 0) 8 zax q15 rfl (by decide) I.heap.size s Y A1 (ints (nats (S.drop p).reverse)) (by rfl) ai (.int .i64 (u:Int)) rfl (by rfl) (by omega) (by exact hzz) ?_;intro A5 c5 w5 ah hg5 hb5;have T5:Below I.heap.size I w5:=(hT1.trans (qc (zab _ _) z)).trans ((zai (zab _ _)).trans hb5)))
      all_goals
       go_wp2_with fail
       go_roundw
       case rel=>exact⟨k,s+1,A5,c5,by omega,by go_num,rfl,HSL.out,by rw[J.out,List.reverse_cons,q6s,q2y];exact ah,T5⟩
       case measure=>simp[intOf];try omega
theorem q7b (cs:List Value) (x:qi) (A:Option Addr) (n c j N ar u:Nat) (l:List Nat) (X:List Int) (w:World) (h:qf.rd w cs x) (E:x.1=(N:Int)) (k:N<=8) (I:RdL RI w A n (nats l)) (hd:∀d∈l,d<N) (hn:n<=3) (f:x.2[j]?=some ((ar:Int),X)) (S:X[idx N l]?=some (u:Int)):
  Calls Tryz.prog 196 #[.agg cs.toArray,.int .i64 j,.slice A n c] w (Bl w (.int .i64 (u:Int))):=by
 obtain⟨a,ops⟩:=x;simp only at E f;subst E;obtain⟨B,m,d,rfl,-,G⟩:=qv h;have K:Hid (l.length=n):=by show _=_;rw[<-I.len,q6t]
 have i:=zaa hd;have Q:j<m:=by rw[<-G.len];exact(zag.1 f).1
 obtain⟨Y,D,g,C,BP⟩:=q16 w #[.int .i64 (N:Int),.slice B m d] 24;have M:=zaa D;replace G:=G.next g;replace I:=I.next qd g;obtain⟨b2,o2,vs,y,rfl,-,s,t,-,F⟩:=G.at Q;simp only at F;rw[f]at F;injection F with F
 subst F;obtain⟨Z,U,d',rfl,-,V⟩:=rdOp t;have cc1:Y.cell? ⟨b2,o2+j*2+1,none⟩=some (.slice Z U d'):=s 1 _ rfl;have hj0:(0:Int)<=(j:Int):=by omega
 have hj1:(j:Int)<(m:Int):=by omega
 have r:idx N l<U:=by rw[<-V.len];exact(zag.1 S).1
 obtain⟨b3,o3,u3,y3,rfl,O,⟨rfl,-,-⟩,-,e⟩:=V.at r;simp only at e;rw[S]at e;injection e with e
 subst e;obtain⟨cP0,cP1⟩:=cl2 BP;clear D C hd f S t s V G h
 go_enter Tryz.func196,Tryz.ntmps196
 go_wp2_with fail;rw[<-M.out]
 go_loopw [7,8] (fun at_ T wi=>∃p:Nat,p<=n/\T=.int .i64 p/\at_=.int .i64 ((idx N (l.take p):Nat):Int)/\Drawn Y wi) (fun _ T _=>n - (intOf T).toNat)
 case atStart=>exact⟨0,zah _,rfl,rfl,Drawn.zero _⟩
 case round=>
  obtain⟨p,hp,rfl,rfl,z,rfl⟩:=hrel;obtain⟨P,H⟩:∃P,Hid (idx N (l.take p)=P):=⟨_,rfl⟩;have hP:P<=4096:=by rw[<-H.out];exact qne k (by rw[za8];omega) fun d hd=>i.out d (zbu hd)
  rw[H.out]
  by_cases hlt:p<n
  .skip
   obtain⟨b,o,v,q,rfl,hc,⟨rfl,-,-⟩,-,W⟩:=I.at hlt;obtain⟨d,hd,rfl⟩:=qgt W;have hdN:=i.out d (zaf hd);have HT:Hid (idx N (l.take (p+1))=P*N+d):=by show _=_;rw[q9b hd,H.out]
   have hM:P*N<=4096*8:=zcj hP k;have J:Hid ((P:Int)*(N:Int)=((P*N:Nat):Int)):=(zbx _ _).symm;have R:(p:Int)<(n:Int):=by omega
   have hp0:(0:Int)<=(p:Int):=by omega
   have hw1:IntKind.i64.wrap ((P:Int)*(N:Int))=(P:Int)*(N:Int):=by rw[zde];omega
   have hw2:IntKind.i64.wrap ((P:Int)*(N:Int)+(d:Int))=(P:Int)*(N:Int)+(d:Int):=by rw[zde];omega
   clear hM W hd;go_wp2_with fail
   go_quiet (fail)
   go_wp2_with fail
   go_roundw
   case rel=>exact⟨p+1,by omega,by go_num,by rw[HT.out,J.out];simp,(by first|exact Drawn.zero _|exact Drawn.at_ _ _|exact(Drawn.at_ _ _).more _|exact((Drawn.at_ _ _).more _).more _)⟩
   case measure=>simp[intOf];try omega
  .obtain rfl:p=n:=by omega
   have R:¬(p:Int)<(p:Int):=by omega
   have L:Hid (idx N l=P):=by
    show _=_
    rw[<-H.out,zaq (by rw[K.out];exact zad _)]
   rw[L.out]at O r;have hP0:(0:Int)<=(P:Int):=by omega
   have hP1:(P:Int)<(U:Int):=by omega
   go_wp2_with fail;go_ret;exact⟨rfl,(by first|exact g|exact qc (g) _|exact qc (qc (g) _) _|exact qc (qc (qc (g) _) _) _)⟩
theorem q5k (cs:List Value) (x:qi) (A B0:Option Addr) (n c m0 c0:Nat) (t vals:List Int) (w:World) (h:qf.rd w cs x) (hx:AlgP x) (ht:RdL RI w A n t) (W:RdL RI w B0 m0 vals) (hT:q2q x.2 t=true) (V:∀v∈t,v<(vals.length:Int)) (hin:∀y∈vals,0<=y/\y<=x.1 - 1):
  Calls Tryz.prog 160 #[.agg cs.toArray,.slice A n c,.slice B0 m0 c0] w (Bl w (.int .i64 ((evT x.1.toNat x.2 vals t:Nat):Int))):=by
 obtain⟨a,ops⟩:=x;obtain⟨hx1,hx2,hx3,ad⟩:=hx;simp only at hx1 hx2 hx3 ad hT hin;obtain⟨N,rfl⟩:=zam (show 0<=a by omega);rw[za1]at ad;show Calls Tryz.prog 160 _ w (Bl w (.int .i64 ((evT (Int.toNat (N:Int)) ops vals t:Nat):Int)))
 rw[za1];have hN0:0<N:=by omega
 have hN8:N<=8:=by omega
 have hrd:=h;obtain⟨B,m,d,rfl,-,qo⟩:=qv h;have hml:=qo.len;simp only at hml;have hn60:n<=60:=by have:=(q2t hT).1;have:=ht.len;omega
 have hn0:0<n:=by have:=qcw hT;have:=ht.len;omega
 have HAT:Hid (∀k v,t[k]?=some v->_):=fun k v W=>qox hN0 ad hin hT V W
 have HE1:Hid (∀k,(evS N ops vals (t.drop k)).length<=60):=fun k=>by have:=qj6 (N:=N) (ops:=ops) (vals:=vals) (t.drop k);rw[zcq]at this;have:=ht.len;omega
 have HEN:Hid (evS N ops vals (t.drop n)= []):=by show _=_;rw[zbe (by rw[ht.len];exact zad _)];rfl
 have HE0:Hid ((evS N ops vals (t.drop 0)).length=1):=qbz (show GoodS ops t 1 from(q2t hT).2);have HRES:Hid (evT N ops vals t=(evS N ops vals (t.drop 0)).headD 0):=rfl;obtain⟨E,hE⟩:∃E:Nat->List Nat,(fun k=>evS N ops vals (t.drop k))=E:=⟨_,rfl⟩;have hE':∀k,evS N ops vals (t.drop k)=E k:=fun k=>congrFun hE k
 simp only[hE']at HAT HE1 HEN HE0 HRES;have HML:=zaa hml;clear hE hE' ad hin hT V hx3 hml h;obtain⟨H,hw0,T0,hsz0,BP⟩:=q16 w #[.int .i64 (N:Int),.slice B m d] 24;have HW0:=zaa hw0;replace qo:=qo.next T0;replace ht:=ht.next qd T0;replace W:=W.next qd T0;have HRD:Hid (∀I,Below H.heap.size H I->qf.rd I [.int .i64 (N:Int),.slice B m d] ((N:Int),ops)):=fun I X=>qf.stab (qf.stab hrd T0.block) X.block
 have hb1:=qm H (.cells #[] 3);have Q:(H.alloc (.cells #[] 3)).ownsRow H.heap.size 3 1 (.slice (some ⟨H.heap.size,0,none⟩) 0 0) 0 []:=zby H #[] 0 (zad _) (zah _) rfl;clear hw0 hsz0 hrd
 go_enter Tryz.func160,Tryz.ntmps160
 go_upto_region 1 with fail;rw[<-HW0.out];go_wp2_with fail
 go_loopw [7,8] (fun s i wr=>∃(k q:Nat) (A1:Option Addr) (c1:Nat),k<=n/\i=.int .i64 ((k:Int) - 1)/\s=.slice A1 q c1/\q=(E k).length/\wr.ownsRow H.heap.size 3 1 (.slice A1 q c1) q (ints (nats (E k).reverse))/\Below H.heap.size H wr) (fun _ i _=>(intOf i+1).toNat)
 case atStart=>
  refine⟨n,0,_,_,zad _,rfl,rfl,?_,?_,hb1⟩
  .rw[HEN.out];rfl
  .rw[HEN.out];exact Q
 case round=>
  clear Q hb1;obtain⟨k,q,A1,c1,hk,rfl,rfl,hq,F,D⟩:=hrel;have hq60:q<=60:=by rw[hq];exact HE1.out k
  have HQ:=zaa hq;clear hq;have Z:=(BP.next D).cell 0;have aa:=(BP.next D).cell 1;simp at Z aa;have hzr:=D.size
  rcases k with _|k
  .skip
   obtain⟨u,hu⟩:∃u,E 0= [u]:=by
    have:=HE0.out
    rcases e:E 0 with _|⟨u,_|⟨_,_⟩⟩
    .rw[e]at this;simp at this
    .exact⟨u,rfl⟩
    .rw[e]at this;simp at this
   have hq1:q=1:=by rw[HQ.out,hu];rfl
   subst hq1;obtain⟨g,rfl,-,-⟩:=q2b F (by omega);have hc0:wr.cell? ⟨g,0,none⟩=some (.int .i64 (u:Int)):=by
    rw[F.cellAt 0 (by omega),hu];rfl
   have HR2:Hid (evT N ops vals t=u):=by show _=_;rw[HRES.out,hu];rfl
   clear F hu;go_wp2_with fail;go_ret;exact⟨q11 (by rw[HR2.out]),q9 T0 D rfl⟩
  .skip
   have e1:((k+1:Nat):Int) - 1=(k:Int):=by omega
   rw[e1];clear e1;have hk0:(0:Int)<=(k:Int):=by omega
   have hk1:(k:Int)<(n:Int):=by omega
   obtain⟨b,o,uu,v,rfl,hc,⟨rfl,hv0,hv1⟩,-,hxv⟩:=(ht.next qd D).at (k:=k) (by omega);obtain⟨hA,hB⟩:=HAT.out k v hxv;clear hxv
   by_cases h0v:0<=v
   .obtain⟨y,hy,hyN,he⟩:=hA h0v
    obtain⟨j,rfl⟩:=zam h0v;rw[za1]at hy;have hjm:j<m0:=by rw[<-W.len];exact(zag.1 hy).1
    obtain⟨b2,o2,u2,y2,rfl,hc2,⟨rfl,-,-⟩,-,hy2⟩:=(W.next qd D).at hjm;rw[hy]at hy2;injection hy2 with hy2
    subst hy2;have hj1:(j:Int)<(m0:Int):=by omega
    have hj0:(0:Int)<=(j:Int):=by omega
    have O:Hid (E k=y::E (k+1)):=he;clear he hA hB hy
    go_wp2_with (at_builtin;refine app1 wr rfl _ _ 43 3 rfl (.int .i64 0) 8 zax q15 rfl (by decide) H.heap.size q c1 A1 _ rfl F (.int .i64 (y:Int)) rfl rfl (by omega) (by omega) ?_;intro A2 c2 w2 l hg2 hb2)
    go_roundw
    case rel=>exact⟨k,q+1,A2,c2,by omega,by go_num,rfl,by rw[O.out,za0,<-HQ.out],by rw[O.out,List.reverse_cons,q6s,q2y];exact l,D.trans hb2⟩
    case measure=>simp[intOf];try omega
   .obtain⟨ar,tb,u,ac,hjl,h3,M,hdl,htu,huN,he⟩:=hB (by omega)
    clear hA hB;obtain⟨j,hj⟩:∃j,j=(-1 - v).toNat:=⟨_,rfl⟩;rw[<-hj]at ac hjl;have hjm:j<m:=by rw[<-HML.out];exact hjl
    obtain⟨b2,o2,vs,y,rfl,-,hc2,hr2,-,hy⟩:=(qo.next D).at hjm;rw[ac]at hy;injection hy with hy
    subst hy;obtain⟨B',m',d',rfl,-,qt⟩:=rdOp hr2;have cc0:wr.cell? ⟨b2,o2+j*2,none⟩=some (.int .i64 (ar:Int)):=hc2 0 _ rfl;have ej:(-1:Int) - v=(j:Int):=by omega
    have hj0:(0:Int)<=(j:Int):=by omega
    have hj1:(j:Int)<(m:Int):=by omega
    obtain⟨S,HS⟩:∃S,Hid (E (k+1)=S):=⟨_,rfl⟩;rw[HS.out]at M hdl htu he F;have O:=zaa he;have L:Hid (q=S.length):=by show _=_;rw[HQ.out,HS.out]
    have har:ar<=q:=by rw[L.out];exact M
    have HDL:=zaa hdl;have HTU:=zaa htu;have HOB:=zaa ac;obtain⟨Y,HWO⟩:∃Y:World,Y=wr:=⟨_,rfl⟩;subst HWO;have hbA:=qm Y (.cells #[] 3);have C:(Y.alloc (.cells #[] 3)).ownsRow Y.heap.size 3 1 (.slice (some ⟨Y.heap.size,0,none⟩) 0 0) 0 []:=zby Y #[] 0 (zad _) (zah _) rfl;clear ac hjl hj hr2 hc2 qt M hdl htu he HQ;go_wp2_with fail
    go_loopw [10,11] (fun ag kk wi=>∃(p:Nat) (A2:Option Addr) (c2:Nat),p<=ar/\kk=.int .i64 p/\ag=.slice A2 p c2/\wi.ownsRow Y.heap.size 3 1 (.slice A2 p c2) p (ints (nats (S.take p)))/\Below Y.heap.size Y wi) (fun _ kk _=>ar - (intOf kk).toNat)
    case atStart=>exact⟨0,_,_,zah _,rfl,rfl,C,hbA⟩
    case round=>
     clear C hbA;obtain⟨p,A2,c2,hp,rfl,rfl,C,J⟩:=hrel;have cc0:=qe J cc0;have Z:=qe J Z;have aa:=qe J aa;have l:=ql F J;have hzi:=J.size
     by_cases hlt:p<ar
     .have hpl:p<S.length:=by have:=L.out;omega
      have ab:S[p]?=some S[p]:=zae hpl
      generalize S[p]=d at ab
      have HTK:Hid (S.take (p+1)=S.take p++ [d]):=by show _=_;rw[zbj,ab];rfl
      obtain⟨g,rfl,-,-⟩:=q2b l (by omega);obtain⟨r,hr⟩:∃r,r=q - 1 - p:=⟨_,rfl⟩;have hcr:=l.cellAt r (by omega);rw[hr,L.out,qkp ab,<-L.out,<-hr]at hcr;have er:(q:Int) - 1 - (p:Int)=(r:Int):=by omega
      have hr0:(0:Int)<=(r:Int):=by omega
      have hr1:(r:Int)<(q:Int):=by omega
      have hp1:(p:Int)<(ar:Int):=by omega
      clear ab hr l
      go_wp2_with (at_builtin;refine app1 _ rfl _ _ 43 3 rfl (.int .i64 0) 8 zax q15 rfl (by decide) _ p c2 A2 _ rfl C (.int .i64 (d:Int)) rfl rfl (by omega) (by omega) ?_;intro A3 c3 w3 z hg3 hb3)
      go_roundw
      case rel=>exact⟨p+1,A3,c3,by omega,by go_num,rfl,by rw[HTK.out,q6s,q2y];exact z,J.trans hb3⟩
      case measure=>simp[intOf];try omega
     .obtain rfl:p=ar:=by omega
      have hp1:¬(p:Int)<(p:Int):=by omega
      obtain⟨s,hs⟩:∃s,s=q - p:=⟨_,rfl⟩;have z:=qgw l (k:=s) (by omega);rw[qdk,qe6,show s=S.length - p by rw[hs,L.out],qhg,<-show s=S.length - p by rw[hs,L.out]]at z;have hqc:=qcp l;have es:(q:Int) - (p:Int)=(s:Int):=by omega
      have hs0:(0:Int)<=(s:Int):=by omega
      have hs1:(s:Int)<=(c1:Int):=by omega
      have hs2:(s:Int)<=(q:Int):=by omega
      have hs60:s<=60:=by omega
      have hws2:IntKind.i64.wrap (s:Int)=(s:Int):=by rw[zde];omega
      have HSL:Hid (s+1=(E k).length):=by show _=_;rw[O.out,za0,zcq,hs,L.out]
      have hubd: -9223372036854775808<=(u:Int)/\(u:Int)<=9223372036854775807:=by omega
      have HUB:=zaa hubd;have HDB:Hid (∀v∈nats (S.drop p).reverse, -9223372036854775808<=v/\v<=9223372036854775807):=fun v W=>by
       obtain⟨dd,P,rfl⟩:=zb6.1 W;have:=HDL.out dd (zdy (List.mem_reverse.1 P));omega
      have HDA:Hid (∀v∈nats (S.take p), -9223372036854775808<=v/\v<=9223372036854775807):=fun v W=>by
       obtain⟨dd,P,rfl⟩:=zb6.1 W;have:=HDL.out dd (zbu P);omega
      have r1:=q14 (R:=RI) z (q1o HDB.out);have r2:=q14 (R:=RI) C (q1o HDA.out);have HC1:=zaa fun(I:World) (X:Below wr.heap.size wr I)=>q2h A1 s c1 _ I (r1.next qd X) (by omega)
      have HC2:=zaa fun(I:World) (X:Below wr.heap.size wr I)=>q7b [.int .i64 (N:Int),.slice (some ⟨b2,o2,none⟩) m d] ((N:Int),ops) A2 p c2 j N p u (S.take p) tb I (HRD.out I ((q9 D J rfl).trans (X.mono (zbb hzr hzi)))) rfl hN8 (r2.next qd X) (fun dd P=>HDL.out dd (zbu P)) (by omega) HOB.out HTU.out
      have HZ:Hid (H.heap.size<=wr.heap.size):=zbb hzr hzi;have T:=q9 D J rfl;have KP0:Hid (∀I,Below wr.heap.size wr I->I.cell? ⟨w.heap.size,0,none⟩=some (.int .i64 (N:Int))):=fun I X=>qe X Z
      have KP1:Hid (∀I,Below wr.heap.size wr I->I.cell? ⟨w.heap.size,1,none⟩=some (.slice (some ⟨b2,o2,none⟩) m d)):=fun I X=>qe X aa
      have f:Below wr.heap.size wr wr:=zab _ _;clear hs z r1 r2 l hubd;go_wp2_with fail
      go_region_law (first
       |(go_simp;go_at_call 110;(with_reducible refine(HC1.out _ ?_).mono ?_);(first|exact f|exact qc f _|exact f.alloc f.size _|exact(qc f _).alloc f.size _);rintro e w5 ⟨A5,c5,rfl,K,hb5⟩;replace K:=qh (base':=H.heap.size) K (zbb HZ.out (by first|exact f.size|exact(f.alloc f.size _).size));replace f:=q9 (by first|exact f|exact qc f _|exact f.alloc f.size _|exact(qc f _).alloc f.size _) hb5 rfl;have cQ0:=KP0.out _ f;have cQ1:=KP1.out _ f)
       |(go_simp;go_at_call 196;(with_reducible refine(HC2.out _ ?_).mono ?_);(first|exact f|exact qc f _);rintro e w6 ⟨rfl,hb6⟩;replace f:=q9 (by first|exact f|exact qc f _) hb6 rfl;(try replace K:=ql (w':=w6) (by exact K) hb6))
       |(refine q1b (R:=RI) _ rfl (.tmp 69) (.tmp 74) 43 3 rfl (.int .i64 0) 8 zax q15 rfl (by decide) H.heap.size s c5 A5 (ints (nats (S.drop p).reverse)) (by rfl) (by first|exact K|exact K.alloc _) (some ⟨w6.heap.size,0,none⟩) 1 1 [(u:Int)] (fun y=>.int .i64 y) (fun _=>rfl) (by rfl) (by first|exact q5r (q59 _ (by rfl)) HUB.out|exact(q5r (q59 _ (by rfl)) HUB.out).next qd hb5) (fun _ _ _ hr=>hr.1) (by omega) (zbb HZ.out (by first|exact f.size|exact(f.alloc f.size _).size)) ?_;intro A7 c7 w7 U hg7 G;have T7:Below H.heap.size H w7:=(by first|exact((q9 T f rfl)).trans G|exact(qc (q9 T f rfl) _).trans G|exact((q9 T f rfl).alloc (zbb HZ.out f.size) _).trans G|exact((qc (q9 T f rfl) _).alloc (zbb HZ.out f.size) _).trans G))
       |(refine q1b (R:=RI) _ rfl (.tmp 69) (.tmp 74) 43 3 rfl (.int .i64 0) 8 zax q15 rfl (by decide) H.heap.size s c5 A5 (ints (nats (S.drop p).reverse)) (by rfl) (by first|exact K|exact K.alloc _) (some ⟨w5.heap.size,0,none⟩) 1 1 [(u:Int)] (fun y=>.int .i64 y) (fun _=>rfl) (by rfl) (by first|exact q5r (q59 _ (by rfl)) HUB.out) (fun _ _ _ hr=>hr.1) (by omega) (zbb HZ.out (by first|exact f.size|exact(f.alloc f.size _).size)) ?_;intro A7 c7 w7 U hg7 G;have T7:Below H.heap.size H w7:=(by first|exact((q9 T f rfl)).trans G|exact(qc (q9 T f rfl) _).trans G|exact((q9 T f rfl).alloc (zbb HZ.out f.size) _).trans G|exact((qc (q9 T f rfl) _).alloc (zbb HZ.out f.size) _).trans G)))
      all_goals
       go_wp2_with fail
       go_roundw
       case rel=>exact⟨k,s+1,A7,c7,by omega,by go_num,rfl,HSL.out,by rw[O.out,List.reverse_cons,q6s,q2y];exact U,T7⟩
       case measure=>simp[intOf];try omega
def vmTo (xss:List (List Int)) (k y:Nat):Bool:=(xss.take k).any fun t=>hasI (y:Int) t
theorem qld {a:List (List Int)} {k:Nat} {t:List Int} (h:a[k]?=some t) (y:Nat):vmTo a (k+1) y=(vmTo a k y||varM t y):=by
 unfold vmTo varM;rw[zbj,h];simp
theorem qhl (L R:List Int) (y:Nat):vmTo [L,R] 2 y=(varM L y||varM R y):=by
 unfold vmTo varM;simp
theorem qbo (A:Option Addr) (n c:Nat) (f:List (List Int)) (w:World) (h:RdL (RV RI) w A n f) (W:∀t∈f,∀v∈t,v<6) (hn:n<=1000):
  Calls Tryz.prog 174 #[.slice A n c] w (OwI w (q1n 6 (vmTo f n))):=by
 have H6:=zaa W;clear W
 go_enter Tryz.func174,Tryz.ntmps174
 go_wp2_with (at_make;refine qa1 w rfl _ _ rfl 6 rfl rfl (by omega) ?_;intro w1 p F)
 have D:=(zab w.heap.size w).grown F (zad _) (by simp);clear F
 go_loopw [11] (fun i wr=>∃(k:Nat) (H:List Bool),k<=n/\i=.int .i64 k/\H.length=6/\Hid (∀y,y<6->gB H y=vmTo f k y)/\wr.ownsRow w.heap.size 4 1 (.slice (some ⟨w.heap.size,0,none⟩) 6 6) 6 (bls H)/\Below w.heap.size w wr) (fun i _=>n - (intOf i).toNat)
 case atStart=>exact⟨0,List.replicate 6 false,zah _,rfl,rfl,(fun y s=>q7q (List.getElem?_replicate.trans (zao s))),p,D⟩
 case round=>
  clear p D;obtain⟨k,H,hk,rfl,g,z,a,j⟩:=hrel;have hle:=h.le
  by_cases hlt:k<n
  .have hk0:(0:Int)<=(k:Int):=by omega
   have O:(k:Int)<(n:Int):=by omega
   obtain⟨b,o,v,t,rfl,X,⟨B,m,d,rfl,S⟩,-,T⟩:=h.at hlt;have HX:=zaa T;have J:=zaa (H6.out t (zaf T));have htl:=S.le;have K:=zaa S.len;have M:=qe j X;clear T X;go_wp2_with fail
   go_loopw [17] (fun i Y=>∃(q:Nat) (H:List Bool),q<=m/\i=.int .i64 q/\H.length=6/\Hid (∀y,y<6->gB H y=(vmTo f k y||q71 t q y))/\Y.ownsRow w.heap.size 4 1 (.slice (some ⟨w.heap.size,0,none⟩) 6 6) 6 (bls H)/\Below w.heap.size w Y) (fun i _=>m - (intOf i).toNat)
   case atStart=>exact⟨0,H,zah _,rfl,g,(fun y s=>by rw[z.out y s,qio,Bool.or_false]),a,j⟩
   case round=>
    clear a g z j M;obtain⟨q,H,hq,rfl,g,z,a,r⟩:=hrel
    by_cases hlq:q<m
    .have hq0:(0:Int)<=(q:Int):=by omega
     have Q:(q:Int)<(m:Int):=by omega
     obtain⟨b2,o2,u,v,rfl,E,⟨rfl,hv0,hv1⟩,-,C⟩:=S.at hlq;have hv6:=J.out v (zaf C);have U:=zaa (qbn C);replace E:=qe r E;clear C
     by_cases h0:0<=v
     .obtain⟨x,rfl⟩:=zam h0
      have hx6:x<6:=by omega
      have N:wr.cell? ⟨w.heap.size,x,none⟩=some (.bool (gB H x)):=by rw[a.cellAt x (by omega),q64 (by omega)]
      have hfz:wr.frozen? ⟨w.heap.size,x,none⟩=false:=a.frozenAt x;have I:=(a.stored x (.bool true)).1;rw[q78]at I;have l:Hid (∀y,y<6->gB (H.set x true) y=(vmTo f k y||q71 t (q+1) y)):=fun y s=>by
       rw[qdg (by omega),U.out y]
       by_cases e:y=x
       .subst e;simp
       .rw[zaj e,z.out y s,zbn (by omega)];simp
      clear a;go_wp2_with fail
      go_roundw
      case rel=>exact⟨q+1,H.set x true,by omega,by go_num,by rw[zcn];exact g,l,I,r.setCell (zad _) _⟩
      case measure=>simp[intOf];try omega
     .have l:Hid (∀y,y<6->gB H y=(vmTo f k y||q71 t (q+1) y)):=fun y s=>by
       rw[U.out y,z.out y s,zbn (by omega)];simp
      go_wp2_with fail
      go_roundw
      case rel=>exact⟨q+1,H,by omega,by go_num,g,l,a,r⟩
      case measure=>simp[intOf];try omega
    .have Q:¬(q:Int)<(m:Int):=by omega
     have l:Hid (∀y,y<6->gB H y=vmTo f (k+1) y):=fun y s=>by
      rw[z.out y s,qld HX.out,qev (by rw[K.out];omega)]
     go_wp2_with fail
     go_roundw
     case rel=>exact⟨k+1,H,by omega,by go_num,g,l,a,r⟩
     case measure=>simp[intOf];try omega
  .have O:¬(k:Int)<(n:Int):=by omega
   obtain rfl:k=n:=by omega
   have G:=q14 (R:=RB) a (fun x _=>rfl);have V:=zaa (qbc (some ⟨w.heap.size,0,none⟩) 6 6 H wr G (by omega));have HE:Hid (q1n 6 (gB H)=q1n 6 (vmTo f k)):=q1x z.out;rw[HE.out]at V;clear a G;go_wp2_with fail;refine V.out.mono ?_;rintro e w2 ⟨Z,c2,rfl,P,L⟩;go_wp2_with fail;go_ret;exact⟨Z,c2,rfl,qh P j.size,j.trans (L.mono j.size)⟩
theorem q8g (A:Option Addr) (n c:Nat) (t:List Int) (w:World) (h:RdL RI w A n t) (P:∀v∈t,v<6):
  Calls Tryz.prog 158 #[.slice A n c] w (OwI w (q1n 6 (varM t))):=by
 have T:=zaa P;have C:=zaa h.len;have Y:=h.le;have q:=qm w (.cells #[] 3);have g:(w.alloc (.cells #[] 3)).ownsRow w.heap.size 3 1 (.slice (some ⟨w.heap.size,0,none⟩) 0 0) 0 []:=zby w #[] 0 (zad _) (zah _) rfl;clear P
 go_enter Tryz.func158,Tryz.ntmps158
 go_wp2_with fail
 go_loopw [3,4] (fun s i wr=>∃(k b m l:Nat),k<=n/\i=.int .i64 k/\s=.slice (some ⟨b,0,none⟩) m l/\m=(q1n 6 (q71 t k)).length/\wr.ownsRow w.heap.size 3 1 (.slice (some ⟨b,0,none⟩) m l) m (ints (q1n 6 (q71 t k)))/\Below w.heap.size w wr) (fun _ i _=>n - (intOf i).toNat)
 case atStart=>
  have e:q1n 6 (q71 t 0)= []:=rfl;exact⟨0,w.heap.size,0,0,zah _,rfl,rfl,rfl,g,q⟩
 case round=>
  clear g q;obtain⟨k,O,m,l,hk,rfl,rfl,G,a,d⟩:=hrel;have aa:m<=6:=by rw[G];exact q3t _ _
  have j:=zaa G;clear G
  by_cases hlt:k<n
  .have X:(0:Int)<=(k:Int):=by omega
   have F:(k:Int)<(n:Int):=by omega
   obtain⟨b,o,u,v,rfl,R,⟨rfl,ab,ac⟩,-,H⟩:=h.at hlt;have ad:=T.out v (zaf H);have M:=zaa (qbn H);replace R:=qe d R;clear H
   by_cases h0:0<=v
   .obtain⟨x,rfl⟩:=zam h0
    have I:x<6:=by omega
    have U:=zaa (qi0 w.heap.size O m l _ (x:Int) wr a d.size (by omega) (fun z hz=>by have:=q4h z hz;omega) (by omega));go_wp2_with fail;refine U.out.mono ?_;rintro e w2 ⟨A2,K,W,L,rfl,f,Z,D,E⟩;have Q:=qh1 I D;have p:L=q1n 6 (q71 t (k+1)):=Q.trans (q1x fun y S=>by rw[M.out y,show(y==x)=decide ((x:Int)=(y:Int))from by rw[zcd,zdp,zbt];omega]);have r:0<K:=by
     have:=(qkh (q47 _ _) D).2 (x:Int);have J:(x:Int)∈L:=this.2 (.inr rfl);have hl:L.length=K:=by have:=f.1;simpa[ints]using this
     have:=List.length_pos_of_mem J;omega
    obtain⟨V,rfl,-,-⟩:=q2b f r;rw[p]at f;have N:=zaa f;clear D Q p f;go_wp2_with fail
    go_roundw
    case rel=>exact⟨k+1,V,K,W,by omega,by go_num,rfl,by have:=N.out.1;simp[ints]at this;omega,N.out,d.trans (E.mono d.size)⟩
    case measure=>simp[intOf];try omega
   .have B:Hid (q1n 6 (q71 t (k+1))=q1n 6 (q71 t k)):=q1x fun y S=>by rw[M.out y,zbn (by omega),Bool.or_false]
    go_wp2_with fail
    go_roundw
    case rel=>exact⟨k+1,O,m,l,by omega,by go_num,rfl,by rw[B.out];exact j.out,by rw[B.out];exact a,d⟩
    case measure=>simp[intOf];try omega
  .have F:¬(k:Int)<(n:Int):=by omega
   have B:Hid (q1n 6 (q71 t k)=q1n 6 (varM t)):=q1x fun y S=>qev (by rw[C.out];omega) y
   rw[B.out]at a j;go_wp2_with fail;go_ret;exact⟨_,l,by rw[j.out];rfl,by rw[<-j.out];exact a,d⟩
theorem qg2 {n k:Nat} (d:n<=8) (c:k<=6):n ^ k<=262144:=by
 have a:n ^ k<=8 ^ k:=Nat.pow_le_pow_left d k;have b:8 ^ k<=8 ^ 6:=Nat.pow_le_pow_right (by decide) c;exact zbb a b
theorem qik (n k r:Nat) (w:World) (d:n ^ k=r) (c:n<=8) (s:k<=6):
  Calls Tryz.prog 141 #[.int .i64 n,.int .i64 k] w fun e w'=>e=.returned (.int .i64 r)/\w=w':=by
 have h:=zaa d;clear d
 go_enter Tryz.func141,Tryz.ntmps141
 go_wp2
 go_loop [1,5] (fun b p=>∃(j P:Nat),j<=k/\b=.int .i64 j/\p=.int .i64 P/\Hid (P=n ^ (k - j))) (fun b _=>(intOf b).toNat)
 case atStart=>exact⟨k,1,zad _,rfl,rfl,by show _=_;rw[zc8,zfu]⟩
 case round=>
  obtain⟨j,P,m,rfl,rfl,a⟩:=hrel
  by_cases hlt:0<j
  .have l:P<=262144:=by rw[a.out];exact qg2 c (by omega)
   have i:P*n<=262144*8:=zcj l c;have o:(0:Int)<=(P:Int)*(n:Int):=by rw[<-zbx];omega
   have q:(P:Int)*(n:Int)<=2097152:=by rw[<-zbx];omega
   have f:Hid ((P:Int)*(n:Int)=((P*n:Nat):Int)):=(zbx _ _).symm;have g:Hid (P*n=n ^ (k - (j - 1))):=by show _=_;rw[a.out];exact q9h hlt m
   clear i
   go_wp2
   go_round
   case rel=>exact⟨j - 1,P*n,by omega,by rw[show((j - 1:Nat):Int)=(j:Int) - 1 by omega],by rw[f.out],g⟩
   case measure=>simp[intOf];try omega
  .skip
   go_wp2
   go_ret;exact⟨q11 (by rw[a.out,show k - j=k by omega,h.out]),rfl⟩
theorem qb6 (n k r:Nat) (w:World) (d:n ^ k=r) (c:n<=8) (s:k<=6):
  Calls Tryz.prog 96 #[.int .i64 n,.int .i64 k] w fun e w'=>e=.returned (.int .i64 r)/\w=w':=by
 have h:=zaa d;clear d
 go_enter Tryz.func96,Tryz.ntmps96
 go_wp2
 go_loop [1,5] (fun b p=>∃(j P:Nat),j<=k/\b=.int .i64 j/\p=.int .i64 P/\Hid (P=n ^ (k - j))) (fun b _=>(intOf b).toNat)
 case atStart=>exact⟨k,1,zad _,rfl,rfl,by show _=_;rw[zc8,zfu]⟩
 case round=>
  obtain⟨j,P,m,rfl,rfl,a⟩:=hrel
  by_cases hlt:0<j
  .have l:P<=262144:=by rw[a.out];exact qg2 c (by omega)
   have i:P*n<=262144*8:=zcj l c;have o:(0:Int)<=(P:Int)*(n:Int):=by rw[<-zbx];omega
   have q:(P:Int)*(n:Int)<=2097152:=by rw[<-zbx];omega
   have f:Hid ((P:Int)*(n:Int)=((P*n:Nat):Int)):=(zbx _ _).symm;have g:Hid (P*n=n ^ (k - (j - 1))):=by show _=_;rw[a.out];exact q9h hlt m
   clear i
   go_wp2
   go_round
   case rel=>exact⟨j - 1,P*n,by omega,by rw[show((j - 1:Nat):Int)=(j:Int) - 1 by omega],by rw[f.out],g⟩
   case measure=>simp[intOf];try omega
  .skip
   go_wp2
   go_ret;exact⟨q11 (by rw[a.out,show k - j=k by omega,h.out]),rfl⟩
theorem AlgP.ops {x:qi} (h:AlgP x):∀o∈x.2,OpP x.1.toNat o:=h.2.2.2
theorem qap (cs E:List Value) (x:qi) (e:q1a) (w:World) (h:qf.rd w cs x) (O:qu.rd w E e) (t:AlgP x):
  Calls Tryz.prog 172 #[.agg cs.toArray,.agg E.toArray] w (Bl w (.bool (q2q x.2 e.1 &&q2q x.2 e.2))):=by
 have k:=h;obtain⟨B,m,d,rfl,-,P⟩:=qv h;obtain⟨z,G,C,A,H,D,rfl,I,J⟩:=q1i O;obtain⟨v,s,l,r,L,M⟩:=q1p w #[.int .i64 x.1,.slice B m d] #[.slice z G C,.slice A H D] 24 55;have i:=zaa s;obtain⟨a,c⟩:=cl2 L;obtain⟨j,f⟩:=cl2 M;rw[i.out]at a c j f;have p:=zaa (qb5 _ x z G C e.1 v (qf.stab k l.block) (I.next qd l) _ t.ops t.2.2.1);have q:=zaa fun(K:World) (F:Below v.heap.size v K)=>qb5 _ x A H D e.2 K (qf.stab (qf.stab k l.block) F.block) ((J.next qd l).next qd F) _ t.ops t.2.2.1
 obtain⟨N,n⟩:∃b,Hid (q2q x.2 e.1=b):=⟨_,rfl⟩;obtain⟨Q,o⟩:∃b,Hid (q2q x.2 e.2=b):=⟨_,rfl⟩;rw[n.out]at p;rw[o.out]at q;rw[n.out,o.out];clear s r P I J k
 go_enter Tryz.func172,Tryz.ntmps172
 go_wp2_with fail;rw[<-i.out];refine p.out.mono ?_;rintro e R ⟨rfl,g⟩;rw[<-i.out]at a c j f;have y:=kk3 g a c f;clear a c f;obtain⟨a,c,f⟩:=y;clear j
 rcases N with _|_
 .go_wp2_with fail
  go_ret;exact⟨rfl,q9 l g rfl⟩
 .go_wp2_with fail
  refine(q.out _ g).mono ?_;rintro e S ⟨rfl,u⟩;go_wp2_with fail;go_ret;exact⟨rfl,q9 (q9 l g rfl) u rfl⟩
theorem qnk (a b:Option Addr) (d e f g:Nat) (L R:List Int) (w0:World) (t:TypeId) (i:RdL RI w0 a d L) (j:RdL RI w0 b e R):RdL (RV RI) (w0.alloc (.cells #[.slice a d f,.slice b e g] t)) (some ⟨w0.heap.size,0,none⟩) 2 [L,R]:=by
 have h:=qm w0 (.cells #[.slice a d f,.slice b e g] t);refine⟨rfl,by unfold maxLen;omega,fun k s c=>?_⟩
 rcases k with _|_|k
 .simp only[List.getElem?_cons_zero,zdh]at c
  subst c;exact⟨w0.heap.size,0,.slice a d f,rfl,by simp,a,d,f,rfl,i.next qd h⟩
 .simp only[zdf,List.getElem?_cons_zero,zdh]at c
  subst c;exact⟨w0.heap.size,0,.slice b e g,rfl,by simp,b,e,g,rfl,j.next qd h⟩
 .simp at c
def CtE (w:World) (ask:Bool) (hold:Prop) (e:Ending) (w':World):Prop:=∃A n c,e=.returned (.tuple #[.slice A n c,.bool ask])/\(ask=true->(hold/\A=none/\n=0/\c=0)\/(¬hold/\∃p,A=some p))/\Below w.heap.size w w'
theorem qit (N:Nat) (vars:List Int):ints (Wb N vars 0)=List.replicate (mxV vars) (.int .i64 0):=by rw[Wb,q7s]
theorem qbv (cs G:List Value) (x:qi) (e:q1a) (w:World) (h:qf.rd w cs x) (h':qu.rd w G e) (hx:AlgP x) (I:q2q x.2 e.1=true) (J:q2q x.2 e.2=true):
  Calls Tryz.prog 173 #[.agg cs.toArray,.agg G.toArray] w (CtE w (askB x.1.toNat x.2 e.1 e.2) (q62 x.1.toNat x.2 e.1 e.2)):=by
 have hrd:=h;have hx0:=hx;obtain⟨a,f⟩:=x;obtain⟨L,R⟩:=e;obtain⟨hx1,hx2,hx3,hx4⟩:=hx;simp only at hx1 hx2 hx3 hx4 I J;obtain⟨N,rfl⟩:=zam (show 0<=a by omega);show Calls Tryz.prog 173 _ w (CtE w (askB (Int.toNat (N:Int)) f L R) (q62 (Int.toNat (N:Int)) f L R))
 rw[za1];have hN0:0<N:=by omega
 have hN8:N<=8:=by omega
 obtain⟨B,m,d,rfl,-,qo⟩:=qv h;obtain⟨AL,nL,cL,AR,nR,cR,rfl,rL,rR⟩:=q1i h';simp only at rL rR;obtain⟨c,s⟩:∃l,Hid (q5v L R=l):=⟨_,rfl⟩;obtain⟨r,V⟩:∃r,Hid (N ^ c.length=r):=⟨_,rfl⟩;have HV6:Hid (c.length<=6):=by show _<=6;rw[<-s.out];exact qak L R
 have HVI:Hid (∀v∈c,0<=v/\v<=5):=by rw[<-s.out];exact q5w L R
 have HVM:Hid (∀v∈c,v<(mxV c:Int)):=by rw[<-s.out];exact fun v H=>qlc H
 have HM6:Hid (mxV c<=6):=by show _<=6;rw[<-s.out];exact qoc L R
 have HVL:Hid (∀v∈L,v<(mxV c:Int)):=by rw[<-s.out];exact fun v H=>q92 I J (.inl H)
 have HVR:Hid (∀v∈R,v<(mxV c:Int)):=by rw[<-s.out];exact fun v H=>q92 I J (.inr H)
 have HASK:Hid (askB N f L R=decide (r<=5000)):=by
  show _=_
  unfold askB;rw[I,J,s.out,V.out];rfl
 have O:Hid (q62 N f L R↔∀i,i<r->evT N f (Wb N c (i+1)) L=evT N f (Wb N c (i+1)) R):=by
  show _↔_
  unfold q62 TryP;rw[s.out,V.out]
 rw[HASK.out];obtain⟨w0,hw0,T0,hsz0,BP,BQ⟩:=q1p w #[.int .i64 (N:Int),.slice B m d] #[.slice AL nL cL,.slice AR nR cR] 24 55;have HW0:=zaa hw0;have HRD:Hid (∀E,Below w0.heap.size w0 E->qf.rd E [.int .i64 (N:Int),.slice B m d] ((N:Int),f)):=fun E hz=>qf.stab (qf.stab hrd T0.block) hz.block
 have HL:=zaa (rL.next qd T0);have HR:=zaa (rR.next qd T0);have HX0:=zaa hx0;have HT1:=zaa I;have HT2:=zaa J;have T1:=qm w0 (.cells #[.slice AL nL cL,.slice AR nR cR] 43)
 have HV:=zaa (qbo (some ⟨w0.heap.size,0,none⟩) 2 2 [L,R] _ (qnk AL AR nL nR cL cR L R w0 43 HL.out HR.out) (fun t ht v H=>by
  rcases zbq.1 ht with rfl|ht
  .exact(q21 (q2z I v H)).1
  .rw[zcf]at ht
   subst ht
   exact(q21 (q2z J v H)).1) (by omega))
 have HVE:Hid (q1n 6 (vmTo [L,R] 2)=c):=by show _=_;rw[<-s.out];exact q1x fun y hy=>qhl L R y
 rw[HVE.out]at HV;obtain⟨Q,X⟩:=cl2 BP;obtain⟨Y,Z⟩:=cl2 BQ;clear hw0 hsz0 hrd hx0 hx4 I J hx3 rL rR qo h h'
 go_enter Tryz.func173,Tryz.ntmps173
 go_upto_region 1 with fail;rw[<-HW0.out];go_wp2_with fail;refine HV.out.mono ?_;rintro e A ⟨A6,c6,rfl,ho6,hb2⟩;have r6:=q14 (R:=RI) ho6 (q1o fun v H=>by have:=HVI.out v H;omega);have T2:=q9 T1 hb2 rfl;have zkk:=kk4 T2 Q X Y Z;clear Q X Y Z;obtain⟨Q,X,Y,Z⟩:=zkk;obtain⟨q,HQ⟩:∃q,Hid (c.length=q):=⟨_,rfl⟩;rw[HQ.out]at r6 V HV6⊢;have hq6:=HV6.out;clear ho6;go_wp2_with fail;refine(qik N q r A V.out hN8 HV6.out).mono ?_;rintro e w3 ⟨rfl,rfl⟩
 by_cases h5:5000<r
 .have hr5:(5000:Int)<(r:Int):=by omega
  go_wp2_with fail
  go_ret2
  exact⟨none,0,0,by rw[zbn (show ¬r<=5000 by omega)];rfl,(fun h=>by rw[zbn (show ¬r<=5000 by omega)]at h;cases h),q9 T0 T2 rfl⟩
 have hr5:¬(5000:Int)<(r:Int):=by omega
 obtain⟨n,P⟩:∃n,Hid (mxV c=n):=⟨_,rfl⟩;rw[P.out]at HM6 HVM HVL HVR;have hm6:=HM6.out;have W:Hid (∀i,(Wb N c i).length=n):=fun i=>by rw[qis,P.out]
 have T3:=qm A (.cells #[] 3);have hz2:=T3.size
 go_upto_if 28 with fail
 go_cut [8,28]from 29 to 36 (fun u8 _ wx=>∃M cV,u8=.slice (some ⟨M,0,none⟩) n cV/\wx.ownsRow A.heap.size 3 1 (.slice (some ⟨M,0,none⟩) n cV) n (ints (Wb N c 0))/\Below A.heap.size A wx)
 case first=>
  rcases zc9 q with h0|h0
  .have hv0:c= []:=zdj (by rw[HQ.out];exact h0)
   have hm0:n=0:=by rw[<-P.out,hv0];rfl
   subst h0;subst hm0;have HO:Hid ((A.alloc (.cells #[] 3)).ownsRow A.heap.size 3 1 (.slice (some ⟨A.heap.size,0,none⟩) 0 0) 0 (ints (Wb N c 0))):=by
    have e:Wb N c 0= []:=zdj (W.out 0);show World.ownsRow _ _ _ _ _ _ _
    rw[e];exact zby A #[] 0 (zad _) (zah _) rfl
   go_wp2_with fail;go_meet;exact⟨_,_,rfl,HO.out,T3⟩
  .skip
   have U:c[q - 1]?=c.getLast?:=by rw[List.getLast?_eq_getElem?,HQ.out]
   obtain⟨b,o,vv,v,rfl,hc,⟨rfl,hv0,hv1⟩,-,D⟩:=r6.at (k:=q - 1) (by omega);have hvi:=HVI.out v (zaf D);have hmx:(n:Int)=v+1:=by rw[<-P.out];exact qcg (U ▸ D) hvi.1
   obtain⟨p,hp⟩:∃p,p=q - 1:=⟨_,rfl⟩;rw[<-hp]at hc;have ep:(q:Int) - 1=(p:Int):=by omega
   have hp0:(0:Int)<=(p:Int):=by omega
   have hp1:(p:Int)<(q:Int):=by omega
   have em:v+1=(n:Int):=by omega
   have hc3:=qe T3 hc;clear hc U D hp hmx
   go_wp2_with (at_make;refine q2w _ rfl _ _ rfl n rfl rfl (by omega) ?_;intro w4 hown4 hg4)
   go_meet;have hT4:Below A.heap.size A w4:=T3.trans ((zab _ _).grown hg4 hz2 (by simp));exact⟨_,_,rfl,by rw[qit,P.out];have h4:=hown4;rw[ze9]at h4;exact qh h4 (by omega),hT4⟩
 case rest=>
  obtain⟨M,cV,rfl,K,hT3⟩:=hcut;obtain⟨w3,HWC⟩:∃wq:World,wq=wc:=⟨_,rfl⟩;subst HWC;clear T3 hz2;go_wp2_with fail
  go_loopw [9] (fun i wr=>∃k:Nat,k<=r/\i=.int .i64 k/\Hid (∀i,i<k->evT N f (Wb N c (i+1)) L=evT N f (Wb N c (i+1)) R)/\wr.ownsRow A.heap.size 3 1 (.slice (some ⟨M,0,none⟩) n cV) n (ints (Wb N c k))/\Below A.heap.size A wr) (fun i _=>r - (intOf i).toNat)
  case atStart=>exact⟨0,zah _,rfl,(fun i hi=>absurd hi (by omega)),K,hT3⟩
  case round=>
   clear K hT3;obtain⟨k,hk,rfl,HALL,K,S⟩:=hrel;have kP0:=qe S Q
   by_cases hlt:k<r
   .have hk0:(0:Int)<=(k:Int):=by omega
    have hk1:(k:Int)<(r:Int):=by omega
    have HA:=zaa (qaz k q N wr hN0 (by omega) (by omega) (by omega));have hgV:=(K.lt M rfl);go_wp2_with fail;refine HA.out.mono ?_;rintro e w4 ⟨g,rfl,z,hb4⟩;have hgA:=z.lt g rfl;have hV4:=ql K hb4;have hT4:Below A.heap.size A w4:=S.trans (hb4.mono S.size);obtain⟨G,HDS⟩:∃G,Hid (digs N q k=G):=⟨_,rfl⟩;have HDL:Hid (G.length=q):=by show _=_;rw[<-HDS.out,q2d]
    rw[HDS.out]at z;have hgg:g≠M:=by omega
    clear K kP0 HA;go_wp2_with fail
    go_loopw [49] (fun j wi=>∃p:Nat,p<=q/\j=.int .i64 p/\wi.ownsRow wr.heap.size 3 1 (.slice (some ⟨g,0,none⟩) q q) q (ints (nats G))/\wi.ownsRow A.heap.size 3 1 (.slice (some ⟨M,0,none⟩) n cV) n (ints (setV c G p (Wb N c k)))/\Below A.heap.size A wi) (fun j _=>q - (intOf j).toNat)
    case atStart=>exact⟨0,zah _,rfl,z,hV4,hT4⟩
    case round=>
     clear z hV4 hT4 S hb4;obtain⟨p,hp,rfl,z,K,C⟩:=hrel
     by_cases hlp:p<q
     .have hp0:(0:Int)<=(p:Int):=by omega
      have hp1:(p:Int)<(q:Int):=by omega
      obtain⟨b,o,vv,v,rfl,hc,⟨rfl,hv0,hv1⟩,-,D⟩:=r6.at hlp;have hvi:=HVI.out v (zaf D);have hvm:=HVM.out v (zaf D);obtain⟨y,rfl⟩:=zam hvi.1;have hpl:p<G.length:=by rw[HDL.out];exact hlp
      have hdp:G[p]?=some G[p]:=zae hpl
      generalize G[p]=dd at hdp
      have hcd:wr.cell? ⟨g,p,none⟩=some (.int .i64 (dd:Int)):=by
       rw[z.cellAt p (by omega)];unfold ints nats;rw[za6,za6,hdp];rfl
      have hSL:(setV c G p (Wb N c k)).length=n:=by rw[q9i,W.out]
      have T:∃u,wr.cell? ⟨M,y,none⟩=some u:=⟨_,(K.cellAt y (by omega)).trans (zae (by rw[q3d];omega))⟩;obtain⟨u,T⟩:=T;have hfz:=K.frozenAt y;have hst:=(K.stored y (.int .i64 (dd:Int))).1;rw[q2a]at hst;have HSET:Hid (setV c G (p+1) (Wb N c k)=(setV c G p (Wb N c k)).set y (dd:Int)):=by
       show _=_
       rw[setV,zan,D,zan,hdp];simp
      replace hc:=qe C hc;have hoA2:=q5n z (p:=⟨M,y,none⟩) (by simp[Value.ownBlock];exact hgg) (.int .i64 (dd:Int));have hy1:(y:Int)<(n:Int):=by omega
      clear D hdp z K hvm;go_wp2_with fail
      go_roundw
      case rel=>exact⟨p+1,by omega,by go_num,hoA2,by rw[HSET.out];exact hst,C.setCell hgV.1 _⟩
      case measure=>simp[intOf];try omega
     .obtain rfl:p=q:=by omega
      have hp1:¬(p:Int)<(p:Int):=by omega
      have HW1:Hid (setV c G p (Wb N c k)=Wb N c (k+1)):=by show _=_;rw[Wb,HQ.out,HDS.out]
      rw[HW1.out]at K;have rV:=q14 (R:=RI) K (q1o fun v H=>by have:=qir hN0 c (k+1) v H;omega);have TT:=q9 T2 C rfl;obtain⟨eL,HEL⟩:∃e,Hid (evT N f (Wb N c (k+1)) L=e):=⟨_,rfl⟩;obtain⟨eR,HER⟩:∃e,Hid (evT N f (Wb N c (k+1)) R=e):=⟨_,rfl⟩;have HC1:Hid (∀E,Below wr.heap.size wr E->Calls Tryz.prog 175 #[.agg #[.int .i64 (N:Int),.slice B m d],.slice AL nL cL,.slice (some ⟨M,0,none⟩) n cV] E (Bl E (.int .i64 (eL:Int)))):=fun E hz=>by
       have:=q98 _ _ AL (some ⟨M,0,none⟩) nL cL n cV L (Wb N c (k+1)) E (HRD.out E (q9 TT hz rfl)) HX0.out ((HL.out.next qd TT).next qd hz) (rV.next qd hz) HT1.out (fun v H=>by rw[W.out];exact HVL.out v H) (fun y hy=>qir hN0 c (k+1) y hy);simp only[za1]at this
       rwa [HEL.out]at this
      have HC2:Hid (∀E,Below wr.heap.size wr E->Calls Tryz.prog 175 #[.agg #[.int .i64 (N:Int),.slice B m d],.slice AR nR cR,.slice (some ⟨M,0,none⟩) n cV] E (Bl E (.int .i64 (eR:Int)))):=fun E hz=>by
       have:=q98 _ _ AR (some ⟨M,0,none⟩) nR cR n cV R (Wb N c (k+1)) E (HRD.out E (q9 TT hz rfl)) HX0.out ((HR.out.next qd TT).next qd hz) (rV.next qd hz) HT2.out (fun v H=>by rw[W.out];exact HVR.out v H) (fun y hy=>qir hN0 c (k+1) y hy);simp only[za1]at this
       rwa [HER.out]at this
      have dP0:=qe C Q;have dP1:=qe C X;have dQ0:=qe C Y;have dQ1:=qe C Z;obtain⟨bb,HBB⟩:∃b,Hid (((eL:Int) !=(eR:Int))=b):=⟨_,rfl⟩;have F:Below wr.heap.size wr wr:=zab _ _;clear rV z;go_upto_region 16 with fail
      go_cut [72]from 62 to 73 (fun u72 wx=>u72=.bool bb/\Below wr.heap.size wr wx)
      case first=>
       go_region_held3 (fun w'=>w'.cell? ⟨w.heap.size,0,none⟩=some (.int .i64 (N:Int))/\w'.cell? ⟨w.heap.size,1,none⟩=some (.slice B m d)/\w'.cell? ⟨w.heap.size+1,0,none⟩=some (.slice AL nL cL)/\w'.cell? ⟨w.heap.size+1,1,none⟩=some (.slice AR nR cR)) (first|go_keep|exact⟨qe F dP0,qe F dP1,qe F dQ0,qe F dQ1⟩) (first
        |(go_at_call 175;(with_reducible refine(HC1.out _ ?_).mono ?_);(first|exact F|exact zai F);rintro e wn ⟨rfl,hbn⟩;replace F:=q9 (by first|exact F|exact zai F) hbn rfl)
        |(go_at_call 175;(with_reducible refine(HC2.out _ ?_).mono ?_);(first|exact F|exact zai F);rintro e wn ⟨rfl,hbn⟩;replace F:=q9 (by first|exact F|exact zai F) hbn rfl))
       all_goals
        go_wp2_with fail;go_meet;exact⟨by rw[<-HBB.out],by first|exact F|exact zai F⟩
      case rest=>
       obtain⟨rfl,hTc⟩:=hcut;have hTn:=q9 C hTc rfl;have hVc:=ql K hTc;obtain⟨w9,HWC⟩:∃wq:World,wq=wc:=⟨_,rfl⟩;subst HWC
       rcases bb with _|_
       .have HEQ:Hid (evT N f (Wb N c (k+1)) L=evT N f (Wb N c (k+1)) R):=by
         show _=_
         have:=HBB.out;rw[HEL.out,HER.out];have h2:(eL:Int)=(eR:Int):=by simpa using this
         omega
        have HALL2:Hid (∀i,i<k+1->evT N f (Wb N c (i+1)) L=evT N f (Wb N c (i+1)) R):=fun i hi=>by
         by_cases e:i=k
         .subst e;exact HEQ.out
         .exact HALL.out i (by omega)
        go_wp2_with fail
        go_roundw
        case rel=>exact⟨k+1,by omega,by go_num,HALL2,hVc,hTn⟩
        case measure=>simp[intOf];try omega
       .have HNE:Hid (¬q62 N f L R):=fun hh=>by
         have h1:=O.out.1 hh k hlt;have:=HBB.out;rw[HEL.out,HER.out]at h1;rw[h1]at this;simp at this
        go_wp2_with fail
        go_ret2
        exact⟨_,_,_,by rw[zbm (show r<=5000 by omega)];rfl,fun _=>.inr ⟨HNE.out,_,rfl⟩,q9 T0 (q9 T2 hTn rfl) rfl⟩
   .have hk1:¬(k:Int)<(r:Int):=by omega
    have HYES:Hid (q62 N f L R):=O.out.2 fun i hi=>HALL.out i (by omega)
    go_wp2_with fail
    go_ret2
    exact⟨_,_,_,by rw[zbm (show r<=5000 by omega)];rfl,fun _=>.inl ⟨HYES.out,rfl,rfl,rfl⟩,q9 T0 (q9 T2 S rfl) rfl⟩
theorem qp6 (w:World):(binOp BinOp.eql 43 (Value.slice none 0 0) (Value.slice none 0 0)).run Tryz.prog w=.ok (.bool true) w:=by rfl
theorem qp7 (w:World) (p:Addr) (n c:Nat):(binOp BinOp.eql 43 (Value.slice (some p) n c) (Value.slice none 0 0)).run Tryz.prog w=.ok (.bool false) w:=by rfl
theorem qnl {a b c d:Bool} (h:a=c) (e:b=d):Ending.returned (.tuple #[.bool a,.bool b])=.returned (.tuple #[.bool c,.bool d]):=by rw[h,e]
theorem q4t {n:Nat} {ops:List OpM} {L R:List Int} (h:askB n ops L R=true):q2q ops L=true/\q2q ops R=true:=by
 unfold askB at h;rw[za4,za4]at h;exact h.1
theorem q8q (cs Y:List Value) (x:qi) (e:q1a) (w:World) (h:qf.rd w cs x) (K:qu.rd w Y e) (N:AlgP x):
  Calls Tryz.prog 126 #[.agg cs.toArray,.agg Y.toArray] w (Bl w (.tuple #[.bool (q7r x.1.toNat x.2 e.1 e.2),.bool (askB x.1.toNat x.2 e.1 e.2)])):=by
 have y:=h;have o:=K;obtain⟨B,m,d,rfl,-,qo⟩:=qv h;obtain⟨P,Z,W,Q,nR,X,rfl,rL,rR⟩:=q1i K;obtain⟨C,A,s,z,BP,BQ⟩:=q1p w #[.int .i64 x.1,.slice B m d] #[.slice P Z W,.slice Q nR X] 24 55;have I:=zaa A;have G:Hid (∀q,Below C.heap.size C q->qf.rd q [.int .i64 x.1,.slice B m d] x):=fun q O=>qf.stab (qf.stab y s.block) O.block
 have R:Hid (∀q,Below C.heap.size C q->qu.rd q [.slice P Z W,.slice Q nR X] e):=fun q O=>qu.stab (qu.stab o s.block) O.block
 have V:=zaa N;have S:=zaa (q5h _ x C (G.out _ (zab _ _)));rw[q40.2 N]at S;obtain⟨c,f⟩:=cl2 BP;obtain⟨g,i⟩:=cl2 BQ;obtain⟨ok,j⟩:∃b,Hid ((q2q x.2 e.1 &&q2q x.2 e.2)=b):=⟨_,rfl⟩;obtain⟨k,a⟩:∃b,Hid (askB x.1.toNat x.2 e.1 e.2=b):=⟨_,rfl⟩;have H:Hid (q7r x.1.toNat x.2 e.1 e.2=(k &&tt (q62 x.1.toNat x.2 e.1 e.2))):=by show _=_;unfold q7r;rw[a.out]
 rw[a.out,H.out];clear A z y o rL rR qo N h K
 go_enter Tryz.func126,Tryz.ntmps126
 go_upto_region 1 with fail;rw[<-I.out];go_wp2_with fail;refine S.out.mono ?_;rintro e1 w1 ⟨rfl,l⟩;have r:=kk4 l c f g i;clear c f g i;obtain⟨c,f,g,i⟩:=r;have T:=zaa (qap _ _ x e w1 (G.out _ l) (R.out _ l) V.out);rw[j.out]at T;go_wp2_with fail;refine T.out.mono ?_;rintro e2 w2 ⟨rfl,u⟩;have E:=q9 l u rfl;have r:=kk4 u c f g i;clear c f g i;obtain⟨c,f,g,i⟩:=r
 rcases ok with _|_
 .have h0:k=false:=by
   rcases k with _|_
   .rfl
   .have:=q4t a.out
    rw[this.1,this.2]at j;exact absurd j.out (by decide)
  subst h0;go_wp2_with fail
  go_ret2
  exact⟨rfl,q9 s E rfl⟩
 .have n:=j.out
  rw[za4]at n;have U:=zaa (qbv _ _ x e w2 (G.out _ E) (R.out _ E) V.out n.1 n.2);rw[a.out]at U;obtain⟨t,D⟩:∃t,Hid (tt (q62 x.1.toNat x.2 e.1 e.2)=t):=⟨_,rfl⟩;clear n;go_wp2_with fail;refine U.out.mono ?_;rintro e3 w3 ⟨A3,n3,c3,rfl,F,L⟩;have J:=q9 E L rfl
  rcases k with _|_
  .clear F
   go_wp2_with fail
   go_ret2
   exact⟨rfl,q9 s J rfl⟩
  .rcases F rfl with⟨v,rfl,rfl,rfl⟩|⟨v,p,rfl⟩
   .have M:t=true:=by rw[<-D.out];exact q3p.2 v
    subst M;have hE:=qp6 w3;clear F v;go_wp2_with fail
    go_ret2
    exact⟨qnl (by rw[D.out];rfl) rfl,q9 s J rfl⟩
   .have M:t=false:=by rw[<-D.out];exact(q2g v).symm
    subst M;have hE:=qp7 w3 p n3 c3;clear F v;go_wp2_with fail
    go_ret2
    exact⟨qnl (by rw[D.out];rfl) rfl,q9 s J rfl⟩
theorem qc6 (cs ds:List Value) (x:qi) (e:q1a) (M:Option Addr) (E c0:Nat) (V:List Int) (w:World) (h:qf.rd w cs x) (h':qu.rd w ds e) (g:RdL RI w M E V) (hx:AlgP x):
  Calls Tryz.prog 127 #[.agg cs.toArray,.agg ds.toArray,.slice M E c0] w (Bl w (.bool (askB x.1.toNat x.2 e.1 e.2 &&q45 x.1.toNat x.2 e.1 e.2 V))):=by
 have hrd:=h;have Q:=h';obtain⟨B,m,d,rfl,-,qo⟩:=qv h;obtain⟨O,T,X,P,U,Y,rfl,rL,rR⟩:=q1i h';obtain⟨J,hw0,F,hsz0,BP,BQ⟩:=q1p w #[.int .i64 x.1,.slice B m d] #[.slice O T X,.slice P U Y] 24 55;have HW0:=zaa hw0;have H1:Hid (∀a,Below J.heap.size J a->qf.rd a [.int .i64 x.1,.slice B m d] x):=fun a p=>qf.stab (qf.stab hrd F.block) p.block
 have H2:Hid (∀a,Below J.heap.size J a->qu.rd a [.slice O T X,.slice P U Y] e):=fun a p=>qu.stab (qu.stab Q F.block) p.block
 have HL:Hid (∀a,Below J.heap.size J a->RdL RI a O T e.1):=fun a p=>(rL.next qd F).next qd p
 have HR:Hid (∀a,Below J.heap.size J a->RdL RI a P U e.2):=fun a p=>(rR.next qd F).next qd p
 have HV:Hid (∀a,Below J.heap.size J a->RdL RI a M E V):=fun a p=>(g.next qd F).next qd p
 have HVL:=zaa g.len;have HX:=zaa hx;have HA:=zaa (q8q _ _ x e J (H1.out _ (zab _ _)) (H2.out _ (zab _ _)) hx);obtain⟨n,s⟩:=cl2 BP;obtain⟨u,A⟩:=cl2 BQ;obtain⟨ask,H⟩:∃b,Hid (askB x.1.toNat x.2 e.1 e.2=b):=⟨_,rfl⟩;obtain⟨hb,HHB⟩:∃b,Hid (q7r x.1.toNat x.2 e.1 e.2=b):=⟨_,rfl⟩;rw[H.out,HHB.out]at HA;rw[H.out];clear hw0 hsz0 hrd Q rL rR qo hx h h' g
 go_enter Tryz.func127,Tryz.ntmps127
 go_upto_region 1 with fail;rw[<-HW0.out];go_wp2_with fail;refine HA.out.mono ?_;rintro e1 w1 ⟨rfl,C⟩;have zkk:=kk4 C n s u A;clear n s u A;obtain⟨n,s,u,A⟩:=zkk
 rcases ask with _|_
 .go_wp2_with fail
  go_ret;exact⟨rfl,q9 F C rfl⟩
 obtain⟨N,hN⟩:∃N:Nat,x.1=(N:Int):=⟨x.1.toNat,by have:=HX.out.1;omega⟩;have W:=zaa hN;have hN8:N<=8:=by have:=HX.out.2.1;omega
 have hN1:1<=N:=by have:=HX.out.1;omega
 have I:Hid (x.1.toNat=N):=by show _=_;omega
 rw[hN]at n;obtain⟨ins,K⟩:∃b,Hid (q1v 0 ((N:Int) - 1) V=b):=⟨_,rfl⟩;have HC:=zaa (q3y M E c0 V (N:Int) w1 (HV.out _ C));rw[K.out]at HC;clear hN;go_wp2_with fail;refine HC.out.mono ?_;rintro e2 w2 ⟨rfl,rfl⟩
 rcases ins with _|_
 .have j:Hid (q45 N x.2 e.1 e.2 V=false):=by show _=_;unfold q45;rw[K.out];rfl
  go_wp2_with fail;go_ret;exact⟨qg (by rw[I.out,j.out];rfl),q9 F C rfl⟩
 have G:=q4t H.out;have HT1:=zaa G.1;have HT2:=zaa G.2;obtain⟨c,D⟩:∃l,Hid (q5v e.1 e.2=l):=⟨_,rfl⟩;have HV6:Hid (c.length<=6):=by show _<=6;rw[<-D.out];exact qak _ _
 have HVI:Hid (∀v∈c,0<=v/\v<=5):=by rw[<-D.out];exact q5w _ _
 have HVL1:Hid (∀v∈e.1,v<(mxV c:Int)):=by rw[<-D.out];exact fun v g=>q92 G.1 G.2 (.inl g)
 have HVR1:Hid (∀v∈e.2,v<(mxV c:Int)):=by rw[<-D.out];exact fun v g=>q92 G.1 G.2 (.inr g)
 have T1:=qm w1 (.cells #[.slice O T X,.slice P U Y] 43)
 have HVV:=zaa (qbo (some ⟨w1.heap.size,0,none⟩) 2 2 [e.1,e.2] _ (qnk O P T U X Y e.1 e.2 w1 43 (HL.out _ C) (HR.out _ C)) (fun t G v g=>by
  rcases zbq.1 G with rfl|G
  .exact(q21 (q2z HT1.out v g)).1
  .rw[zcf]at G
   subst G
   exact(q21 (q2z HT2.out v g)).1) (by omega))
 have HVE:Hid (q1n 6 (vmTo [e.1,e.2] 2)=c):=by show _=_;rw[<-D.out];exact q1x fun y hy=>qhl _ _ y
 rw[HVE.out]at HVV;clear G;go_wp2_with fail;refine HVV.out.mono ?_;rintro e w3 ⟨A6,c6,rfl,ho6,hb3⟩;have r6:=q14 (R:=RI) ho6 (q1o fun v g=>by have:=HVI.out v g;omega);have T3:=q9 T1 hb3 rfl;have f:=q9 C T3 rfl;have zkk:=kk4 T3 n s u A;clear n s u A;obtain⟨n,s,u,A⟩:=zkk;obtain⟨q,HQ⟩:∃q,Hid (c.length=q):=⟨_,rfl⟩;rw[HQ.out]at r6 HV6⊢;have hq6:=HV6.out;clear ho6;go_wp2_with fail
 go_loop [9,34] (fun mm i=>∃(k S:Nat),k<=q/\i=.int .i64 k/\mm=.int .i64 S/\Hid (S=mxV (c.take k))/\S<=6) (fun _ i=>q - (intOf i).toNat)
 case atStart=>exact⟨0,0,zah _,rfl,rfl,rfl,zah _⟩
 case round=>
  obtain⟨k,S,hk,rfl,rfl,HMX,hm6⟩:=hrel
  by_cases hlt:k<q
  .have hk0:(0:Int)<=(k:Int):=by omega
   have hk1:(k:Int)<(q:Int):=by omega
   obtain⟨b,o,vv,v,rfl,hc,⟨rfl,hv0,hv1⟩,-,ab⟩:=r6.at hlt;have hvi:=HVI.out v (zaf ab);have L:Hid ((mxV (c.take (k+1)):Int)=v+1):=qcg (by rw[zbj,ab];simp) hvi.1;obtain⟨y,rfl⟩:=zam hvi.1;clear ab;go_wp2_with fail
   go_round
   case rel=>exact⟨k+1,y+1,by omega,by go_num,by go_num,(by show _=_;have:=L.out;omega),by omega⟩
   case measure=>simp[intOf];try omega
  .obtain rfl:k=q:=by omega
   have hk1:¬(k:Int)<(k:Int):=by omega
   have L:Hid (mxV c=S):=by
    show _=_
    rw[HMX.out,zaq (by rw[HQ.out];exact zad _)]
   obtain⟨eL,HEL⟩:∃z,Hid (evT N x.2 V e.1=z):=⟨_,rfl⟩;obtain⟨eR,HER⟩:∃z,Hid (evT N x.2 V e.2=z):=⟨_,rfl⟩;obtain⟨bb,HBB⟩:∃b,Hid (((eL:Int) !=(eR:Int))=b):=⟨_,rfl⟩;have HIV:=zaa (q4n.1 K.out);have HF:Hid (q45 N x.2 e.1 e.2 V=(decide (E=S) &&bb)):=by
    show _=_
    unfold q45;rw[K.out,D.out,L.out,HVL.out,HEL.out,HER.out,<-HBB.out,zdt]
    congr 1
    rw[zcd,zbt,bne_iff_ne];exact⟨fun h hh=>h (by omega),fun h hh=>h (by omega)⟩
   by_cases hnm:E=S
   .subst hnm
    have aa:∀v,v<(mxV c:Int)->v<(V.length:Int):=fun v g=>by rw[HVL.out];rw[L.out]at g;exact g
    have HC1:Hid (∀a,Below w3.heap.size w3 a->Calls Tryz.prog 175 #[.agg #[.int .i64 x.1,.slice B m d],.slice O T X,.slice M E c0] a (Bl a (.int .i64 (eL:Int)))):=fun a p=>by
     have:=q98 _ x O M T X E c0 e.1 V a (H1.out a (q9 f p rfl)) HX.out (HL.out a (q9 f p rfl)) (HV.out a (q9 f p rfl)) HT1.out (fun v g=>aa v (HVL1.out v g)) (fun y hy=>by have:=HIV.out y hy;rw[W.out];exact this);rw[I.out,HEL.out]at this;exact this
    have HC2:Hid (∀a,Below w3.heap.size w3 a->Calls Tryz.prog 175 #[.agg #[.int .i64 x.1,.slice B m d],.slice P U Y,.slice M E c0] a (Bl a (.int .i64 (eR:Int)))):=fun a p=>by
     have:=q98 _ x P M U Y E c0 e.2 V a (H1.out a (q9 f p rfl)) HX.out (HR.out a (q9 f p rfl)) (HV.out a (q9 f p rfl)) HT2.out (fun v g=>aa v (HVR1.out v g)) (fun y hy=>by have:=HIV.out y hy;rw[W.out];exact this);rw[I.out,HER.out]at this;exact this
    rw[W.out]at HC1 HC2;have hd1:((E:Int)==(E:Int))=true:=by rw[zdp]
    have r:Below w3.heap.size w3 w3:=zab _ _;have j:Hid (q45 N x.2 e.1 e.2 V=bb):=by show _=_;rw[HF.out,zbm rfl];rfl
    clear aa r6;go_upto_region 10 with fail
    go_region_held3 (fun w'=>w'.cell? ⟨w.heap.size,0,none⟩=some (.int .i64 (N:Int))/\w'.cell? ⟨w.heap.size,1,none⟩=some (.slice B m d)/\w'.cell? ⟨w.heap.size+1,0,none⟩=some (.slice O T X)/\w'.cell? ⟨w.heap.size+1,1,none⟩=some (.slice P U Y)) (first|go_keep|exact⟨qe r n,qe r s,qe r u,qe r A⟩) (first
     |(go_at_call 175;(with_reducible refine(HC1.out _ ?_).mono ?_);(first|exact r|exact zai r);rintro e wn ⟨rfl,Z⟩;replace r:=q9 (by first|exact r|exact zai r) Z rfl)
     |(go_at_call 175;(with_reducible refine(HC2.out _ ?_).mono ?_);(first|exact r|exact zai r);rintro e wn ⟨rfl,Z⟩;replace r:=q9 (by first|exact r|exact zai r) Z rfl))
    all_goals
     go_wp2_with fail;go_ret;exact⟨qg (by rw[I.out,j.out,<-HBB.out];rfl),q9 F (q9 f (by first|exact r|exact zai r) rfl) rfl⟩
   .have hd1:((E:Int)==(S:Int))=false:=by rw[zbi];omega
    have j:Hid (q45 N x.2 e.1 e.2 V=false):=by show _=_;rw[HF.out,zbn hnm];rfl
    clear r6;go_upto_region 10 with fail
    go_quiet (fail)
    go_wp2_with fail;go_ret;exact⟨qg (by rw[I.out,j.out]),(by first|exact q9 F f rfl|exact qc (q9 F f rfl) _|exact qc (qc (q9 F f rfl) _) _|exact qc (qc (qc (q9 F f rfl) _) _) _)⟩
def ImI (n ar i:Nat) (f:List Int) (k cur at_ st:Nat):Prop:=idx n ((digs n (ar - k) cur).map (nmAt f))*st+at_=toI n ar f i/\st=n ^ k
theorem ImI.start (n a i:Nat) (f:List Int):ImI n a i f 0 i 0 1:=⟨by show idx n ((digs n (a - 0) i).map (nmAt f))*1+0=toI n a f i;rw[Nat.mul_one,Nat.add_zero];rfl,(zfu n).symm⟩
theorem ImI.next {n b i:Nat} {f:List Int} {k a d c:Nat} (h:ImI n b i f k a d c) (j:k<b):ImI n b i f (k+1) (a / n) (d+nmAt f (a % n)*c) (c*n):=by
 obtain⟨e,g⟩:=h;refine⟨?_,by rw[g,zff]⟩;rw[<-e,show b - k=(b - (k+1))+1 by omega,digs,zeo,zcy,List.map_nil,q4f,Nat.add_mul];have:idx n ((digs n (b - (k+1)) (a / n)).map (nmAt f))*(c*n)=idx n ((digs n (b - (k+1)) (a / n)).map (nmAt f))*n*c:=by rw[Nat.mul_assoc,zfe c n]
 omega
theorem ImI.done {n b i:Nat} {f:List Int} {k c a e:Nat} (h:ImI n b i f k c a e) (g:¬k<b):a=toI n b f i:=by
 have d:=h.1;rw[show b - k=0 by omega]at d
 simpa[digs,idx]using d
def MpL (n:Nat) (f:List Int):Prop:=f.length=n/\∀v∈f,0<=v/\v<=(n:Int) - 1
theorem MpL.at {n:Nat} {f:List Int} (h:MpL n f) {x:Nat} (c:x<n):f[x]?=some (nmAt f x:Int)/\nmAt f x<n:=by
 have b:x<f.length:=by rw[h.1];exact c
 have d:=h.2 _ (zcu b);have a:f[x]?=some f[x]:=zae b;rw[q1t a,a];exact⟨by congr 1;omega,by omega⟩
theorem MpL.im {n:Nat} {f:List Int} (h:MpL n f) (a:0<n) (k i:Nat):toI n k f i<n ^ k:=by
 refine q9q k _ (by rw[zcv,q2d]) fun d hd=>?_
 obtain⟨x,b,rfl⟩:=zb6.1 hd;exact(h.at (q2u a b)).2
theorem qan (cs:List Value) (x:qi) (A:Option Addr) (n m c i g:Nat) (f:List Int) (w:World) (h:qf.rd w cs x) (hn:x.1=(n:Int)) (J:0<n) (r:n<=8) (D:RdL RI w A m f) (N:MpL n f) (ha:g<=3) (hi:i<n ^ g):
  Calls Tryz.prog 201 #[.int .i64 i,.int .i64 g,.agg cs.toArray,.agg cs.toArray,.slice A m c] w (Bl w (.int .i64 ((toI n g f i:Nat):Int))):=by
 obtain⟨B,k,d,rfl,-,qo⟩:=qv h;rw[hn];obtain⟨w0,L,T0,K,BP,BQ⟩:=q1p w #[.int .i64 (n:Int),.slice B k d] #[.int .i64 (n:Int),.slice B k d] 24 24;have R:=zaa L;have S:=BP.cell 0;have T:=BQ.cell 0;simp at S T;have r0:=D.next qd T0;have HF:=zaa N;have aa:m=n:=by rw[<-D.len];exact N.1
 subst aa;have Z:i<=4096:=by have:=q3n (n:=m) (k:=g) r (by omega);omega
 have t:toI m g f i<=4096:=by have:=N.im J g i;have:=q3n (n:=m) (k:=g) r (by omega);omega
 have F:=zaa t;clear L K qo h D N hn hi t
 go_enter Tryz.func201,Tryz.ntmps201
 go_upto_region 1 with fail;rw[<-R.out];go_wp2_with fail
 go_loop [0,11,12,13] (fun ci ca V U=>∃q a l j:Nat,q<=g/\U=.int .i64 q/\ci=.int .i64 a/\ca=.int .i64 l/\V=.int .i64 j/\a<=4096/\Hid (ImI m g i f q a l j)) (fun _ _ _ U=>g - (intOf U).toNat)
 case atStart=>exact⟨0,i,0,1,zah _,rfl,rfl,rfl,rfl,Z,ImI.start _ _ _ _⟩
 case round=>
  obtain⟨q,a,l,j,hq,rfl,rfl,rfl,rfl,H,O⟩:=hrel
  by_cases hlt:q<g
  .have hq0:(0:Int)<=(q:Int):=by omega
   have ab:(q:Int)<(g:Int):=by omega
   have D:=zfk a J;obtain⟨X,M⟩:∃X,Hid (a % m=X):=⟨_,rfl⟩;rw[M.out]at D;have C:=HF.out.at D;obtain⟨G,E⟩:∃z,Hid (nmAt f X=z):=⟨_,rfl⟩;rw[E.out]at C;obtain⟨b,o,u,v,rfl,hc,⟨rfl,-,-⟩,-,s⟩:=r0.at D;rw[C.1]at s;injection s with s
   subst s;have ac:j<=4096:=by rw[O.out.2];exact q3n r (by omega)
   have p:=O.out.next hlt;rw[M.out,E.out]at p;have I:l+G*j<=4096:=by
    have h1:=p.1;have:=F.out;omega
   have hM:G*j<=4096:=by omega
   have W:j*m<=4096*8:=zcj ac r;have y:=zaa p;have e1:(G:Int)*(j:Int)=((G*j:Nat):Int):=(zbx _ _).symm;obtain⟨P1,P⟩:∃z,Hid (G*j=z):=⟨_,rfl⟩;rw[P.out]at e1 y hM I;have e2:(j:Int)*(m:Int)=((j*m:Nat):Int):=(zbx _ _).symm;obtain⟨P2,Q⟩:∃z,Hid (j*m=z):=⟨_,rfl⟩;rw[Q.out]at e2 y W;have HQ:Hid (wrap64 ((a:Int) / (m:Int))=((a / m:Nat):Int)):=by
    show _=_
    have e:(a:Int) / (m:Int)=((a / m:Nat):Int):=by simp
    rw[e];exact w64 (by have:=zfg a m;omega)
   have Y:a / m<=4096:=zbb (zfg _ _) H;have f5:(a:Int) % (m:Int)=(X:Int):=by rw[<-M.out];simp
   have f6:a % m=X:=M.out;have hX0:(0:Int)<=(X:Int):=by omega
   have hX1:(X:Int)<(m:Int):=by omega
   have hnz:¬(m:Int)=0:=by omega
   clear C p;go_wp2_with fail
   go_round
   case rel=>exact⟨q+1,a / m,l+P1,P2,by omega,by go_num,by rw[HQ.out],by go_num,by go_num,Y,y⟩
   case measure=>simp[intOf];try omega
  .have ab:¬(q:Int)<(g:Int):=by omega
   have HD:=zaa (O.out.done hlt);go_wp2_with fail;go_ret;exact⟨q11 (by rw[HD.out]),T0⟩
def mpB (n:Nat) (f:List Int):Bool:=decide (f.length=n) &&q1v 0 ((n:Int) - 1) f
theorem qk0 {n:Nat} {f:List Int}:mpB n f=true↔MpL n f:=by unfold mpB MpL;rw[za4,zbt,q4n]
theorem qjg (cs:List Value) (x:qi) (A:Option Addr) (m c:Nat) (f:List Int) (w:World) (h:qf.rd w cs x) (r:AlgP x) (j:RdL RI w A m f):
  Calls Tryz.prog 181 #[.agg cs.toArray,.agg cs.toArray,.slice A m c] w (Bl w (.bool (mpB x.1.toNat f))):=by
 obtain⟨B,k,d,rfl,-,G⟩:=qv h;obtain⟨n,u⟩:∃n:Nat,x.1=(n:Int):=⟨x.1.toNat,by have:=r.1;omega⟩;have l:Hid (x.1.toNat=n):=by show _=_;omega
 have F:n<=8:=by have:=r.2.1;omega
 rw[l.out,u];obtain⟨I,i,o,g,y,C⟩:=q1p w #[.int .i64 (n:Int),.slice B k d] #[.int .i64 (n:Int),.slice B k d] 24 24;have b:=zaa i;have p:=y.cell 0;have q:=C.cell 0;simp at p q;have H:=j.next qd o;have D:=zaa j.len;have v:=j.le;have s:=zaa (q3y A m c f (n:Int) I H);obtain⟨E,a⟩:∃z,Hid (q1v 0 ((n:Int) - 1) f=z):=⟨_,rfl⟩;rw[a.out]at s;have t:Hid (mpB n f=(decide (m=n) &&E)):=by show _=_;unfold mpB;rw[a.out,D.out]
 clear i g G h r j u
 by_cases hmn:m=n
 .subst hmn
  have hd:((m:Int)==(m:Int))=true:=by simp
  go_enter Tryz.func181,Tryz.ntmps181
  go_upto_region 1 with fail;rw[<-b.out];go_wp2_with fail;refine s.out.mono ?_;rintro e J ⟨rfl,rfl⟩;go_wp2_with fail;go_ret;exact⟨qg (by rw[t.out];simp),o⟩
 .have hd:((m:Int)==(n:Int))=false:=by rw[zbi];omega
  go_enter Tryz.func181,Tryz.ntmps181
  go_upto_region 1 with fail;rw[<-b.out];go_wp2_with fail;go_ret;exact⟨qg (by rw[t.out,zbn hmn];rfl),o⟩
def FtE (w:World) (P:Prop) (e:Ending) (w':World):Prop:=∃kk ii:Int,e=.returned (.tuple #[.int .i64 kk,.int .i64 ii])/\(kk<0↔P)/\Below w.heap.size w w'
def HomTo (n:Nat) (ops:List OpM) (f:List Int) (k q:Nat):Prop:=(∀j,j<k->∀o,ops[j]?=some o->∀i,i<o.2.length->nmAt f (nmAt o.2 i)=nmAt o.2 (toI n o.1.toNat f i))/\(∀o,ops[k]?=some o->∀i,i<q->i<o.2.length->nmAt f (nmAt o.2 i)=nmAt o.2 (toI n o.1.toNat f i))
theorem HomTo.start (n:Nat) (ops:List OpM) (f:List Int):HomTo n ops f 0 0:=⟨fun j h=>absurd h (by omega),fun o _ i h=>absurd h (by omega)⟩
theorem HomTo.entry {n:Nat} {ops:List OpM} {f:List Int} {k q:Nat} {o:OpM} (h:HomTo n ops f k q) (c:ops[k]?=some o) (d:nmAt f (nmAt o.2 q)=nmAt o.2 (toI n o.1.toNat f q)):HomTo n ops f k (q+1):=⟨h.1,fun j a i g b=>by
 rw[c]at a;injection a with a
 subst a
 by_cases e:i=q
 .subst e;exact d
 .exact h.2 _ c i (by omega) b⟩
theorem HomTo.op {n:Nat} {ops:List OpM} {f:List Int} {k q:Nat} {o:OpM} (h:HomTo n ops f k q) (d:ops[k]?=some o) (l:¬q<o.2.length):HomTo n ops f (k+1) 0:=⟨fun j g b a i c=>by
 by_cases e:j=k
 .subst e;exact h.2 b a i (by rw[d]at a;injection a with a;subst a;omega) c
 .exact h.1 j (by omega) b a i c,fun b _ i h=>absurd h (by omega)⟩
theorem HomTo.done {n:Nat} {ops:List OpM} {f:List Int} {k q:Nat} (h:HomTo n ops f k q) (d:¬k<ops.length):HomP n ops f:=fun o c i b=>by
 obtain⟨j,a⟩:=zbh c;have:=(zag.1 a).1;exact h.1 j (by omega) o a i b
theorem qf5 (cs:List Value) (x:qi) (A:Option Addr) (n c:Nat) (f:List Int) (w:World) (h:qf.rd w cs x) (hx:AlgP x) (hn:x.1=(n:Int)) (hr:RdL RI w A n f) (hf:MpL n f):
  Calls Tryz.prog 182 #[.agg cs.toArray,.agg cs.toArray,.slice A n c] w (FtE w (HomP n x.2 f)):=by
 have ab:=h;obtain⟨a,j⟩:=x;obtain⟨hx1,hx2,N,g⟩:=hx;simp only at hx1 hx2 N g hn;subst hn;rw[za1]at g;have Z:0<n:=by omega
 have aa:n<=8:=by omega
 obtain⟨B,m,d,rfl,-,qo⟩:=qv h;have HML:=zaa qo.len;have T:=zaa g;have hm4:m<=4:=by rw[<-qo.len];exact N
 obtain⟨S,ag,W,ad,BP,BQ⟩:=q1p w #[.int .i64 (n:Int),.slice B m d] #[.int .i64 (n:Int),.slice B m d] 24 24;have HW0:=zaa ag;have HRD:Hid (∀s,Below S.heap.size S s->qf.rd s [.int .i64 (n:Int),.slice B m d] ((n:Int),j)):=fun s hz=>qf.stab (qf.stab ab W.block) hz.block
 replace qo:=qo.next W;have r0:=hr.next qd W;obtain⟨cP0,cP1⟩:=cl2 BP;obtain⟨cQ0,cQ1⟩:=cl2 BQ;have HF:=zaa hf;clear ag ad N g h hr ab hf
 go_enter Tryz.func182,Tryz.ntmps182
 go_upto_region 1 with fail;rw[<-HW0.out];go_wp2_with fail
 go_loopw [15] (fun i wr=>∃k:Nat,k<=m/\i=.int .i64 k/\Hid (HomTo n j f k 0)/\Below S.heap.size S wr) (fun i _=>m - (intOf i).toNat)
 case atStart=>exact⟨0,zah _,rfl,HomTo.start _ _ _,zab _ _⟩
 case round=>
  obtain⟨k,hk,rfl,R,u⟩:=hrel
  by_cases hlt:k<m
  .have hk0:(0:Int)<=(k:Int):=by omega
   have hk1:(k:Int)<(m:Int):=by omega
   obtain⟨b,o,vs,op,rfl,-,hc,ac,-,P⟩:=qo.at hlt;obtain⟨B',p,d',rfl,-,qt⟩:=rdOp ac;have C:=T.out op (zaf P);obtain⟨t,tb,rfl,har⟩:=q7z C;have K:=zaa P;have J:Hid (p=n ^ t):=by show _=_;rw[<-qt.len];have:=C.2.2.1;simpa using this
   have U:Hid (tb.length=p):=qt.len;have V:=zaa C.2.2.2;have hm512:p<=4096:=by rw[J.out];exact q3n aa (by omega)
   have cc0:S.cell? ⟨b,o+k*2,none⟩=some (.int .i64 (t:Int)):=hc 0 _ rfl;have Y:S.cell? ⟨b,o+k*2+1,none⟩=some (.slice B' p d'):=hc 1 _ rfl;have kc0:=qe u cc0;have kc1:=qe u Y;obtain⟨wo,HWO⟩:∃wo:World,wo=wr:=⟨_,rfl⟩;subst HWO;obtain⟨w1,ah,T1,ae,BX⟩:=q16 wo #[.int .i64 (t:Int),.slice B' p d'] 122;have HW1:=zaa ah;have X:=q9 u T1 rfl;obtain⟨cX0,cX1⟩:=cl2 BX;clear hc ac P C ah ae;go_wp2_with fail;rw[<-HW1.out];clear kc0 kc1;go_wp2_with fail
   go_loopw [23] (fun i wi=>∃q:Nat,q<=p/\i=.int .i64 q/\Hid (HomTo n j f k q)/\Below w1.heap.size w1 wi) (fun i _=>p - (intOf i).toNat)
   case atStart=>exact⟨0,zah _,rfl,R,zab _ _⟩
   case round=>
    clear R;obtain⟨q,hq,rfl,R,L⟩:=hrel;have r:=q9 X L rfl
    by_cases hlq:q<p
    .have hq0:(0:Int)<=(q:Int):=by omega
     have hq1:(q:Int)<(p:Int):=by omega
     obtain⟨b3,o3,u3,v,rfl,hc3,⟨rfl,-,-⟩,-,Q⟩:=(qt.next qd r).at hlq;have af:=V.out v (zaf Q);obtain⟨y,rfl⟩:=zam af.1;have ai:y<n:=by omega
     have HY:Hid (nmAt tb q=y):=by show _=_;rw[q1t Q];simp
     have M:=HF.out.at ai;obtain⟨fy,G⟩:∃z,Hid (nmAt f y=z):=⟨_,rfl⟩;rw[G.out]at M;obtain⟨b4,o4,u4,v4,rfl,hc4,⟨rfl,-,-⟩,-,g⟩:=(r0.next qd r).at ai;rw[M.1]at g;injection g with g
     subst g;have D:toI n t f q<p:=by rw[J.out];exact HF.out.im Z _ _
     obtain⟨IM,I⟩:∃z,Hid (toI n t f q=z):=⟨_,rfl⟩;rw[I.out]at D;obtain⟨u5,v5,hc5,⟨rfl,-,-⟩,-,O⟩:=(qt.next qd r).at' D;have E:=V.out v5 (zaf O);obtain⟨z,rfl⟩:=zam E.1;have HZ:Hid (nmAt tb (toI n t f q)=z):=by show _=_;rw[I.out,q1t O];simp
     have HC:Hid (∀s,Below wr.heap.size wr s->Calls Tryz.prog 201 #[.int .i64 (q:Int),.int .i64 (t:Int),.agg #[.int .i64 (n:Int),.slice (some ⟨b,o,none⟩) m d],.agg #[.int .i64 (n:Int),.slice (some ⟨b,o,none⟩) m d],.slice (some ⟨b4,o4,none⟩) n c] s (Bl s (.int .i64 (IM:Int)))):=fun s hz=>by
      have:=qan _ ((n:Int),j) (some ⟨b4,o4,none⟩) n n c q t f s (HRD.out s (q9 r hz rfl)) rfl Z aa ((r0.next qd r).next qd hz) HF.out har (by rw[<-J.out];exact hlq);rw[I.out]at this;exact this
     have hy0:(0:Int)<=(y:Int):=by omega
     have hy1:(y:Int)<(n:Int):=by omega
     have hM0:(0:Int)<=(IM:Int):=by omega
     have hM1:(IM:Int)<(p:Int):=by omega
     obtain⟨bb,F⟩:∃z',Hid (((fy:Int) !=(z:Int))=z'):=⟨_,rfl⟩;have jP0:=qe r cP0;have jP1:=qe r cP1;have jQ0:=qe r cQ0;have jQ1:=qe r cQ1;have jX0:=qe L cX0;have jc1:=qe r Y;have l:Below wr.heap.size wr wr:=zab _ _;clear Q af O E M;go_upto_region 7 with fail
     go_cut [47]from 28 to 50 (fun u47 wx=>u47=.bool bb/\Below wr.heap.size wr wx)
     case first=>
      go_region_held3 (fun w'=>w'.cell? ⟨w.heap.size,0,none⟩=some (.int .i64 (n:Int))/\w'.cell? ⟨w.heap.size,1,none⟩=some (.slice (some ⟨b,o,none⟩) m d)/\w'.cell? ⟨w.heap.size+1,0,none⟩=some (.int .i64 (n:Int))/\w'.cell? ⟨w.heap.size+1,1,none⟩=some (.slice (some ⟨b,o,none⟩) m d)/\w'.cell? ⟨wo.heap.size,0,none⟩=some (.int .i64 (t:Int))/\w'.cell? ⟨b,o+k*2+1,none⟩=some (.slice (some ⟨b3,o3,none⟩) p d')/\w'.cell? ⟨b4,o4+y,none⟩=some (.int .i64 (fy:Int))/\w'.cell? ⟨b3,o3+IM,none⟩=some (.int .i64 (z:Int))) (first|go_keep|exact⟨qe l jP0,qe l jP1,qe l jQ0,qe l jQ1,qe l jX0,qe l jc1,qe l hc4,qe l hc5⟩) (first
       |(go_at_call 201;(with_reducible refine(HC.out _ ?_).mono ?_);(first|exact l|exact zai l);rintro e wn ⟨rfl,hbn⟩;replace l:=q9 (by first|exact l|exact zai l) hbn rfl))
      all_goals
       go_wp2_with fail;go_meet;exact⟨by rw[<-F.out],by first|exact l|exact zai l⟩
     case rest=>
      obtain⟨rfl,hTc⟩:=hcut;have TN:=q9 L hTc rfl
      rcases bb with _|_
      .have H:Hid (HomTo n j f k (q+1)):=R.out.entry K.out (by
        simp only[za1];rw[HY.out,G.out,HZ.out];have:=F.out;have h2:(fy:Int)=(z:Int):=by simpa using this
        omega)
       go_wp2_with fail
       go_roundw
       case rel=>exact⟨q+1,by omega,by go_num,H,TN⟩
       case measure=>simp[intOf];try omega
      .have HNO:Hid (¬HomP n j f):=fun hh=>by
        have h1:=hh _ (zaf K.out) q (by have:=U.out;simp only;omega);simp only[za1]at h1;rw[HY.out,G.out,HZ.out]at h1;have:=F.out;rw[h1]at this;simp at this
       go_wp2_with fail
       go_ret2
       exact⟨(k:Int),(q:Int),rfl,⟨fun h=>absurd h (by omega),fun h=>absurd h HNO.out⟩,q9 W (q9 X TN rfl) rfl⟩
    .have hq1:¬(q:Int)<(p:Int):=by omega
     have H:Hid (HomTo n j f (k+1) 0):=R.out.op K.out (by have:=U.out;simp only;omega);go_wp2_with fail
     go_roundw
     case rel=>exact⟨k+1,by omega,by go_num,H,r⟩
     case measure=>simp[intOf];try omega
  .have hk1:¬(k:Int)<(m:Int):=by omega
   have HD:Hid (HomP n j f):=R.out.done (by rw[HML.out];exact hlt);go_wp2_with fail
   go_ret2
   exact⟨-1,0,rfl,⟨fun _=>HD.out,fun _=>by decide⟩,q9 W u rfl⟩
theorem qjf (cs:List Value) (x:qi) (A:Option Addr) (m c:Nat) (f:List Int) (w:World) (h:qf.rd w cs x) (u:AlgP x) (I:RdL RI w A m f):
  Calls Tryz.prog 133 #[.agg cs.toArray,.agg cs.toArray,.slice A m c] w (Bl w (.bool (homB x.1.toNat x.2 f))):=by
 have q:=h;obtain⟨B,k,d,rfl,-,Z⟩:=qv h;obtain⟨n,P⟩:∃n:Nat,x.1=(n:Int):=⟨x.1.toNat,by have:=u.1;omega⟩;have C:=zaa P;have o:Hid (x.1.toNat=n):=by show _=_;omega
 obtain⟨J,s,t,r,S,T⟩:=q1p w #[.int .i64 x.1,.slice B k d] #[.int .i64 x.1,.slice B k d] 24 24;have E:=zaa s;have p:Hid (∀K,Below J.heap.size J K->qf.rd K [.int .i64 x.1,.slice B k d] x):=fun K X=>qf.stab (qf.stab q t.block) X.block
 obtain⟨g,i⟩:=cl2 S;obtain⟨j,l⟩:=cl2 T;have V:=zaa u;have v:=zaa I.len;have R:=I.next qd t;have y:=zaa (qjg _ x A m c f J (p.out _ (zab _ _)) u R);rw[o.out]at y;rw[o.out];obtain⟨O,b⟩:∃z,Hid (mpB n f=z):=⟨_,rfl⟩;rw[b.out]at y;have D:Hid (homB n x.2 f=(O &&tt (HomP n x.2 f))):=by show _=_;unfold homB;rw[<-b.out];rfl
 clear s r Z h q u I P
 go_enter Tryz.func133,Tryz.ntmps133
 go_upto_region 1 with fail;rw[<-E.out];go_wp2_with fail;refine y.out.mono ?_;rintro e w1 ⟨rfl,a⟩;have L:=kk4 a g i j l;clear g i j l;obtain⟨g,i,j,l⟩:=L
 rcases O with _|_
 .go_wp2_with fail
  go_ret;exact⟨qg (by rw[D.out];rfl),q9 t a rfl⟩
 have G:=qk0.1 b.out;have H:m=n:=by rw[<-v.out];exact G.1
 subst H;have U:=zaa (qf5 _ x A m c f w1 (p.out _ a) V.out C.out (R.next qd a) G);clear G;go_wp2_with fail;refine U.out.mono ?_;rintro e w2 ⟨Y,ii,rfl,Q,F⟩;have M:=zaa Q;clear Q;have N:=q9 t (q9 a F rfl) rfl
 by_cases h0:Y<0
 .go_wp2_with fail
  go_ret;exact⟨qg (by rw[D.out,<-q6i (M.out.1 h0)];rfl),N⟩
 .go_wp2_with fail
  go_ret;exact⟨qg (by rw[D.out,<-q2g (fun W=>by have:=M.out.2 W;omega)];simp;try omega),N⟩
theorem qpo {w w':World} {p:Addr} {v:Value} (a:Below w.heap.size w w') (h:w.cell? p=some v):w'.cell? p=some v:=(a.cell (q42 h)).trans h
theorem qnd {w w':World} {g:Nat} (h:w.grownBy w' (some g)) {p:Addr} (d:p.block=g) (v:Value):w.grownBy (w'.setCell p v) (some g):=
 ⟨h.os,h.tape,h.output,by simpa using h.size,fun k c a=>(zal w' p v k (by intro b;rw[b,d]at a;exact a rfl)).trans (h.block k c a)⟩
theorem q46 (w:World) (r:Option Nat):w.grownBy w r:=⟨rfl,rfl,rfl,zad _,fun _ _ _=>rfl⟩
theorem q3r {w d e:World} {r:Option Nat} (h:w.grownBy d r) (k:d.grownBy e r):w.grownBy e r:=
 ⟨k.os.trans h.os,k.tape.trans h.tape,k.output.trans h.output,zbb h.size k.size,fun b c a=>(k.block b (zek c h.size) a).trans (h.block b c a)⟩
theorem qlu {w w':World} {r:Option Nat} (h:Below w.heap.size w w'):w.grownBy w' r:=⟨h.os,h.tape,h.output,h.size,fun b a _=>h.block b a⟩
theorem q99 {w w':World} {r:Option Nat} (h:w.grownBy w' r) (z:Nat):w.grownBy (w'.drewN z) r:=⟨h.os,h.tape,h.output,h.size,fun b c a=>h.block b c a⟩
theorem qjw (A:Option Addr) (m c n:Nat) (S:List Int) (w:World) (h:RdL RI w A m S) (hS:∀v∈S,0<=v/\v<=(n:Int) - 1) (N:n<=1000):
  Calls Tryz.prog 180 #[.slice A m c,.int .i64 n] w fun e w'=>e=.returned (.slice (some ⟨w.heap.size,0,none⟩) n n)/\w'.ownsRow w.heap.size 4 1 (.slice (some ⟨w.heap.size,0,none⟩) n n) n (bls (inL n S))/\Below w.heap.size w w':=by
 have D:=zaa hS;have C:=zaa h.len;have H:=h.le;clear hS
 go_enter Tryz.func180,Tryz.ntmps180
 go_wp2_with (at_make;refine qa1 w rfl _ _ rfl n rfl rfl (by omega) ?_;intro O d l)
 have j:=(zab w.heap.size w).grown l (zad _) (by simp);clear l
 go_loopw [12] (fun i wr=>∃k:Nat,k<=m/\i=.int .i64 k/\wr.ownsRow w.heap.size 4 1 (.slice (some ⟨w.heap.size,0,none⟩) n n) n (bls (inL n (S.take k)))/\Below w.heap.size w wr) (fun i _=>m - (intOf i).toNat)
 case atStart=>
  refine⟨0,zah _,rfl,?_,j⟩;have e:inL n (S.take 0)=List.replicate n false:=by
   unfold inL;rw[zc4];exact List.eq_replicate_iff.2 ⟨by simp,fun b E=>by obtain⟨y,-,rfl⟩:=zb6.1 E;rfl⟩
  rw[e];exact d
 case round=>
  clear d j;obtain⟨k,M,rfl,a,f⟩:=hrel
  by_cases hlt:k<m
  .have G:(0:Int)<=(k:Int):=by omega
   have s:(k:Int)<(m:Int):=by omega
   obtain⟨b,o,u,v,rfl,B,⟨rfl,I,J⟩,-,z⟩:=h.at hlt;have t:=D.out v (zaf z);obtain⟨x,rfl⟩:=zam t.1;have q:x<n:=by omega
   have g:=zaa (qc5 z q);replace B:=qpo f B;have r:wr.cell? ⟨w.heap.size,x,none⟩=some (.bool (gB (inL n (S.take k)) x)):=by rw[a.cellAt x (by omega),q64 (by rw[q5f];exact q)]
   have F:=a.frozenAt x;have p:=(a.stored x (.bool true)).1;rw[q78,g.out]at p;have K:(0:Int)<=(x:Int):=by omega
   have L:(x:Int)<(n:Int):=by omega
   clear z a;go_wp2_with fail
   go_roundw
   case rel=>exact⟨k+1,by omega,by go_num,p,f.setCell (zad _) _⟩
   case measure=>simp[intOf];try omega
  .have s:¬(k:Int)<(m:Int):=by omega
   rw[zaq (by rw[C.out];omega)]at a;go_wp2_with fail;go_ret;exact⟨rfl,a,f⟩
theorem qi5 (A:Option Addr) (n c:Nat) (L:List Bool) (w:World) (h:RdL RB w A n L) (K:n<=1000):
  Calls Tryz.prog 166 #[.slice A n c] w (OwI w (q1n n (gB L))):=by
 have y:=qm w (.cells #[] 3);have x:=zby (base:=w.heap.size) (e:=3) (size:=1) w #[] 0 (zad _) (zah _) rfl
 go_enter Tryz.func166,Tryz.ntmps166
 go_wp2_with fail
 go_loopw [3,4] (fun s i wr=>∃(k m:Nat) (j:Option Addr) (l:Nat),k<=n/\i=.int .i64 k/\s=.slice j m l/\m=(q1n k (gB L)).length/\wr.ownsRow w.heap.size 3 1 (.slice j m l) m (ints (q1n k (gB L)))/\Below w.heap.size w wr) (fun _ i _=>n - (intOf i).toNat)
 case atStart=>exact⟨0,0,_,_,zah _,rfl,rfl,rfl,x,y⟩
 case round=>
  clear x y;obtain⟨k,m,j,l,J,rfl,rfl,q,f,d⟩:=hrel;have G:m<=k:=by rw[q];exact q3t k (gB L)
  by_cases hlt:k<n
  .have F:(0:Int)<=(k:Int):=by omega
   have t:(k:Int)<(n:Int):=by omega
   obtain⟨b,o,u,v,rfl,I,rfl,-,z⟩:=(h.next qai d).at hlt;have C:=zaa (q7q z);have p:=zaa (qbb k (gB L));rw[C.out]at p;have a:=zaa q;clear z q
   rcases v with _|_
   .go_wp2_with fail
    go_roundw
    case rel=>exact⟨k+1,m,j,l,by omega,by go_num,rfl,by rw[p.out];simpa using a.out,by rw[p.out];simpa using f,d⟩
    case measure=>simp[intOf];try omega
   .have H:=d.size
    go_wp2_with (at_builtin;refine app1 wr rfl _ _ 43 3 rfl (.int .i64 0) 8 zax q15 rfl (by decide) w.heap.size m l j (ints (q1n k (gB L))) rfl f (.int .i64 (k:Int)) rfl rfl (by omega) (by omega) ?_;intro B D M g E r)
    go_roundw
    case rel=>exact⟨k+1,m+1,B,D,by omega,by go_num,rfl,by rw[p.out];simpa using a.out,by rw[p.out];simpa[ints]using g,d.trans r⟩
    case measure=>simp[intOf];try omega
  .have t:¬(k:Int)<(n:Int):=by omega
   obtain rfl:k=n:=by omega
   have a:=zaa q;clear q;go_wp2_with fail;go_ret;exact⟨j,l,by rw[a.out];rfl,by rw[<-a.out];exact f,d⟩
theorem qiv (A:Option Addr) (n c d i:Nat) (L:List Bool) (w:World) (h:RdL RB w A n L) (l:0<n) (H:n<=1000) (F:d<=1000) (hi:i<=1048576):
  Calls Tryz.prog 200 #[.int .i64 i,.int .i64 d,.int .i64 n,.slice A n c] w fun e w'=>e=.returned (.bool (AllM n d i L))/\w=w':=by
 have z:=h.le
 go_enter Tryz.func200,Tryz.ntmps200
 go_wp2
 go_loop [0,1] (fun s j=>∃k a:Nat,k<=d/\j=.int .i64 k/\s=.int .i64 a/\a<=1048576/\Hid (AllM n k a L=AllM n d i L)) (fun _ j=>(intOf j).toNat)
 case atStart=>exact⟨d,i,zad _,rfl,rfl,hi,rfl⟩
 case round=>
  obtain⟨k,a,G,rfl,rfl,x,g⟩:=hrel
  rcases k with _|k
  .have t:¬(0:Int)<((0:Nat):Int):=by omega
   have r:Hid (AllM n d i L=true):=by show _=_;rw[<-g.out];rfl
   go_wp2
   go_ret;exact⟨qg r.out.symm,rfl⟩
  .have t:(0:Int)<((k+1:Nat):Int):=by omega
   have C:a % n<n:=zfk _ l;obtain⟨b,o,u,v,rfl,y,rfl,-,p⟩:=h.at C;have m:Hid (AllM n (k+1) a L=(AllM n k (a / n) L &&v)):=by
    show _=_
    unfold AllM;rw[digs,List.all_append,<-q7q p];simp
   have B:¬(n:Int)=0:=by omega
   have f:a / n<=1048576:=zbb (zfg _ _) x;have q:Hid (wrap64 ((a:Int) / (n:Int))=((a / n:Nat):Int)):=by
    show _=_
    have e:(a:Int) / (n:Int)=((a / n:Nat):Int):=by simp
    rw[e];exact w64 f
   have D:(0:Int)<=((a % n:Nat):Int):=by omega
   have E:((a % n:Nat):Int)<(n:Int):=by omega
   clear p
   rcases v with _|_
   .go_wp2
    go_ret;exact⟨qg (by rw[<-g.out,m.out,zd9]),rfl⟩
   .go_wp2
    go_round
    case rel=>exact⟨k,a / n,by omega,by go_num,by rw[q.out],f,by show _=_;rw[<-g.out,m.out,Bool.and_true]⟩
    case measure=>simp[intOf];try omega
noncomputable def offW (w:World) (g n:Nat):Nat:=(List.range n).countP fun y=> !(tt (w.cell? ⟨g,y,none⟩=some (.bool true)))
def qnx:Value->Nat| .bool true=>1|_=>0
theorem qgu {w:World} {base g n c:Nat} {L:List Bool} (h:w.ownsRow base 4 1 (.slice (some ⟨g,0,none⟩) n c) n (bls L)) (d:L.length=n):offW w g n=offs L:=by
 have e:L=(List.range n).map (gB L):=qj8 (n:=n) d (by simp) fun y a=>by
  refine(q7q ?_).symm;rw[za6,zeq a];rfl
 unfold offW offs;rw[e,List.countP_map];refine List.countP_congr fun y a=>?_
 have f:=zdu.1 a;have b:w.cell? ⟨g,y,none⟩=some (.bool (gB L y)):=by rw[h.cellAt y (by omega),q64 (by omega)]
 rw[b];simp only[Function.comp_apply]
 rcases gB L y with _|_<;>simp[tt]
def ChM (n:Nat) (ops:List OpM) (L M:List Bool) (ch:Bool) (k:Nat):Prop:=(ch=true->offs M<offs L)/\(ch=false->M=L/\∀j,j<k->∀o,ops[j]?=some o->∀i,i<o.2.length->OkE n M o i)
def ChN (n:Nat) (ops:List OpM) (L M:List Bool) (ch:Bool) (k q:Nat) (op:OpM):Prop:=(ch=true->offs M<offs L)/\(ch=false->M=L/\(∀j,j<k->∀o,ops[j]?=some o->∀i,i<o.2.length->OkE n M o i)/\∀i,i<q->OkE n M op i)
theorem qal (cs:List Value) (x:qi) (g n c base:Nat) (J:List Bool) (wa w:World) (h:qf.rd wa cs x) (hx:AlgP x) (hn:x.1=(n:Int)) (hT:Below wa.heap.size wa w) (Y:wa.heap.size<=base) (f:w.ownsRow base 4 1 (.slice (some ⟨g,0,none⟩) n c) n (bls J)) (hl0:J.length=n):
  Calls Tryz.prog 179 #[.agg cs.toArray,.slice (some ⟨g,0,none⟩) n c] w fun e w'=>∃L,e=.returned (.slice (some ⟨g,0,none⟩) n c)/\w'.ownsRow base 4 1 (.slice (some ⟨g,0,none⟩) n c) n (bls L)/\L.length=n/\(∀y,y<n->gB L y=clB n x.2 (gB J) y)/\w.grownBy w' (some g):=by
 obtain⟨a,l⟩:=x;obtain⟨hx1,hx2,hx3,O⟩:=hx;simp only at hx1 hx2 hx3 O hn;subst hn;rw[za1]at O;have hn0:0<n:=by omega
 have hn8:n<=8:=by omega
 obtain⟨B,m,d,rfl,-,qo⟩:=qv h;have HML:=zaa qo.len;have HOPS:=zaa O;have hm4:m<=4:=by rw[<-qo.len];exact hx3
 have hgl:=f.lt g rfl;obtain⟨w0,hw0,T0,hsz0,BP⟩:=q16 w #[.int .i64 (n:Int),.slice B m d] 24;have HW0:=zaa hw0;have G:=ql f T0;have HB:=zaa Y;have hgw:(some w.heap.size)≠some g:=fun e=>by injection e with e;omega
 have HT0:Hid (w.grownBy w0 (some g)):=qlu T0;have W:Hid (∀D,w0.grownBy D (some g)->Below wa.heap.size wa D):=fun D hz=>(q9 hT T0 rfl).grown hz (zbb hT.size T0.size) fun k hk=>by injection hk with hk;subst hk;exact zbb Y hgl.1
 have HBP:Hid (∀D,w0.grownBy D (some g)->D.cell? ⟨w.heap.size,0,none⟩=some (.int .i64 (n:Int))/\D.cell? ⟨w.heap.size,1,none⟩=some (.slice B m d)):=fun D hz=>by
  have:=BP.grown hz hgw;obtain⟨h0,h1⟩:=cl2 this;exact⟨h0,h1⟩
 clear hw0 hsz0 f hx3 O h hT Y
 go_enter Tryz.func179,Tryz.ntmps179
 go_upto_region 1 with fail;rw[<-HW0.out];go_wp2_with fail
 go_loopw [5] (fun s wr=>∃(L:List Bool) (C:Bool),s=.bool C/\Hid (ClI n l J L)/\wr.ownsRow base 4 1 (.slice (some ⟨g,0,none⟩) n c) n (bls L)/\w0.grownBy wr (some g)/\Hid (C=false->∀o∈l,∀i,i<o.2.length->OkE n L o i)) (fun s wr=>2*offW wr g n+qnx s)
 case atStart=>exact⟨J,true,rfl,ClI.start hl0,G,q46 _ _,fun h=>by cases h⟩
 case round=>
  clear G;obtain⟨L,C,rfl,u,f,K,HCH⟩:=hrel;have HMS:Hid (offW wr g n=offs L):=qgu f u.out.len
  rcases C with _|_
  .have HD:Hid (∀y,y<n->gB L y=clB n l (gB J) y):=fun y hy=>u.out.done (HCH.out rfl) hy
   go_wp2_with fail;go_ret;exact⟨rfl,L,f,u.out.len,HD.out,q3r HT0.out K⟩
  .have kP1:=(HBP.out _ K).2
   obtain⟨ws,HWS⟩:∃ws:World,ws=wr:=⟨_,rfl⟩;subst HWS;have HS0:Hid (ChM n l L L false 0):=id (zap (fun h=>by cases h) fun _=>zap rfl fun j hj=>absurd hj (by omega));go_wp2_with fail;clear kP1
   go_loopw [5,14] (fun s i wr=>∃(k:Nat) (M:List Bool) (C:Bool),k<=m/\i=.int .i64 k/\s=.bool C/\Hid (ClI n l J M)/\wr.ownsRow base 4 1 (.slice (some ⟨g,0,none⟩) n c) n (bls M)/\w0.grownBy wr (some g)/\Hid (ChM n l L M C k)) (fun _ i _=>m - (intOf i).toNat)
   case atStart=>exact⟨0,L,false,zah _,rfl,rfl,u,f,K,HS0⟩
   case round=>
    clear f K u;obtain⟨k,M,C,hk,rfl,rfl,u,f,K,p⟩:=hrel
    by_cases hlt:k<m
    .have hk0:(0:Int)<=(k:Int):=by omega
     have hk1:(k:Int)<(m:Int):=by omega
     obtain⟨b,o,vs,op,rfl,-,hc,hr,-,hxo⟩:=qo.at hlt;obtain⟨B',I,d',rfl,-,qt⟩:=rdOp hr;have N:=HOPS.out op (zaf hxo);obtain⟨E,S,rfl,har⟩:=q7z N;have HXO:=zaa hxo;have HTL:Hid (I=n ^ E):=by show _=_;rw[<-qt.len];have:=N.2.2.1;simpa using this
     have HTB:Hid (S.length=I):=qt.len;have HTV:=zaa N.2.2.2;have cc0:=qe (W.out _ K) (hc 0 _ rfl);have cc1:=qe (W.out _ K) (hc 1 _ rfl);have hm512:I<=4096:=by rw[HTL.out];exact q3n hn8 (by omega)
     obtain⟨w1,hw1,T1,hsz1,BX⟩:=q16 wr #[.int .i64 (E:Int),.slice B' I d'] 122;have HW1:=zaa hw1;have hg1:=(f.lt g rfl);have hG1:w0.grownBy w1 (some g):=q3r K (qlu T1);have H:=ql f T1;have hgx:(some wr.heap.size)≠some g:=fun e=>by injection e with e;omega
     have HBX:Hid (∀D,w1.grownBy D (some g)->D.cell? ⟨wr.heap.size,0,none⟩=some (.int .i64 (E:Int))/\D.cell? ⟨wr.heap.size,1,none⟩=some (.slice B' I d')):=fun D hz=>by
      have:=BX.grown hz hgx;obtain⟨h0,h1⟩:=cl2 this;exact⟨h0,h1⟩
     have kX1:=(HBX.out _ (q46 _ _)).2;clear hc hr hw1 hsz1 hxo f N;have cc0':wr.cell? ⟨b,o+k*2,none⟩=some (.int .i64 (E:Int)):=cc0;have cc1':wr.cell? ⟨b,o+k*2+1,none⟩=some (.slice B' I d'):=cc1;clear cc0 cc1;go_wp2_with fail;rw[<-HW1.out];go_wp2_with fail;clear kX1 cc0' cc1';have HS1:Hid (ChN n l L M C k 0 ((E:Int),S)):=id (zap p.out.1 fun h=>zap (p.out.2 h).1 (zap (p.out.2 h).2 fun i Q=>absurd Q (by omega)))
     go_loopw [5,21] (fun s i wi=>∃(q:Nat) (t:List Bool) (r:Bool),q<=I/\i=.int .i64 q/\s=.bool r/\Hid (ClI n l J t)/\wi.ownsRow base 4 1 (.slice (some ⟨g,0,none⟩) n c) n (bls t)/\w1.grownBy wi (some g)/\Hid (ChN n l L t r k q ((E:Int),S))) (fun _ i _=>I - (intOf i).toNat)
     case atStart=>exact⟨0,M,C,zah _,rfl,rfl,u,H,q46 _ _,HS1⟩
     case round=>
      clear H u p;obtain⟨q,t,r,hq,rfl,rfl,u,f,F,p⟩:=hrel;have X:w0.grownBy wr (some g):=q3r hG1 F
      by_cases hlq:q<I
      .have hq0:(0:Int)<=(q:Int):=by omega
       have hq1:(q:Int)<(I:Int):=by omega
       obtain⟨b3,o3,u3,v,rfl,hc3,⟨rfl,-,-⟩,-,P⟩:=(qt.next qd (W.out _ X)).at hlq;have hvi:=HTV.out v (zaf P);obtain⟨y,rfl⟩:=zam hvi.1;have hyn:y<n:=by omega
       have HXV:=zaa P;have HNM:Hid (nmAt S q=y):=by show _=_;rw[q1t P];simp
       have hll:=u.out.len;have Z:wr.cell? ⟨g,y,none⟩=some (.bool (gB t y)):=by rw[f.cellAt y (by omega),q64 (by omega)]
       have hy0:(0:Int)<=(y:Int):=by omega
       have hy1:(y:Int)<(n:Int):=by omega
       have kP0:=(HBP.out _ X).1;have kX0:=(HBX.out _ F).1;obtain⟨bv,U⟩:∃b,Hid (gB t y=b):=⟨_,rfl⟩;rw[U.out]at Z;clear P hvi
       rcases bv with _|_
       .have HC:=zaa (qiv (some ⟨g,0,none⟩) n c E q t wr (q14 (R:=RB) f (fun z _=>rfl)) hn0 (by omega) (by omega) (by omega))
        obtain⟨al,T⟩:∃b,Hid (AllM n E q t=b):=⟨_,rfl⟩;rw[T.out]at HC;have hfz:=f.frozenAt y;have hst:=(f.stored y (.bool true)).1;rw[q78]at hst;have HST:=zaa hst;have HOW:=zaa f;clear hst f;go_wp2_with fail;refine HC.out.mono ?_;rintro e w3 ⟨rfl,rfl⟩
        rcases al with _|_
        .have A:Hid (ChN n l L t r k (q+1) ((E:Int),S)):=id ⟨p.out.1,fun h=>⟨(p.out.2 h).1,(p.out.2 h).2.1,fun i Q=>by
          by_cases e:i=q
          .subst e
           intro hA;have:=T.out;simp only[za1]at hA;rw[hA]at this;cases this
          .exact(p.out.2 h).2.2 i (by omega)⟩⟩
         go_wp2_with fail
         go_roundw
         case rel=>exact⟨q+1,t,r,by omega,by go_num,rfl,u,HOW.out,F,A⟩
         case measure=>simp[intOf];try omega
        .have V:Hid (ClI n l J (t.set y true)):=u.out.mark hn0 (zaf HXO.out) HXV.out hyn (by simpa using T.out)
         have A:Hid (ChN n l L (t.set y true) true k (q+1) ((E:Int),S)):=id ⟨fun _=>by
          have h1:=qgv (L:=t) (x:=y) (by rw[qlt (by omega),U.out])
          rcases r with _|_
          .rw[(p.out.2 rfl).1]at h1⊢;omega
          .have:=p.out.1 rfl;omega,fun h=>by cases h⟩
         go_wp2_with fail
         go_roundw
         case rel=>exact⟨q+1,t.set y true,true,by omega,by go_num,rfl,V,HST.out,qnd F rfl _,A⟩
         case measure=>simp[intOf];try omega
       .have A:Hid (ChN n l L t r k (q+1) ((E:Int),S)):=id ⟨p.out.1,fun h=>⟨(p.out.2 h).1,(p.out.2 h).2.1,fun i Q=>by
         by_cases e:i=q
         .subst e
          intro _;show gB t (nmAt S i)=true
          rw[HNM.out,U.out]
         .exact(p.out.2 h).2.2 i (by omega)⟩⟩
        go_wp2_with fail
        go_roundw
        case rel=>exact⟨q+1,t,r,by omega,by go_num,rfl,u,f,F,A⟩
        case measure=>simp[intOf];try omega
      .have hq1:¬(q:Int)<(I:Int):=by omega
       have A:Hid (ChM n l L t r (k+1)):=id ⟨p.out.1,fun h=>⟨(p.out.2 h).1,fun j hj o ho i Q=>by
        by_cases e:j=k
        .subst e
         rw[HXO.out]at ho;injection ho with ho
         subst ho;exact(p.out.2 h).2.2 i (by have:=HTB.out;simp only at Q;omega)
        .exact(p.out.2 h).2.1 j (by omega) o ho i Q⟩⟩
       go_wp2_with fail
       go_roundw
       case rel=>exact⟨k+1,t,r,by omega,by go_num,rfl,u,f,X,A⟩
       case measure=>simp[intOf];try omega
    .have hk1:¬(k:Int)<(m:Int):=by omega
     have V:=u;have HFIN:Hid (C=false->∀o∈l,∀i,i<o.2.length->OkE n M o i):=fun h o ho i Q=>by
      obtain⟨j,hj⟩:=zbh ho;have hjl:=(zag.1 hj).1;exact(p.out.2 h).2 j (by rw[HML.out]at hjl;omega) o hj i Q
     have HMS2:Hid (offW wr g n=offs M):=qgu f u.out.len;go_wp2_with fail
     go_roundw
     case rel=>exact⟨M,C,rfl,V,f,K,HFIN⟩
     case measure=>
      show 2*offW wr g n+qnx (.bool C)<2*offW _ g n+qnx (.bool true)
      rw[HMS2.out,HMS.out]
      rcases C with _|_
      .have:=(p.out.2 rfl).1
       subst this;show 2*offs M+0<2*offs M+1
       omega
      .have:=p.out.1 rfl
       show 2*offs M+1<2*offs L+1
       omega
theorem qo0 {n:Nat} {ops:List OpM} {S:List Int} (a:n<=1048576):∀v∈genL n ops S, -9223372036854775808<=v/\v<=9223372036854775807:=qmc n _ a
theorem q66 (cs:List Value) (x:qi) (A:Option Addr) (m c:Nat) (S:List Int) (w:World) (h:qf.rd w cs x) (F:AlgP x) (u:RdL RI w A m S) (hS:∀v∈S,0<=v/\v<=x.1 - 1):
  Calls Tryz.prog 132 #[.agg cs.toArray,.slice A m c] w (OwI w (genL x.1.toNat x.2 S)):=by
 have C:=h;obtain⟨B,k,d,rfl,-,qo⟩:=qv h;obtain⟨n,H⟩:∃n:Nat,x.1=(n:Int):=⟨x.1.toNat,by have:=F.1;omega⟩;have o:=zaa H;have hn8:n<=8:=by have:=F.2.1;omega
 have hn0:0<n:=by have:=F.1;omega
 have I:Hid (x.1.toNat=n):=by show _=_;omega
 obtain⟨i,E,G,D,T⟩:=q16 w #[.int .i64 x.1,.slice B k d] 24;have p:=zaa E;rw[H]at p T hS;obtain⟨K,M⟩:=cl2 T;have HX:=zaa F;have J:=zaa (qf.stab C G.block);have Z:=zaa hS;have U:=u.next qd G;have X:Hid (∀f,Below i.heap.size i f->Calls Tryz.prog 180 #[.slice A m c,.int .i64 (n:Int)] f fun e w'=>e=.returned (.slice (some ⟨f.heap.size,0,none⟩) n n)/\w'.ownsRow f.heap.size 4 1 (.slice (some ⟨f.heap.size,0,none⟩) n n) n (bls (inL n S))/\Below f.heap.size f w'):=fun f Q=>qjw A m c n S f (U.next qd Q) Z.out (by omega)
 have W:Hid (∀(g b:Nat) (f:World),Below i.heap.size i f->i.heap.size<=b->f.ownsRow b 4 1 (.slice (some ⟨g,0,none⟩) n n) n (bls (inL n S))->Calls Tryz.prog 179 #[.agg #[.int .i64 (n:Int),.slice B k d],.slice (some ⟨g,0,none⟩) n n] f fun e w'=>∃L,e=.returned (.slice (some ⟨g,0,none⟩) n n)/\w'.ownsRow b 4 1 (.slice (some ⟨g,0,none⟩) n n) n (bls L)/\L.length=n/\(∀y,y<n->gB L y=clB n x.2 (gB (inL n S)) y)/\f.grownBy w' (some g)):=fun g b f Q hb ho=>by
  have:=qal _ x g n n b (inL n S) i f J.out HX.out o.out Q hb ho (q5f _ _);rw[o.out]at this;exact this
 rw[I.out];rw[H];have a:Below i.heap.size i i:=zab _ _;clear E D C qo h F u hS H U
 go_enter Tryz.func132,Tryz.ntmps132
 go_upto_region 1 with fail;rw[<-p.out]
 go_region_held3 (fun w'=>w'.cell? ⟨w.heap.size,0,none⟩=some (.int .i64 (n:Int))/\w'.cell? ⟨w.heap.size,1,none⟩=some (.slice B k d)) (first|go_keep|exact⟨qe a K,qe a M⟩) (first
  |(go_at_call 180;(refine(X.out _ ?_).mono ?_);(first|exact a|exact zai a);rintro e wm ⟨rfl,l,P⟩;replace l:=qh (base':=i.heap.size) l (by exact a.size);replace a:=q9 (by first|exact a|exact zai a) P rfl)
  |(go_at_call 179;(refine(W.out _ i.heap.size _ ?_ (zad _) ?_).mono ?_);(first|exact a|exact zai a);(exact l);rintro e wc ⟨L,rfl,t,hlc,q,s⟩;replace a:=Below.grown (by first|exact a|exact zai a) s (by exact a.size) (fun r u=>by injection u with u;have:=l.lt _ rfl;omega);have N:q1n n (gB L)=genL n x.2 S:=q1x q)
  |(go_at_call 178;(refine(qbc _ n n L _ (by exact q14 (R:=RB) t (fun z _=>rfl)) (by omega)).mono ?_);rintro e wd ⟨V,c5,rfl,j,O⟩;replace j:=qh (base':=i.heap.size) j (by exact a.size);replace a:=q9 (by first|exact a|exact zai a) O rfl))
 all_goals
  rw[N]at j;have HE:=zaa N;have Y:=zaa j;clear j N t l s q;go_wp2_with fail;go_ret;exact⟨V,c5,rfl,qh Y.out G.size,q9 G (by first|exact a|exact zai a) rfl⟩
theorem qjh (cs:List Value) (x:qi) (A:Option Addr) (m c:Nat) (S:List Int) (w:World) (h:qf.rd w cs x) (u:AlgP x) (E:RdL RI w A m S):
  Calls Tryz.prog 128 #[.agg cs.toArray,.slice A m c] w (Bl w (.bool (subB x.1.toNat x.2 S))):=by
 have r:=h;obtain⟨B,k,d,rfl,-,qo⟩:=qv h;obtain⟨n,D⟩:∃n:Nat,x.1=(n:Int):=⟨x.1.toNat,by have:=u.1;omega⟩;have H:=zaa D;have J:n<=8:=by have:=u.2.1;omega
 have aa:0<n:=by have:=u.1;omega
 have i:Hid (x.1.toNat=n):=by show _=_;omega
 have T:=E.le;have U:=zaa E.len;obtain⟨y,t,p,s,N⟩:=q16 w #[.int .i64 x.1,.slice B k d] 24;have o:=zaa t;have j:Hid (∀M,Below y.heap.size y M->qf.rd M [.int .i64 x.1,.slice B k d] x):=fun M hz=>qf.stab (qf.stab r p.block) hz.block
 rw[D]at o N j;obtain⟨W,X⟩:=cl2 N;have V:=zaa u;have L:=E.next qd p;have O:=zaa (q3y A m c S (n:Int) y L);have P:=zaa (qej A m c S y L);obtain⟨Q,a⟩:∃b,Hid (q1v 0 ((n:Int) - 1) S=b):=⟨_,rfl⟩;obtain⟨R,f⟩:∃b,Hid (q20 S=b):=⟨_,rfl⟩;rw[a.out]at O;rw[f.out]at P;have C:Hid (subB n x.2 S=((Q &&R) &&decide ((genL n x.2 S).length=m))):=by show _=_;unfold subB;rw[a.out,f.out,U.out]
 rw[i.out];rw[D];clear t s r qo h u E D
 go_enter Tryz.func128,Tryz.ntmps128
 go_upto_region 1 with fail;rw[<-o.out];go_wp2_with fail;refine O.out.mono ?_;rintro e w1 ⟨rfl,rfl⟩
 rcases Q with _|_
 .go_wp2_with fail
  go_ret;exact⟨qg (by rw[C.out];rfl),p⟩
 go_wp2_with fail;refine P.out.mono ?_;rintro e w1 ⟨rfl,z,rfl⟩
 rcases R with _|_
 .go_wp2_with fail
  go_ret;exact⟨qg (by rw[C.out];rfl),qc p z⟩
 have q:∀v∈S,0<=v/\v<=x.1 - 1:=fun v hv=>by rw[H.out];exact q4n.1 a.out v hv
 have F:=zaa (q66 _ x A m c S (y.drewN z) (j.out _ (qc (zab _ _) z)) V.out (L.drewN qd z) q);rw[i.out]at F;obtain⟨Y,g⟩:∃l,Hid (genL n x.2 S=l):=⟨_,rfl⟩;have G:Hid (Y.length<=8):=by show _<=8;rw[<-g.out];exact zbb (q3t _ _) J
 rw[g.out]at F C;have Z:=G.out;clear q;go_wp2_with fail;refine F.out.mono ?_;rintro e w2 ⟨A2,c2,rfl,K,I⟩;clear K;go_wp2_with fail;go_ret;exact⟨qg (by rw[C.out,zdt,zdt,zcd];simp;try omega),q9 p ((qc (zab _ _) z).trans I) rfl⟩
theorem qc2 {p:List Int} {i:Nat} {v:Int} (h:p[i]?=some v):p.getD i 0=v:=by rw[zan,h];rfl
theorem qgx {p:List Int} {k:Nat} {x z:Int} {y:Nat} (h:∀i,i<k->ParI p i) (b:p[k]?=some x) (c:0<=x) (l:x<=(k:Int)) (f:x=(y:Int)) (a:p[y]?=some z):ParI p k↔z=x:=by
 have d:nmAt p k=y:=by rw[q1t b,f];simp
 have g:0<=z:=by
  by_cases e:y=k
  .subst e;rw[b]at a;injection a with a;omega
  .have:=(h y (by omega)).1
   rwa [qc2 a]at this
 unfold ParI;rw[qc2 b,d,q1t a];constructor
 .rintro⟨-,-,j⟩;omega
 .rintro rfl;exact⟨c,by omega,by omega⟩
theorem q9s (A:Option Addr) (n m c:Nat) (p:List Int) (w:World) (h:RdL RI w A m p) (M:n<=1000):
  Calls Tryz.prog 176 #[.int .i64 n,.slice A m c] w fun e w'=>e=.returned (.bool (tt (ParP n p)))/\w=w':=by
 have H:=h.le;have r:=zaa h.len
 by_cases hnm:m=n
 rotate_left
 .have q:((m:Int) !=(n:Int))=true:=by rw[bne_iff_ne];omega
  go_enter Tryz.func176,Tryz.ntmps176
  go_wp2
  go_ret;exact⟨qg (q2g fun a=>hnm (by rw[<-r.out];exact a.1)),rfl⟩
 subst hnm;have q:((m:Int) !=(m:Int))=false:=by simp
 go_enter Tryz.func176,Tryz.ntmps176
 go_wp2
 go_loop [13] (fun i=>∃k:Nat,k<=m/\i=.int .i64 k/\Hid (∀i,i<k->ParI p i)) (fun i=>m - (intOf i).toNat)
 case atStart=>exact⟨0,zah _,rfl,fun i j=>absurd j (by omega)⟩
 case round=>
  obtain⟨k,L,rfl,d⟩:=hrel
  by_cases hlt:k<m
  .have G:(0:Int)<=(k:Int):=by omega
   have l:(k:Int)<(m:Int):=by omega
   obtain⟨b,o,u,x,rfl,K,⟨rfl,-,-⟩,-,v⟩:=h.at hlt;have g:=zaa v;clear v
   by_cases hx0:x<0
   .go_wp2
    go_ret;exact⟨qg (q2g fun a=>by have:=(a.2 k hlt).1;rw[qc2 g.out]at this;omega),rfl⟩
   .by_cases hxk:(k:Int)<x
    .go_wp2
     go_ret;exact⟨qg (q2g fun a=>by have:=(a.2 k hlt).2.1;rw[q1t g.out]at this;omega),rfl⟩
    .obtain⟨y,rfl⟩:=zam (show 0<=x by omega)
     obtain⟨u2,z,F,⟨rfl,-,-⟩,-,B⟩:=h.at' (k:=y) (by omega);have s:=zaa (qgx d.out g.out (by omega) (by omega) rfl B);have I:(0:Int)<=(y:Int):=by omega
     have J:(y:Int)<(m:Int):=by omega
     clear B
     rcases hb:(z !=(y:Int))with _|_
     .have f:Hid (∀i,i<k+1->ParI p i):=fun i j=>by
       by_cases e:i=k
       .subst e;exact s.out.2 (by simpa using hb)
       .exact d.out i (by omega)
      go_wp2
      go_round
      case rel=>exact⟨k+1,by omega,by go_num,f⟩
      case measure=>simp[intOf];try omega
     .have C:=zaa hb
      go_wp2
      go_ret
      exact⟨qg (q2g fun a=>by
       have E:=s.out.1 (a.2 k hlt);have t:=C.out;rw[E]at t
       simp at t),rfl⟩
  .have l:¬(k:Int)<(m:Int):=by omega
   have D:Hid (ParP m p):=⟨r.out,fun i j=>d.out i (by omega)⟩
   go_wp2
   go_ret;exact⟨qg (q6i D.out),rfl⟩
theorem q68 (A:Option Addr) (n m c:Nat) (p:List Int) (w:World) (h:RdL RI w A m p) (Q:n<=1000):
  Calls Tryz.prog 103 #[.int .i64 n,.slice A m c] w (Qt w (.bool (tt (ParP n p)))):=by
 have L:=h.le;have D:=zaa h.len
 by_cases hnm:m=n
 rotate_left
 .have C:((m:Int) !=(n:Int))=true:=by rw[bne_iff_ne];omega
  go_enter Tryz.func103,Tryz.ntmps103
  go_wp2
  go_ret;exact⟨qg (q2g fun d=>hnm (by rw[<-D.out];exact d.1)),(by first|exact Drawn.zero _|exact Drawn.at_ _ _|exact(Drawn.at_ _ _).more _|exact((Drawn.at_ _ _).more _).more _)⟩
 subst hnm;have C:((m:Int) !=(m:Int))=false:=by simp
 go_enter Tryz.func103,Tryz.ntmps103
 go_wp2
 go_loopw [5] (fun i wr=>∃k:Nat,k<=m/\i=.int .i64 k/\Hid (∀i,i<k->ParI p i)/\Drawn w wr) (fun i _=>m - (intOf i).toNat)
 case atStart=>exact⟨0,zah _,rfl,(fun i v=>absurd v (by omega)),Drawn.zero _⟩
 case round=>
  obtain⟨k,P,rfl,l,R,rfl⟩:=hrel
  by_cases hlt:k<m
  .have K:(0:Int)<=(k:Int):=by omega
   have B:(k:Int)<(m:Int):=by omega
   obtain⟨b,o,u,x,rfl,O,⟨rfl,-,-⟩,-,F⟩:=h.at hlt;have s:=zaa F;clear F
   rcases hin:inB x 0 (k:Int)with _|_
   .have a:=zaa hin
    have g:¬(0<=x/\x<=(k:Int)):=fun d=>by unfold inB at hin;simp[d.1,d.2]at hin
    have q:=zaa g;clear hin g
    go_wp2
    go_quiet ((go_at_call 68;first|exact q1k (q2v a.out)|exact q1e (q2v a.out)))
    go_wp2
    go_ret
    exact⟨qg (q2g fun d=>q.out (by
     have t:=(d.2 k hlt).1;have j:=(d.2 k hlt).2.1;rw[qc2 s.out]at t;rw[q1t s.out]at j
     omega)),(by first|exact Drawn.zero _|exact Drawn.at_ _ _|exact(Drawn.at_ _ _).more _|exact((Drawn.at_ _ _).more _).more _)⟩
   .have a:=zaa hin
    have f:0<=x/\x<=(k:Int):=by unfold inB at hin;simpa using hin
    clear hin;obtain⟨y,rfl⟩:=zam f.1;obtain⟨u2,z,J,⟨rfl,-,-⟩,-,G⟩:=h.at' (k:=y) (by omega);have E:=zaa (qgx l.out s.out (by omega) (by omega) rfl G);have M:(0:Int)<=(y:Int):=by omega
    have N:(y:Int)<(m:Int):=by omega
    clear G f
    rcases hb:(z !=(y:Int))with _|_
    .have r:Hid (∀i,i<k+1->ParI p i):=fun i v=>by
      by_cases e:i=k
      .subst e;exact E.out.2 (by simpa using hb)
      .exact l.out i (by omega)
     go_wp2
     go_quiet ((go_at_call 68;first|exact q1k (q2v a.out)|exact q1e (q2v a.out)))
     go_wp2
     go_roundw
     case rel=>exact⟨k+1,by omega,by go_num,r,(by first|exact Drawn.zero _|exact Drawn.at_ _ _|exact(Drawn.at_ _ _).more _|exact((Drawn.at_ _ _).more _).more _)⟩
     case measure=>simp[intOf];try omega
    .have H:=zaa hb
     go_wp2
     go_quiet ((go_at_call 68;first|exact q1k (q2v a.out)|exact q1e (q2v a.out)))
     go_wp2
     go_ret
     exact⟨qg (q2g fun d=>by
      have t:=E.out.1 (d.2 k hlt);have j:=H.out;rw[t]at j
      simp at j),(by first|exact Drawn.zero _|exact Drawn.at_ _ _|exact(Drawn.at_ _ _).more _|exact((Drawn.at_ _ _).more _).more _)⟩
  .have B:¬(k:Int)<(m:Int):=by omega
   have I:Hid (ParP m p):=⟨D.out,fun i v=>l.out i (by omega)⟩
   go_wp2
   go_ret;exact⟨qg (q6i I.out),(by first|exact Drawn.zero _|exact Drawn.at_ _ _|exact(Drawn.at_ _ _).more _|exact((Drawn.at_ _ _).more _).more _)⟩
def mixU (p:List Int) (x y k:Nat):List Int:=(p.take k).map (uniV (nmAt p x) (nmAt p y))++p.drop k
theorem qmg {p:List Int} {x y k:Nat} (h:p.length<=k):mixU p x y k=uniL p x y:=by unfold mixU uniL;rw[zaq h,zbe h,zc3]
theorem qmh (p:List Int) (x y k:Nat):(mixU p x y k).length=p.length:=by unfold mixU;simp;omega
theorem qgq {p:List Int} {x y k:Nat} {v:Int} (h:p[k]?=some v):(mixU p x y k)[k]?=some v:=by
 have a:=(zag.1 h).1;unfold mixU;rw[za9 (by simp;omega)];simp[show min k p.length=k by omega,h]
theorem qe5 {p:List Int} {x y k:Nat} {v:Int} (h:p[k]?=some v):(mixU p x y k).set k (uniV (nmAt p x) (nmAt p y) v)=mixU p x y (k+1):=by
 have a:=(zag.1 h).1;unfold mixU;have e:p.drop k=v::p.drop (k+1):=by rw[zbd a,(zag.1 h).2]
 rw[zd1 _ _ (by simp;omega),e,zbj,h];simp[show min k p.length=k by omega]
theorem qjz {p:List Int} {x y k:Nat} {v:Int} (h:p[k]?=some v) (b:uniV (nmAt p x) (nmAt p y) v=v):mixU p x y (k+1)=mixU p x y k:=by
 rw[<-qe5 h,b];apply zcp;intro i;rw[zck]
 by_cases e:k=i
 .subst e
  have a:=(zag.1 h).1;rw[zao rfl,zao (by rw[qmh];exact a),qgq h]
 .rw[zaj e]
theorem qhz (a b r:Int) (w:World) (c:(a<=b/\r=b)\/(b<=a/\r=a)):Calls Tryz.prog 198 #[.int .i64 a,.int .i64 b] w fun e w'=>e=.returned (.int .i64 r)/\w=w':=by
 by_cases h:b<a
 .obtain rfl:r=a:=by omega
  clear c
  go_enter Tryz.func198,Tryz.ntmps198
  go_wp2
  go_ret;exact⟨rfl,rfl⟩
 .obtain rfl:r=b:=by omega
  clear c
  go_enter Tryz.func198,Tryz.ntmps198
  go_wp2
  go_ret;exact⟨rfl,rfl⟩
theorem q80 {w:World} {base g n c:Nat} {p:List Int} (h:w.ownsRow base 3 1 (.slice (some ⟨g,0,none⟩) n c) n (ints p)) {x:Nat} {v:Int} (a:p[x]?=some v) (b:x<n):w.cell? ⟨g,x,none⟩=some (.int .i64 v):=by
 rw[h.cellAt x (by omega)];unfold ints;rw[za6,a];rfl
theorem qeu (g n c base:Nat) (p:List Int) (x y:Nat) (w:World) (d:w.ownsRow base 3 1 (.slice (some ⟨g,0,none⟩) n c) n (ints p)) (E:ParP n p) (S:x<n) (T:y<n) (hn:n<=1000):
  Calls Tryz.prog 193 #[.slice (some ⟨g,0,none⟩) n c,.int .i64 x,.int .i64 y] w fun e w'=>e=.returned (.bool (!(decide (nmAt p x=nmAt p y))))/\w'.ownsRow base 3 1 (.slice (some ⟨g,0,none⟩) n c) n (ints (uniL p x y))/\w.grownBy w' (some g):=by
 obtain⟨a,z⟩:∃a,Hid (nmAt p x=a):=⟨_,rfl⟩;obtain⟨b,A⟩:∃b,Hid (nmAt p y=b):=⟨_,rfl⟩;have s:=E.at S;have t:=E.at T;rw[z.out]at s;rw[A.out]at t;have M:=q80 d s.1 S;have N:=q80 d t.1 T;have R:=zaa E;have ac:(0:Int)<=(x:Int):=by omega
 have ad:(x:Int)<(n:Int):=by omega
 have ae:(0:Int)<=(y:Int):=by omega
 have af:(y:Int)<(n:Int):=by omega
 have X:a<=1000:=by omega
 have Y:b<=1000:=by omega
 clear s t E
 by_cases hab:a=b
 .have hd:((a:Int)==(b:Int))=true:=by rw[zdp];omega
  have V:Hid (uniL p x y=p):=qd0 (by rw[z.out,A.out];exact hab);have F:Hid (decide (nmAt p x=nmAt p y)=true):=by show _=_;rw[z.out,A.out];exact zbm hab
  go_enter Tryz.func193,Tryz.ntmps193
  go_wp2_with fail
  go_quiet (fail)
  go_wp2_with fail;go_ret;exact⟨qg (by rw[F.out];rfl),by rw[V.out];exact d,by first|exact q46 _ _|exact q99 (q46 _ _) _⟩
 have hd:((a:Int)==(b:Int))=false:=by rw[zbi];omega
 have F:Hid (decide (nmAt p x=nmAt p y)=false):=by show _=_;rw[z.out,A.out];exact zbn hab
 obtain⟨o,r⟩:∃l,Hid (min a b=l):=⟨_,rfl⟩;obtain⟨m,q⟩:∃l,Hid (max a b=l):=⟨_,rfl⟩;have Q:Hid (∀v:Int,uniV (nmAt p x) (nmAt p y) v=if v=(m:Int)then(o:Int)else v):=fun v=>by
  rw[z.out,A.out,<-r.out,<-q.out];unfold uniV
  by_cases h:a<=b
  .rw[zao (show(a:Int)<=(b:Int)by omega),zao (show(a:Int)<=(b:Int)by omega),zeg h,Nat.max_eq_right h]
  .rw[zaj (show ¬(a:Int)<=(b:Int)by omega),zaj (show ¬(a:Int)<=(b:Int)by omega),Nat.min_eq_right (by omega),Nat.max_eq_left (by omega)]
 go_enter Tryz.func193,Tryz.ntmps193
 go_wp2_with fail
 go_quiet (fail)
 go_upto_if 21 with fail
 go_cut [1,2,21]from 22 to 23 (fun u1 u2 _ wx=>u1=.int .i64 (o:Int)/\u2=.int .i64 (m:Int)/\w.grownBy wx (some g)/\wx.ownsRow base 3 1 (.slice (some ⟨g,0,none⟩) n c) n (ints p))
 case first=>
  by_cases hlt:b<a
  .have J:o=b:=by have:=r.out;omega
   have K:m=a:=by have:=q.out;omega
   subst J;subst K;have D:(o:Int)<(m:Int):=by omega
   go_wp2_with fail;go_meet;exact⟨rfl,rfl,by first|exact q46 _ _|exact q99 (q46 _ _) _,d⟩
  .have J:o=a:=by have:=r.out;omega
   have K:m=b:=by have:=q.out;omega
   subst J;subst K;have D:¬(m:Int)<(o:Int):=by omega
   go_wp2_with fail;go_meet;exact⟨rfl,rfl,by first|exact q46 _ _|exact q99 (q46 _ _) _,d⟩
 case rest=>
  obtain⟨rfl,rfl,C,f⟩:=hcut;obtain⟨w1,I⟩:∃wq:World,wq=wc:=⟨_,rfl⟩;subst I;clear M N d;go_wp2_with fail
  go_loopw [26] (fun i wr=>∃k:Nat,k<=n/\i=.int .i64 k/\wr.ownsRow base 3 1 (.slice (some ⟨g,0,none⟩) n c) n (ints (mixU p x y k))/\w.grownBy wr (some g)) (fun i _=>n - (intOf i).toNat)
  case atStart=>exact⟨0,zah _,rfl,f,C⟩
  case round=>
   clear f C;obtain⟨k,hk,rfl,d,L⟩:=hrel
   by_cases hlt:k<n
   .have ab:(0:Int)<=(k:Int):=by omega
    have P:(k:Int)<(n:Int):=by omega
    have j:=(R.out.at hlt).1;obtain⟨v,W⟩:∃v,Hid (nmAt p k=v):=⟨_,rfl⟩;rw[W.out]at j;have B:=zaa j;have Z:=q80 d (qgq j) hlt;have aa:=d.frozenAt k;have u:=(d.stored k (.int .i64 (o:Int))).1;rw[q2a]at u;have H:=zaa u;clear j u
    by_cases hvh:v=m
    .subst hvh
     have G:Hid ((mixU p x y k).set k (o:Int)=mixU p x y (k+1)):=by
      show _=_
      rw[<-qe5 B.out,Q.out,zao rfl]
     have O:((v:Int)==(v:Int))=true:=by simp
     go_wp2_with fail
     go_roundw
     case rel=>exact⟨k+1,by omega,by go_num,by rw[<-G.out];exact H.out,qnd L rfl _⟩
     case measure=>simp[intOf];try omega
    .have O:((v:Int)==(m:Int))=false:=by rw[zbi];omega
     have G:Hid (mixU p x y (k+1)=mixU p x y k):=qjz B.out (by rw[Q.out,zaj (by omega)]);go_wp2_with fail
     go_roundw
     case rel=>exact⟨k+1,by omega,by go_num,by rw[G.out];exact d,L⟩
     case measure=>simp[intOf];try omega
   .have P:¬(k:Int)<(n:Int):=by omega
    have U:Hid (mixU p x y k=uniL p x y):=qmg (by rw[R.out.1];omega);go_wp2_with fail;go_ret;exact⟨qg (by rw[F.out];rfl),by rw[<-U.out];exact d,L⟩
theorem q9z (A:Option Addr) (n c:Nat) (p:List Int) (x y:Nat) (w:World) (h:RdL RI w A n p) (M:ParP n p) (hx:x<n) (hy:y<n) (hn:n<=1000):
  Calls Tryz.prog 171 #[.slice A n c,.int .i64 x,.int .i64 y] w fun e w'=>∃A' c',e=.returned (.slice A' n c')/\w'.ownsRow w.heap.size 3 1 (.slice A' n c') n (ints (uniL p x y))/\Below w.heap.size w w':=by
 obtain⟨a,Z⟩:∃a,Hid (nmAt p x=a):=⟨_,rfl⟩;obtain⟨b,HB⟩:∃b,Hid (nmAt p y=b):=⟨_,rfl⟩;have B:=M.at hx;have C:=M.at hy;rw[Z.out]at B;rw[HB.out]at C;obtain⟨bb,oo,u1,v1,rfl,U,⟨rfl,-,-⟩,-,m⟩:=h.at hx;obtain⟨u2,v2,V,⟨rfl,-,-⟩,-,q⟩:=h.at' hy;rw[B.1]at m;rw[C.1]at q;injection m with m
 injection q with q
 subst m;subst q;have P:=zaa M;have hxa:(0:Int)<=(x:Int):=by omega
 have hxb:(x:Int)<(n:Int):=by omega
 have hya:(0:Int)<=(y:Int):=by omega
 have hyb:(y:Int)<(n:Int):=by omega
 have han:a<=1000:=by omega
 have hbn:b<=1000:=by omega
 clear B C M;obtain⟨L,t⟩:∃l,Hid (min a b=l):=⟨_,rfl⟩;obtain⟨J,F⟩:∃l,Hid (max a b=l):=⟨_,rfl⟩;have HF:Hid (∀v:Int,uniV (nmAt p x) (nmAt p y) v=if v=(J:Int)then(L:Int)else v):=fun v=>by
  rw[Z.out,HB.out,<-t.out,<-F.out];unfold uniV
  by_cases h:a<=b
  .rw[zao (show(a:Int)<=(b:Int)by omega),zao (show(a:Int)<=(b:Int)by omega),zeg h,Nat.max_eq_right h]
  .rw[zaj (show ¬(a:Int)<=(b:Int)by omega),zaj (show ¬(a:Int)<=(b:Int)by omega),Nat.min_eq_right (by omega),Nat.max_eq_left (by omega)]
 have G:Hid (∀r,Calls Tryz.prog 197 #[.int .i64 (a:Int),.int .i64 (b:Int)] r (Qt r (.int .i64 (L:Int)))):=fun r=>q23 (qff _ _ _ r (by have:=t.out;omega))
 have H:Hid (∀r,Calls Tryz.prog 198 #[.int .i64 (a:Int),.int .i64 (b:Int)] r (Qt r (.int .i64 (J:Int)))):=fun r=>q23 (qhz _ _ _ r (by have:=F.out;omega))
 have hlon:L<=1000:=by have:=t.out;omega
 go_enter Tryz.func171,Tryz.ntmps171
 go_upto_region 1 with fail
 go_quiet ((first
  |(go_at_call 197;first|exact q1k (G.out _)|exact q1e (G.out _))
  |(go_at_call 198;first|exact q1k (H.out _)|exact q1e (H.out _))))
 go_upto_region 2 with fail
 go_cut [9]from 29 to 29 (fun u9 wx=>∃R,u9=.slice (some ⟨R,0,none⟩) 0 0/\wx.ownsRow w.heap.size 3 1 (.slice (some ⟨R,0,none⟩) 0 0) 0 []/\Below w.heap.size w wx)
 case first=>
  go_wp2_with fail;go_meet;exact⟨_,rfl,zby _ #[] 0 (by first|exact zad _|simp) (zah _) rfl,by first|exact qm _ _|exact(qc (zab _ _) _).alloc (zad _) _⟩
 case rest=>
  obtain⟨R,rfl,hO,T9⟩:=hcut;obtain⟨w1,Q⟩:∃wq:World,wq=wc:=⟨_,rfl⟩;subst Q;clear U V;go_wp2_with fail
  go_loopw [9,10] (fun s i wr=>∃(k:Nat) (D:Option Addr) (E:Nat),k<=n/\i=.int .i64 k/\s=.slice D k E/\wr.ownsRow w.heap.size 3 1 (.slice D k E) k (ints ((p.take k).map (uniV (nmAt p x) (nmAt p y))))/\Below w.heap.size w wr) (fun _ i _=>n - (intOf i).toNat)
  case atStart=>exact⟨0,_,_,zah _,rfl,rfl,hO,T9⟩
  case round=>
   clear hO T9;obtain⟨k,D,E,hk,rfl,rfl,g,f⟩:=hrel
   by_cases hlt:k<n
   .have hk0:(0:Int)<=(k:Int):=by omega
    have Y:(k:Int)<(n:Int):=by omega
    have j:=(P.out.at hlt).1;obtain⟨u,v,T,⟨rfl,-,-⟩,-,o⟩:=(h.next qd f).at' hlt;rw[j]at o;injection o with o
    subst o;obtain⟨v,HV⟩:∃v,Hid (nmAt p k=v):=⟨_,rfl⟩;rw[HV.out]at j T;have I:=zaa j;have hz:=f.size;have hvn:v<=1000:=by have:=(P.out.at hlt).2.1;have:=HV.out;omega
    clear j
    by_cases hvh:v=J
    .subst hvh
     have O:Hid ((p.take (k+1)).map (uniV (nmAt p x) (nmAt p y))=(p.take k).map (uniV (nmAt p x) (nmAt p y))++ [(L:Int)]):=by
      show _=_
      rw[zbj,I.out,zeo];simp[HF.out]
     have W:((v:Int)==(v:Int))=true:=by simp
     go_wp2_with (at_builtin;refine app1 wr rfl _ _ 43 3 rfl (.int .i64 0) 8 zax q15 rfl (by decide) w.heap.size k E D _ rfl g (.int .i64 (L:Int)) rfl rfl (by omega) hz ?_;intro N S w2 d X z)
     go_roundw
     case rel=>exact⟨k+1,N,S,by omega,by go_num,rfl,by rw[O.out,q2y];exact d,f.trans z⟩
     case measure=>simp[intOf];try omega
    .have W:((v:Int)==(J:Int))=false:=by rw[zbi];omega
     have K:¬(v:Int)=(J:Int):=by omega
     have O:Hid ((p.take (k+1)).map (uniV (nmAt p x) (nmAt p y))=(p.take k).map (uniV (nmAt p x) (nmAt p y))++ [(v:Int)]):=by
      show _=_
      rw[zbj,I.out,zeo];simp[HF.out,K]
     clear K
     go_wp2_with (at_builtin;refine app1 wr rfl _ _ 43 3 rfl (.int .i64 0) 8 zax q15 rfl (by decide) w.heap.size k E D _ rfl g (.int .i64 (v:Int)) rfl rfl (by omega) hz ?_;intro N S w2 d X z)
     go_roundw
     case rel=>exact⟨k+1,N,S,by omega,by go_num,rfl,by rw[O.out,q2y];exact d,f.trans z⟩
     case measure=>simp[intOf];try omega
   .obtain rfl:k=n:=by omega
    have Y:¬(k:Int)<(k:Int):=by omega
    have HM:Hid ((p.take k).map (uniV (nmAt p x) (nmAt p y))=uniL p x y):=by show _=_;unfold uniL;rw[zaq (by rw[P.out.1];exact zad _)]
    go_wp2_with fail;go_ret;exact⟨D,E,rfl,by rw[<-HM.out];exact g,f⟩
def comp (s t:List Int):List Int:=s.map (nmI t)
theorem PermL.atI {n:Nat} {s:List Int} (h:PermL n s) {v:Int} (b:0<=v) (c:v<=(n:Int) - 1):∃hl:v.toNat<s.length,nmI s v=s[v.toNat]/\s[v.toNat]?=some (nmI s v):=by
 have hl:v.toNat<s.length:=by rw[h.1];omega
 have e:s[v.toNat]?=some s[v.toNat]:=zae hl;have a:nmI s v=s[v.toNat]:=by unfold nmI;rw[zan,e];rfl
 exact⟨hl,a,by rw[a];exact e⟩
theorem qe7 {n:Nat} {s:List Int} (h:PermL n s) {v:Int} (a:0<=v) (b:v<=(n:Int) - 1):0<=nmI s v/\nmI s v<=(n:Int) - 1:=by
 obtain⟨c,e,-⟩:=h.atI a b;rw[e];exact h.2.1 _ (zcu c)
theorem q9d {α:Type}:∀ {l:List α},l.Nodup->∀ {i j:Nat} {v:α},l[i]?=some v->l[j]?=some v->i=j
 | [],_,i,j,v,hi,_=>by simp at hi
 |x::l,h,0,0,v,_,_=>rfl
 | x :: l, h, 0, j + 1, v, hi, hj => by
   rw [zee] at h;simp at hi hj;subst hi;exact absurd (zaf hj) h.1
 | x :: l, h, i + 1, 0, v, hi, hj => by
   rw [zee] at h;simp at hi hj;subst hj;exact absurd (zaf hi) h.1
 | x :: l, h, i + 1, j + 1, v, hi, hj => by
   rw [zee] at h;simp at hi hj;rw [q9d h.2 hi hj]
theorem qci {n:Nat} {s:List Int} (h:PermL n s) {a b:Int} (d:0<=a) (f:a<=(n:Int) - 1) (g:0<=b) (i:b<=(n:Int) - 1) (e:nmI s a=nmI s b):a=b:=by
 obtain⟨-,-,c⟩:=h.atI d f;obtain⟨-,-,j⟩:=h.atI g i;rw[e]at c;have:=q9d h.2.2 c j;omega
theorem qe9 {α β:Type} {f:α->β} {l:List α} (h:l.Nodup) (c:∀a∈l,∀b∈l,f a=f b->a=b):(l.map f).Nodup:=by
 induction l with
 |nil=>simp
 | cons x l ih =>
   rw [zee] at h;rw [zcy, zee];refine ⟨fun j => ?_, ih h.2 fun a g b i => c a (by simp [g]) b (by simp [i])⟩;obtain ⟨y, d, e⟩ := zb6.1 j;have := c y (by simp [d]) x (by simp) e;subst this;exact h.1 d
theorem qbt {n:Nat} {s t:List Int} (d:PermL n s) {v:Int} (b:0<=v) (c:v<=(n:Int) - 1):nmI (comp s t) v=nmI t (nmI s v):=by
 obtain⟨f,e,a⟩:=d.atI b c;unfold comp;have:(s.map (nmI t))[v.toNat]?=some (nmI t (nmI s v)):=by rw[za6,a];rfl
 exact q49 this
theorem q5l {n:Nat} {s:List Int} (c:PermL n s) {x:Nat} (d:x<n):(nmAt s x:Int)=nmI s (x:Int):=by
 obtain⟨v,a,e,b⟩:=c.at d;rw[b];have:=q49 a;unfold nmI at this⊢;simp only[za1];exact this.symm
theorem qk6 {n:Nat} {s:List Int} (a:PermL n s) {x:Nat} (b:x<n):nmAt s x<n:=by
 obtain⟨v,c,d,e⟩:=a.at b;omega
theorem q9g {n:Nat} {s t:List Int} (a:s.length=n) (b:t.length=n) (h:∀x,x<n->nmI s (x:Int)=nmI t (x:Int)):s=t:=by
 apply zcp;intro i
 by_cases hi:i<n
 .have:=h i hi
  unfold nmI at this;simp only[za1,zan]at this;rw[zae (by omega),zae (by omega)]at this⊢
  simpa using this
 .rw[zbs (by omega),zbs (by omega)]
theorem qd1 {n:Nat} {v:Int} (a:0<=v) (b:v<=(n:Int) - 1):nmI (upTo n) v=v:=by
 have:=q49 (qn4 (n:=n) (k:=v.toNat) (by omega));rw[Int.toNat_of_nonneg a]at this;exact this
theorem q25 (s t:List Int):(comp s t).length=s.length:=by simp[comp]
theorem qpl {n:Nat} {s:List Int} (a:PermL n s):comp s (upTo n)=s:=by
 refine q9g (n:=n) (by rw[q25];exact a.1) a.1 fun x b=>?_
 have:=qe7 a (v:=(x:Int)) (by omega) (by omega);rw[qbt a (by omega) (by omega),qd1 this.1 this.2]
def posN:List Int->Int->Nat
 | [],_=>0
 |x::l,v=>if x=v then 0 else posN l v+1
theorem q5q:∀ {l:List Int} {v:Int},v∈l->l[posN l v]?=some v
 | [],v,h=>by simp at h
 | x :: l, v, h => by
   unfold posN
   by_cases e : x = v
   . rw [zao e, e]; rfl
   . rw [zaj e, zdf]
     refine q5q ?_
     rcases zbq.1 h with h | h
     . exact absurd h.symm e
     . exact h
def inv (n:Nat) (s:List Int):List Int:=(List.range n).map fun(y:Nat)=>(posN s (y:Int):Int)
theorem PermL.mem {n:Nat} {s:List Int} (h:PermL n s) {y:Nat} (d:y<n):(y:Int)∈s:=by
 obtain⟨x,c,e⟩:=h.surj d;obtain⟨v,a,f,b⟩:=h.at c;rw[<-e,b];exact zaf a
theorem qo2 {n:Nat} {s:List Int} {y:Nat} (a:y<n):nmI (inv n s) (y:Int)=(posN s (y:Int):Int):=by
 have:(inv n s)[y]?=some (posN s (y:Int):Int):=by unfold inv;rw[za6,zeq a];rfl
 have:=q49 this;unfold nmI at this⊢
 simpa using this
theorem q5g {n:Nat} {s:List Int} (h:PermL n s):PermL n (inv n s):=by
 refine⟨by simp[inv],fun v i=>?_,qe9 List.nodup_range fun a f b g e=>?_⟩
 .obtain⟨y,j,rfl⟩:=zb6.1 i
  have:=(zag.1 (q5q (h.mem (zdu.1 j)))).1;have:=h.1;omega
 .have c:=q5q (h.mem (zdu.1 f))
  have d:=q5q (h.mem (zdu.1 g));have e':posN s (a:Int)=posN s (b:Int):=by omega
  rw[e',d]at c;injection c with c
  omega
theorem qln {n:Nat} {s:List Int} (h:PermL n s):comp s (inv n s)=upTo n:=by
 refine q9g (n:=n) (by rw[q25];exact h.1) (qhi n) fun x c=>?_
 rw[qbt h (by omega) (by omega),qd1 (by omega) (by omega)];obtain⟨v,a,b,d⟩:=h.at c;have e:nmI s (x:Int)=v:=by have:=q49 a;unfold nmI at this⊢;simpa using this
 rw[e,qo2 b];have:=q9d h.2.2 (q5q (h.mem b)) a;omega
def kerL (q:List Int):List Int:=q.map fun v=>(posN q v:Int)
theorem q9c (q:List Int):(kerL q).length=q.length:=zcv _
theorem qgy {f:Int->Int}:∀ {q:List Int} {v:Int},(∀a∈q,f a=f v->a=v)->posN (q.map f) (f v)=posN q v
 | [],v,_=>rfl
 | x :: l, v, h => by
   rw [zcy, posN, posN]
   by_cases e : x = v
   . rw [zao e, zao (by rw [e])]
   . rw [zaj e, zaj fun e2 => e (h x (za2 ..) e2), qgy fun a ha => h a (zaw _ ha)]
theorem qjj {n:Nat} {s q:List Int} (g:PermL n s) (d:∀v∈q,0<=v/\v<=(n:Int) - 1):kerL (comp q s)=kerL q:=by
 unfold kerL comp;rw[List.map_map];refine List.map_congr_left fun v h=>?_
 show(posN (q.map (nmI s)) (nmI s v):Int)=posN q v;rw[qgy fun a f e=>?_];have b:=d a f;have c:=d v h;exact qci g b.1 b.2 c.1 c.2 e
theorem qbf:∀ {q:List Int} {v:Int} {y:Nat},q[y]?=some v->posN q v<=y
 | [],v,y,h=>by simp at h
 | x :: l, v, 0, h => by
   simp at h;rw [posN, zao h]; exact zad _
 | x :: l, v, y + 1, h => by
   rw [posN]
   split
   . omega
   . rw [zdf] at h
     have := qbf h;omega
theorem q8h {q:List Int} {v:Int} {y:Nat} (h:q[y]?=some v) (c:∀z,z<y->q[z]?≠some v):posN q v=y:=by
 have e:=qbf h;have b:=q5q (zaf h)
 rcases zco (posN q v) y with a|d
 .exact absurd b (c _ a)
 .omega
def rfL (k:Int) (V s:List Int):List Int:=
 if k=2 then comp V s
 else if k=3\/k=5 then q1n s.length fun y=>hasI (y:Int) (comp V s)
 else if k=4 then kerL (comp (inv s.length s) V)
 else if k=6 then comp (comp (inv s.length s) V) s
 else V
def InL (n:Nat) (V:List Int):Prop:=∀v∈V,0<=v/\v<=(n:Int) - 1
theorem q65 {n:Nat} {V s:List Int} (b:PermL n s) (a:InL n V):InL n (comp V s):=fun v c=>by
 obtain⟨y,d,rfl⟩:=zb6.1 c;have:=a y d;exact qe7 b this.1 this.2
theorem q7n {n:Nat} {V f:List Int} (g:f.length=n) (a:InL n f) (c:InL n V):InL n (comp V f):=fun v d=>by
 obtain⟨y,e,rfl⟩:=zb6.1 d;have h:=c y e;have b:y.toNat<f.length:=by omega
 have:nmI f y=f[y.toNat]:=by unfold nmI;rw[zan,zae b];rfl
 rw[this];exact a _ (zcu b)
theorem q4u {n:Nat} {V s:List Int} (j:PermL n s) (f:InL n V) (i:V.Nodup):(comp V s).Nodup:=
 qe9 i fun a g b h e=>by
  have c:=f a g;have d:=f b h;exact qci j c.1 c.2 d.1 d.2 e
theorem q4s {x:qi} {f:q12} (h:q1l x f=true):InL x.1.toNat f.2.2/\(f.1=1->f.2.2= [])/\(f.1=3\/f.1=5->q20 f.2.2=true)/\(f.1=4\/f.1=6->f.2.2.length=x.1.toNat)/\1<=f.1/\f.1<=6:=by
 have g:∀ {V:List Int},V= []->InL x.1.toNat V:=fun e v b=>by rw[e]at b;cases b
 unfold q1l at h
 by_cases h1:f.1=1
 .rw[zao h1,za4,zbt]at h
  have e:=zdg.1 h.2;exact⟨g e,fun _=>e,by omega,by omega,by omega,by omega⟩
 rw[zaj h1]at h
 by_cases h2:f.1=2
 .rw[zao h2,za4]at h
  have a:=h.2;unfold q45 at a;rw[za4]at a;exact⟨q31.1 a.1,by omega,by omega,by omega,by omega,by omega⟩
 rw[zaj h2,za4]at h;replace h:=h.2
 by_cases a:f.1=3
 .rw[zao a]at h
  unfold subB at h;rw[za4,za4]at h;exact⟨q31.1 h.1.1,by omega,fun _=>h.1.2,by omega,by omega,by omega⟩
 rw[zaj a]at h
 by_cases h4:f.1=4
 .rw[zao h4]at h
  unfold q3q at h;rw[za4]at h;have d:ParP x.1.toNat f.2.2:=q3p.1 h.1;refine⟨fun v b=>?_,by omega,by omega,fun _=>d.1,by omega,by omega⟩;obtain⟨i,c⟩:=zbh b;have m:=(zag.1 c).1;have j:=d.1;obtain⟨k,n,-⟩:=d.2 i (by omega);have e:f.2.2.getD i 0=v:=by rw[zan,c];rfl
  rw[e]at k;have l:nmAt f.2.2 i=v.toNat:=q1t c;rw[l]at n;exact⟨k,by omega⟩
 rw[zaj h4]at h
 by_cases h5:f.1=5
 .rw[zao h5]at h
  unfold genB at h;rw[za4,za4]at h;exact⟨q31.1 h.1.1,by omega,fun _=>h.1.2,by omega,by omega,by omega⟩
 rw[zaj h5]at h
 by_cases h6:f.1=6
 .rw[zao h6]at h
  unfold homB at h;rw[za4,za4,zbt]at h;exact⟨q31.1 h.1.2,by omega,by omega,fun _=>h.1.1,by omega,by omega⟩
 .rw[zaj h6]at h
  cases h
theorem q6f {n:Nat} {L:List Int} (l:L.Nodup) (j:InL n L):L.mergeSort (fun x y=>decide (x<=y))=q1n n fun y=>hasI (y:Int) L:=by
 have f:=List.mergeSort_perm L fun x y=>decide (x<=y)
 have m:=List.pairwise_mergeSort (le:=fun(x y:Int)=>decide (x<=y)) (fun a b c e i=>by simp at*;omega) (fun a b=>by simp;omega) L;have d:(L.mergeSort fun x y=>decide (x<=y)).Nodup:=f.nodup_iff.2 l;refine qbq ?_ (q47 _ _) fun z=>?_
 .have:=m.and d
  exact this.imp fun h=>by
   obtain⟨e,i⟩:=h;simp at e;omega
 .rw[f.mem_iff,q4y]
  constructor
  .intro g
   have:=j z g;refine⟨z.toNat,by omega,?_,by omega⟩;rw[show((z.toNat:Nat):Int)=z by omega];exact q3s.2 g
  .rintro⟨y,o,k,rfl⟩
   exact q3s.1 k
theorem qe0 {n:Nat} {L:List Int} {y:Nat} {P:List Int} (a:y<n) (h:PutP (q1n n fun z=>hasI (z:Int) L) (y:Int) P):P=q1n n fun z=>hasI (z:Int) (L++ [(y:Int)]):=by
 rw[qh1 a h];refine q1x fun z b=>?_
 rw[zcd,zef,q3s,q3s,zdp,zat,zcf];constructor
 .rintro(h|rfl)
  .exact .inl h
  .exact .inr rfl
 .rintro(h|h)
  .exact .inl h
  .exact .inr (by omega)
theorem qng {n:Nat} {s:List Int} (h:PermL n s) {x:Nat} (b:x<n):nmI (inv n s) (nmI s (x:Int))=(x:Int):=by
 have a:=qe7 h (v:=(x:Int)) (by omega) (by omega);have:nmI (comp s (inv n s)) (x:Int)=nmI (upTo n) (x:Int):=by rw[qln h]
 rwa [qbt h (by omega) (by omega),qd1 (by omega) (by omega)]at this
theorem qdc {n:Nat} {s V a:List Int} (d:PermL n s) (q:V.length=n) (m:a.length=n) (h:∀x,x<n->a[nmAt s x]?=some (nmI s (V.getD x 0))):a=comp (comp (inv n s) V) s:=by
 have c:=q5g d;refine q9g (n:=n) m (by rw[q25,q25];exact c.1) fun y p=>?_
 obtain⟨x,f,e⟩:=d.surj p;have i:=h x f;rw[e]at i;have j:nmI a (y:Int)=nmI s (V.getD x 0):=by
  have:=q49 i;unfold nmI at this⊢
  simpa using this
 have g:nmI s (x:Int)=(y:Int):=by rw[<-q5l d f,e]
 have k:(inv n s)[y]?=some (x:Int):=by
  obtain⟨o,-,b⟩:=c.atI (v:=(y:Int)) (by omega) (by omega);rw[<-g,qng d f]at b;rw[g]at b
  simpa using b
 have b:(comp (comp (inv n s) V) s)[y]?=some (nmI s (nmI V (x:Int))):=by
  unfold comp;rw[za6,za6,k];rfl
 rw[j];have:=q49 b;have l:nmI V (x:Int)=V.getD x 0:=by unfold nmI;simp
 rw[l]at this;unfold nmI at this⊢
 simpa using this.symm
theorem qh9 {n:Nat} {s V c:List Int} (d:PermL n s) (l:c.length=n) {k:Nat} (f:k<n) (h:∀x,x<k->c[nmAt s x]?=some (nmI s (V.getD x 0))):∀x,x<k+1->(c.set (nmAt s k) (nmI s (V.getD k 0)))[nmAt s x]?=some (nmI s (V.getD x 0)):=fun x m=>by
 rw[zck]
 by_cases e:x=k
 .subst e
  rw[zao rfl,zao (by have:=qk6 d f;omega)]
 .rw[zaj fun g=>e ?_]
  .exact h x (by omega)
  .have i:=q5l d (x:=x) (by omega)
   have j:=q5l d f;have:=qci d (a:=(x:Int)) (b:=(k:Int)) (by omega) (by omega) (by omega) (by omega) (by rw[<-i,<-j,g]);omega
theorem q8r {n:Nat} {s:List Int} (a:PermL n s):InL n (inv n s):=(q5g a).2.1
theorem qjl {n:Nat} {q:List Int} (c:q.length=n):InL n (kerL q):=fun v a=>by
 obtain⟨y,b,rfl⟩:=zb6.1 a;have:=(zag.1 (q5q b)).1;exact⟨by omega,by omega⟩
theorem qpb {n:Nat} {k:Int} {V s:List Int} (a:PermL n s) (c:InL n V) (b:k=4\/k=6->V.length=n):InL n (rfL k V s):=by
 have d:s.length=n:=a.1;unfold rfL;rw[d]
 split
 .exact q65 a c
 .split
  .exact fun v e=>q4h v e
  .split
   .rename_i h4
    exact qjl (by rw[q25];exact(q5g a).1)
   .split
    .rename_i h6
     exact q65 a (q7n (b (.inr h6)) c (q8r a))
    .exact c
def rl (p:List Int) (x y:Nat):Prop:=nmAt p x=nmAt p y
def Cpt (n:Nat) (ops:List OpM) (R:Nat->Nat->Prop):Prop:=∀o∈ops,∀l:List Nat,l.length=o.1.toNat->(∀d∈l,d<n)->∀j,j<o.1.toNat->∀x y,x<n->y<n->R x y->R (nmAt o.2 (idx n (l.set j x))) (nmAt o.2 (idx n (l.set j y)))
structure EqvN (n:Nat) (E:Nat->Nat->Prop):Prop where
 rfl':∀x,x<n->E x x
 sym:∀x y,x<n->y<n->E x y->E y x
 trs:∀x y z,x<n->y<n->z<n->E x y->E y z->E x z
theorem ql9 {n:Nat} {p:List Int} (P:ParP n p) {E:Nat->Nat->Prop} (d:EqvN n E) (k:∀x y,x<n->y<n->rl p x y->E x y) {a b:Nat} (e:a<n) (f:b<n) (j:E a b):∀x y,x<n->y<n->rl (uniL p a b) x y->E x y:=fun x y g c h=>by
 unfold rl at h;rw[q6j P g,q6j P c]at h;have:nmAt p x=nmAt p y\/(nmAt p x=nmAt p a/\nmAt p y=nmAt p b)\/(nmAt p x=nmAt p b/\nmAt p y=nmAt p a):=by
  have q:(max (nmAt p a) (nmAt p b)=nmAt p a/\min (nmAt p a) (nmAt p b)=nmAt p b)\/(max (nmAt p a) (nmAt p b)=nmAt p b/\min (nmAt p a) (nmAt p b)=nmAt p a):=by omega
  rcases q with⟨m,o⟩|⟨m,o⟩
  all_goals
   rw[m,o]at h
   split at h<;>split at h<;>omega
 rcases this with i|⟨i,l⟩|⟨i,l⟩
 .exact k x y g c i
 .exact d.trs x a y g e c (k x a g e i) (d.trs a b y e f c j (d.sym y b c f (k y b c f l)))
 .exact d.trs x b y g f c (k x b g f i) (d.trs b a y f e c (d.sym a b e f j) (d.sym y a c e (k y a c e l)))
def UL (n:Nat) (ops:List OpM) (p0 p:List Int):Prop:=(∀x y,x<n->y<n->rl p0 x y->rl p x y)/\∀E,EqvN n E->Cpt n ops E->(∀x y,x<n->y<n->rl p0 x y->E x y)->∀x y,x<n->y<n->rl p x y->E x y
theorem UL.refl (n:Nat) (ops:List OpM) (p:List Int):UL n ops p p:=⟨fun _ _ _ _ h=>h,fun _ _ _ h=>h⟩
theorem qks {α:Type} {l:List α} {d:Nat} {z:α} (h:l[d]?=some z):l.set d z=l:=by
 apply zcp;intro i;rw[zck]
 by_cases e:d=i
 .subst e
  rw[zao rfl,zao (zag.1 h).1,h]
 .rw[zaj e]
theorem UL.join {n:Nat} {ops:List OpM} {w p:List Int} (h:UL n ops w p) (P:ParP n p) (j:0<n) {o:OpM} (D:o∈ops) (F:OpP n o) {d q x y:Nat} (hd:d<o.1.toNat) (G:q<o.2.length) (I:nmAt o.2 q=x) (l:nmAt o.2 (repI n o.1.toNat p q d)=y) (k:x<n) (r:y<n):UL n ops w (uniL p x y):=by
 refine⟨fun a b u v H=>qcz P u v (h.1 a b u v H),fun E i g t=>ql9 P i (h.2 E i g t) k r ?_⟩;have C:(digs n o.1.toNat q).length=o.1.toNat:=q2d _ _ _;obtain⟨z,s⟩:∃z,(digs n o.1.toNat q)[d]?=some z:=⟨_,zae (by omega)⟩;have c:z<n:=q2u j (zaf s);have A:=P.at c;have f:=g o D (digs n o.1.toNat q) C (fun e B=>q2u j B) d hd z (nmAt p z) c (by omega) (h.2 E i g t z (nmAt p z) c (by omega) A.2.2.symm);rw[qks s,q9a j (by rw[<-F.2.2.1];exact G),I]at f;unfold repI at l;rw[zan,s]at l;have m:nmAt o.2 (idx n ((digs n o.1.toNat q).set d (nmAt p z)))=y:=l;rw[m]at f;exact f
def q4g (p q:List Int):Nat->List Int
 |0=>p
 |k+1=>uniL (q4g p q k) k (nmAt q k)
def q67 (p q:List Int):List Int:=q4g p q q.length
def q5o (n:Nat) (p q:List Int):List Int:=(List.range n).map fun i=>((nmAt p i*n+nmAt q i:Nat):Int)
def q48 (p q:List Int):List Int:=kerL (q5o p.length p q)
theorem q6r {n:Nat} {p q:List Int} (P:ParP n p) (Q:ParP n q):∀k,k<=n->ParP n (q4g p q k)
 |0,_=>P
 |k+1,h=>qgd (q6r P Q k (by omega)) (by omega) (by have:=(Q.at (i:=k) (by omega)).2.1;omega)
theorem qfe {n:Nat} {p q:List Int} (Q:ParP n q):q67 p q=q4g p q n:=by unfold q67;rw[Q.1]
theorem q7u {n:Nat} {p q:List Int} (P:ParP n p) (Q:ParP n q):ParP n (q67 p q):=by rw[qfe Q];exact q6r P Q n (zad _)
theorem qnj {n:Nat} {p:List Int} (P:ParP n p) (d:n<=1000):∀v∈p, -9223372036854775808<=v/\v<=9223372036854775807:=fun v c=>by
 obtain⟨i,a⟩:=zbh c;have b:i<n:=by rw[<-P.1];exact(zag.1 a).1
 have h:=P.at b;rw[a]at h;injection h.1 with h1
 have:=h.2.1;omega
theorem qaa (n:Nat) (p q:List Int):(q5o n p q).length=n:=by simp[q5o]
theorem qa9 {n:Nat} {p q:List Int} {k:Nat} (h:k<n):(q5o n p q)[k]?=some ((nmAt p k*n+nmAt q k:Nat):Int):=by
 unfold q5o;rw[za6,zeq h];rfl
theorem qce {n:Nat} {p q:List Int} (P:ParP n p):q48 p q=kerL (q5o n p q):=by unfold q48;rw[P.1]
theorem qe2 {n:Nat} {p q:List Int} (P:ParP n p):(q48 p q).length=n:=by rw[qce P,q9c,qaa]
theorem qof {n a b c d:Nat} (g:b<n) (hd:d<n):a*n+b=c*n+d↔a=c/\b=d:=by
 constructor
 .intro h
  have e:(a*n+b) / n=a:=by rw[zfe,Nat.mul_add_div (by omega),Nat.div_eq_of_lt g];omega
  have f:(c*n+d) / n=c:=by rw[zfe,Nat.mul_add_div (by omega),Nat.div_eq_of_lt hd];omega
  rw[h,f]at e;subst e;exact⟨rfl,by omega⟩
 .rintro⟨rfl,rfl⟩;rfl
theorem qmn {n:Nat} {p q:List Int} (P:ParP n p) (Q:ParP n q) (d:n<=1000):∀v∈q5o n p q, -9223372036854775808<=v/\v<=9223372036854775807:=fun v b=>by
 unfold q5o at b;obtain⟨i,c,rfl⟩:=zb6.1 b;have a:i<n:=zdu.1 c;have e:=(P.at a).2.1;have f:=(Q.at a).2.1;have g:nmAt p i*n<=1000*1000:=zcj (by omega) d;omega
end Go.Proofs.YtfnmkbpogbekpaaGreatDoor
