import Derived.Test.YtfnmkbpogbekpaaGreatDoorQ6
import Derived.Deep.CutBlock
set_option linter.unusedVariables false
set_option linter.unusedSimpArgs false
set_option maxRecDepth 100000
set_option maxHeartbeats 32000000
namespace Go.Proofs.YtfnmkbpogbekpaaGreatDoor
open Go.RowKit
structure PuU (n:Nat) (ops:List OpM) (p out:List Int) (all:Prop):Prop extends PuI n p out all where
 ul:UL n ops p out
theorem PuU.start {n:Nat} {ops:List OpM} {p:List Int} (h:ParP n p):PuU n ops p p True:=⟨PuI.start h,UL.refl _ _ _⟩
theorem PuU.congr {n:Nat} {ops:List OpM} {p c:List Int} {a b:Prop} (h:PuU n ops p c a) (e:a↔b):PuU n ops p c b:=⟨h.toPuI.congr e,h.ul⟩
theorem PuU.next {n:Nat} {ops:List OpM} {p e:List Int} {a:Prop} (g:ParP n p) (h:PuU n ops p e a) (i:0<n) {o:OpM} (j:o∈ops) (f:OpP n o) {d q x y:Nat} (hd:d<o.1.toNat) (k:q<o.2.length) (l:nmAt o.2 q=x) (m:nmAt o.2 (repI n o.1.toNat p q d)=y) (b:x<n) (c:y<n):PuU n ops p (uniL e x y) (a/\nmAt p x=nmAt p y):=
 ⟨h.toPuI.next g b c,h.ul.join h.par g h.ul.1 i j f hd k l m b c⟩
theorem qhu {l:List Nat} {k d:Nat} (h:l[k]?=some d):(nats l)[k]?=some (d:Int):=by simp[nats,h]
theorem qlr (l:List Nat) (p v:Nat):(nats l).set p (v:Int)=nats (l.set p v):=by simp[nats,List.map_set]
def PhD (n:Nat) (ops:List OpM) (p:List Int) (j q d:Nat):Prop:=(∀j',j'<j->∀o,ops[j']?=some o->∀i,i<o.2.length->∀d',d'<o.1.toNat->PrE n p o i d')/\(∀o,ops[j]?=some o->(∀i,i<q->i<o.2.length->∀d',d'<o.1.toNat->PrE n p o i d')/\(∀d',d'<d->d'<o.1.toNat->PrE n p o q d'))
theorem PhD.start (n:Nat) (ops:List OpM) (p:List Int):True↔PhD n ops p 0 0 0:=⟨fun _=>⟨fun b h=>absurd h (by omega),fun o _=>⟨fun i h=>absurd h (by omega),fun a h=>absurd h (by omega)⟩⟩,fun _=>trivial⟩
theorem PhD.pair {n:Nat} {ops:List OpM} {p:List Int} {j q d:Nat} {o:OpM} (f:ops[j]?=some o) (hd:d<o.1.toNat):(PhD n ops p j q d/\PrE n p o q d)↔PhD n ops p j q (d+1):=by
 constructor
 .rintro⟨⟨g,b⟩,l⟩
  refine⟨g,fun i a=>?_⟩;rw[f]at a;injection a with a
  subst a;refine⟨(b _ f).1,fun c k h=>?_⟩
  by_cases e:c=d
  .subst e;exact l
  .exact(b _ f).2 c (by omega) h
 .rintro⟨g,b⟩
  exact⟨⟨g,fun i a=>⟨(b i a).1,fun c k h=>(b i a).2 c (by omega) h⟩⟩,(b o f).2 d (by omega) hd⟩
theorem PhD.entry {n:Nat} {ops:List OpM} {p:List Int} {j q d:Nat} {o:OpM} (k:ops[j]?=some o) (hd:¬d<o.1.toNat) (t:q<o.2.length):PhD n ops p j q d↔PhD n ops p j (q+1) 0:=by
 constructor
 .rintro⟨l,f⟩
  refine⟨l,fun m a=>⟨fun i s b c g=>?_,fun c h=>absurd h (by omega)⟩⟩;rw[k]at a;injection a with a
  subst a
  by_cases e:i=q
  .subst e;exact(f _ k).2 c (by omega) g
  .exact(f _ k).1 i (by omega) b c g
 .rintro⟨l,f⟩
  refine⟨l,fun m a=>⟨fun i s b=>(f m a).1 i (by omega) b,fun c u r=>?_⟩⟩;rw[k]at a;injection a with a
  subst a;exact(f _ k).1 q (by omega) t c r
theorem PhD.op {n:Nat} {ops:List OpM} {p:List Int} {j q:Nat} {o:OpM} (s:ops[j]?=some o) (t:¬q<o.2.length):PhD n ops p j q 0↔PhD n ops p (j+1) 0 0:=by
 constructor
 .rintro⟨f,m⟩
  refine⟨fun g l d a i r c b=>?_,fun d _=>⟨fun i h=>absurd h (by omega),fun c h=>absurd h (by omega)⟩⟩
  by_cases e:g=j
  .subst e;exact(m d a).1 i (by rw[s]at a;injection a with a;subst a;omega) r c b
  .exact f g (by omega) d a i r c b
 .rintro⟨f,m⟩
  exact⟨fun g l=>f g (by omega),fun d a=>⟨fun i _ k c b=>f j (by omega) d a i k c b,fun c h=>absurd h (by omega)⟩⟩
theorem PhD.done {n:Nat} {ops:List OpM} {p:List Int} {j:Nat} (g:¬j<ops.length):PhD n ops p j 0 0↔q4h n ops p:=by
 constructor
 .rintro⟨f,-⟩ o b d hd i c
  obtain⟨e,a⟩:=zbo b;have:=(zag.1 a).1;exact f e (by omega) o a i c d hd
 .intro h
  refine⟨fun e _ o b i c d hd=>h o (zaf b) d hd i c,fun o b=>?_⟩;have:=(zag.1 b).1;omega
theorem qji (cs:List Value) (x:qi) (A:Option Addr) (n c:Nat) (p:List Int) (w:World) (h:qf.rd w cs x) (hx:AlgP x) (hn:x.1=(n:Int)) (hr:RdL RI w A n p) (hp:ParP n p):
  Calls Tryz.prog 163 #[.agg cs.toArray,.slice A n c] w fun e w'=>∃A' c' P,e=.returned (.slice A' n c')/\RdL RI w' A' n P/\PuU n x.2 p P (q4h n x.2 p)/\Below w.heap.size w w':=by
 have hrd:=h;obtain⟨a,r⟩:=x;have hxx:=hx;obtain⟨hx1,hx2,hx3,E⟩:=hx;simp only at hx1 hx2 hx3 E hn;subst hn;rw[za5]at E;have hn0:0<n:=by omega
 have hn8:n<=8:=by omega
 obtain⟨B,m,d,rfl,-,qo⟩:=qv h;have HML:=zaa qo.len;have HOPS:=zaa E;have hm4:m<=4:=by rw[<-qo.len];exact hx3
 have HP:=zaa hp;obtain⟨w0,hw0,T0,hsz0,BP⟩:=q15 w #[.int .i64 (n:Int),.slice B m d] 24;have HW0:=zaa hw0;have HRD:Hid (∀y,Below w0.heap.size w0 y->qf.rd y [.int .i64 (n:Int),.slice B m d] ((n:Int),r)):=fun y J=>qf.stab (qf.stab hrd T0.block) J.block
 replace qo:=qo.next T0;have r0:=hr.next qd T0;obtain⟨cP0,Z⟩:=cl2 BP;have HOWN:=zaa (q2s A n c p w0 r0 (by omega));have HPB:=zaa hr.bounds;clear hw0 hsz0 hx3 E h hr hrd hxx hp
 go_enter Tryz.func163,Tryz.ntmps163
 go_upto_region 1 with fail;rw[<-HW0.out];go_wp2_with fail;refine HOWN.out.mono ?_;rintro e w1 ⟨D,G,rfl,ho5,T1⟩;have K:=q12 (R:=RI) ho5 (q1r HPB.out);clear ho5;go_wp2_with fail
 go_loopw [5,6] (fun s i wr=>∃(j:Nat) (D:Option Addr) (G:Nat) (P:List Int),j<=m/\i=.int .i64 j/\s=.slice D n G/\RdL RI wr D n P/\Hid (PuU n r p P (PhD n r p j 0 0))/\Below w0.heap.size w0 wr) (fun _ i _=>m - (intOf i).toNat)
 case atStart=>exact⟨0,D,G,p,zah _,rfl,rfl,K,(PuU.start HP.out).congr (PhD.start _ _ _),T1⟩
 case round=>
  clear K T1;obtain⟨j,D,G,P,hj,rfl,rfl,K,N,C⟩:=hrel;have I:=qe C Z
  by_cases hlt:j<m
  .have hj0:(0:Int)<=(j:Int):=by omega
   have hj1:(j:Int)<(m:Int):=by omega
   obtain⟨b,o,vs,op,rfl,-,hc,hrr,-,hxo⟩:=qo.at hlt;obtain⟨B',W,d',rfl,-,qt⟩:=rdOp hrr;have hoP:=HOPS.out op (zaf hxo);obtain⟨f,tb,rfl,har⟩:=q89 hoP;have L:=zaa hxo;have HTL:Hid (W=n ^ f):=by show _=_;rw[<-qt.len];have:=hoP.2.2.1;simpa using this
   have Y:Hid (tb.length=W):=qt.len;have HTV:=zaa hoP.2.2.2;have hm512:W<=4096:=by rw[HTL.out];exact q47 hn8 (by omega)
   have cc0:w0.cell? ⟨b,o+j*2,none⟩=some (.int .i64 (f:Int)):=hc 0 _ rfl;have cc1:w0.cell? ⟨b,o+j*2+1,none⟩=some (.slice B' W d'):=hc 1 _ rfl;clear hc hrr hxo hoP;go_wp2_with fail;clear I
   go_loopw [5,7] (fun s i wr=>∃(q:Nat) (D:Option Addr) (G:Nat) (P:List Int),q<=W/\i=.int .i64 q/\s=.slice D n G/\RdL RI wr D n P/\Hid (PuU n r p P (PhD n r p j q 0))/\Below w0.heap.size w0 wr) (fun _ i _=>W - (intOf i).toNat)
   case atStart=>exact⟨0,D,G,P,zah _,rfl,rfl,K,N,C⟩
   case round=>
    clear K N C;obtain⟨q,D,G,P,hq,rfl,rfl,K,N,C⟩:=hrel;have V:=qe C cP0;have I:=qe C Z;have kc0:=qe C cc0;have kc1:=qe C cc1
    by_cases hlq:q<W
    .have hq0:(0:Int)<=(q:Int):=by omega
     have hq1:(q:Int)<(W:Int):=by omega
     have HA:Hid (∀y,Below wr.heap.size wr y->Calls Tryz.prog 116 #[.int .i64 (n:Int),.int .i64 (f:Int),.int .i64 (q:Int)] y fun e w'=>∃g,e=.returned (.slice (some ⟨g,0,none⟩) f f)/\w'.ownsRow y.heap.size 3 1 (.slice (some ⟨g,0,none⟩) f f) f (ints (nats (digs n f q)))/\Below y.heap.size y w'):=fun y J=>q59 q f n y hn0 (by omega) (by omega) (by omega)
     have t:Below wr.heap.size wr wr:=zac _ _;go_upto_region 8 with fail
     go_cut [8]from 31 to 73 (fun u8 wx=>∃g,u8=.slice (some ⟨g,0,none⟩) f f/\wx.ownsRow wr.heap.size 3 1 (.slice (some ⟨g,0,none⟩) f f) f (ints (nats (digs n f q)))/\Below wr.heap.size wr wx)
     case first=>
      go_region_held3 (fun w'=>w'.cell? ⟨w.heap.size,0,none⟩=some (.int .i64 (n:Int))/\w'.cell? ⟨w.heap.size,1,none⟩=some (.slice (some ⟨b,o,none⟩) m d)/\w'.cell? ⟨b,o+j*2,none⟩=some (.int .i64 (f:Int))) (first|go_keep|exact⟨qe t V,qe t I,qe t kc0⟩) (first
       |(go_at_call 116;(with_reducible refine(HA.out _ ?_).mono ?_);(first|exact t|exact zai t);rintro e wn ⟨g,rfl,H,S⟩;replace t:=q9 (by first|exact t|exact zai t) S rfl))
      all_goals
       have HON:=zaa H;clear H;go_wp2_with fail;go_meet;exact⟨g,rfl,HON.out,by first|exact t|exact zai t⟩
     case rest=>
      obtain⟨g,rfl,hoA,hTc⟩:=hcut;obtain⟨w4,HWC⟩:∃wq:World,wq=wc:=⟨_,rfl⟩;subst HWC;have T4:=q9 C hTc rfl;obtain⟨ds,X⟩:∃l,Hid (digs n f q=l):=⟨_,rfl⟩;have HDN:Hid (∀dd∈ds,dd<n):=fun dd hdd=>by rw[<-X.out]at hdd;exact q20 hn0 hdd
      have HDL:Hid (ds.length=f):=by show _=_;rw[<-X.out,q1t]
      rw[X.out]at hoA
      have rA:=q12 (R:=RI) hoA (q1r fun v hv=>by
       obtain⟨dd,hdd,rfl⟩:=zbe.1 hv;have:=HDN.out dd hdd
       omega)
      have r54:=K.next qd hTc;clear V I kc0 kc1 hoA K;go_wp2_with fail
      go_loopw [5,9] (fun s i wr=>∃(k:Nat) (D:Option Addr) (G:Nat) (P:List Int),k<=f/\i=.int .i64 k/\s=.slice D n G/\RdL RI wr D n P/\Hid (PuU n r p P (PhD n r p j q k))/\Below w4.heap.size w4 wr) (fun _ i _=>f - (intOf i).toNat)
      case atStart=>exact⟨0,D,G,P,zah _,rfl,rfl,r54,N,zac _ _⟩
      case round=>
       clear r54 N;obtain⟨k,D,G,P,hk,rfl,rfl,K,N,hTk⟩:=hrel;have TT:=q9 T4 hTk rfl;have V:=qe TT cP0;have I:=qe TT Z;have kc1:=qe TT cc1
       by_cases hlk:k<f
       .have hk0:(0:Int)<=(k:Int):=by omega
        have hk1:(k:Int)<(f:Int):=by omega
        have rA2:=rA.next qd hTk;have HOW:=zaa (q2s (some ⟨g,0,none⟩) f f (nats ds) wr rA2 (by omega));go_wp2_with fail;refine HOW.out.mono ?_;rintro e w6 ⟨A7,c7,rfl,ho7,hb7⟩;obtain⟨g7,rfl,hg7,-⟩:=q2o ho7 (by omega);have hpl:k<ds.length:=by rw[HDL.out];exact hlk
        have hdp:ds[k]?=some ds[k]:=zae hpl;have hdn:=HDN.out _ (zce hpl)
        generalize ds[k]=dd at hdp hdn
        have T6:=q9 TT hb7 rfl;obtain⟨u1,z1,hcd,⟨rfl,-,-⟩,-,hxd⟩:=(rA2.next qd hb7).at' hlk;rw[qhu hdp]at hxd;rw[zcn]at hcd;injection hxd with hxd
        subst hxd;have hpd:=HP.out.at hdn;obtain⟨bp,op',u2,z2,rfl,hcp,⟨rfl,-,-⟩,-,hxp⟩:=(r0.next qd T6).at hdn;rw[hpd.1]at hxp;injection hxp with hxp
        subst hxp;obtain⟨pd,HPD⟩:∃z,Hid (nmAt p dd=z):=⟨_,rfl⟩;have hpdn:pd<n:=by rw[<-HPD.out];exact qat HP.out hdn
        rw[HPD.out]at hcp;have hd0:(0:Int)<=(dd:Int):=by omega
        have hd1:(dd:Int)<(n:Int):=by omega
        have hc7:∃u,w6.cell? ⟨g7,k,none⟩=some u:=⟨_,(ho7.cellAt k (by omega)).trans (zae (by rw[q4t,q72];omega))⟩;obtain⟨u7,hc7⟩:=hc7;have hfz:=ho7.frozenAt k;have hst:=(ho7.stored k (.int .i64 (pd:Int))).1;rw[q2n,qlr]at hst;obtain⟨l7,HL7⟩:∃l,Hid (ds.set k pd=l):=⟨_,rfl⟩;rw[HL7.out]at hst;have HL7N:Hid (∀z∈l7,z<n):=fun z J=>by
         rw[<-HL7.out]at J
         rcases zdk J with J|rfl
         .exact HDN.out z J
         .exact hpdn
        have HREP:Hid (idx n l7=repI n f p q k):=by
         show _=_
         unfold repI;rw[X.out,zak,hdp,<-HL7.out];show _=idx n (ds.set k (nmAt p dd))
         rw[HPD.out]
        have T:RdL RI (w6.setCell ⟨g7,k,none⟩ (.int .i64 (pd:Int))) (some ⟨g7,0,none⟩) f (nats l7):=q12 (R:=RI) hst (q1r fun v hv=>by
         obtain⟨z,J,rfl⟩:=zbe.1 hv;have:=HL7N.out z J
         omega)
        obtain⟨M,HW7⟩:∃M,Hid (M=w6.setCell ⟨g7,k,none⟩ (.int .i64 (pd:Int))):=⟨_,rfl⟩;have Q:Below wr.heap.size wr M:=by rw[HW7.out];exact hb7.setCell hg7 _
        rw[<-HW7.out]at T;have T7:=q9 TT Q rfl;have r57:=K.next qd Q;obtain⟨b3,o3,u3,v3,rfl,hc3,⟨rfl,-,-⟩,-,hxv⟩:=(qt.next qd T7).at hlq;have hvi:=HTV.out v3 (zaf hxv);obtain⟨y1,rfl⟩:=zan hvi.1;have hy1n:y1<n:=by omega
        have HY1:Hid (nmAt tb q=y1):=by show _=_;rw[q1d hxv];simp
        have O:repI n f p q k<tb.length:=by rw[Y.out,HTL.out];exact qmd hn0 HP.out
        have U:=HTV.out _ (zce O);have E:tb[repI n f p q k]?=some tb[repI n f p q k]:=zae O
        generalize tb[repI n f p q k]=v4 at U E
        obtain⟨y2,rfl⟩:=zan U.1;have hy2n:y2<n:=by omega
        have HY2:Hid (nmAt tb (repI n f p q k)=y2):=by show _=_;rw[q1d E];simp
        have HX4:=zaa E;have HV2:Hid (∀y,Below M.heap.size M y->Calls Tryz.prog 196 #[.agg #[.int .i64 (n:Int),.slice (some ⟨b,o,none⟩) m d],.int .i64 (j:Int),.slice (some ⟨g7,0,none⟩) f c7] y (Bl y (.int .i64 (y2:Int)))):=fun y J=>q7k _ ((n:Int),r) (some ⟨g7,0,none⟩) f c7 j n f y2 l7 tb y (HRD.out y (q9 T7 J rfl)) rfl hn8 (T.next qd J) HL7N.out (by omega) L.out (by rw[HREP.out];exact HX4.out)
        have HUN:Hid (∀y,Below M.heap.size M y->Calls Tryz.prog 171 #[.slice D n G,.int .i64 (y1:Int),.int .i64 (y2:Int)] y fun e w'=>∃A' c',e=.returned (.slice A' n c')/\w'.ownsRow y.heap.size 3 1 (.slice A' n c') n (ints (uniL P y1 y2))/\Below y.heap.size y w'):=fun y J=>qai D n G P y1 y2 y (r57.next qd J) N.out.par hy1n hy2n (by omega)
        have F:Hid (PuU n r p (uniL P y1 y2) (PhD n r p j q (k+1))):=(N.out.next HP.out hn0 (zaf L.out) (HOPS.out _ (zaf L.out)) (d:=k) (by simpa using hlk) (by have:=Y.out;simp only;omega) HY1.out (by simpa using HY2.out) hy1n hy2n).congr (by
         rw[<-PhD.pair L.out (by simpa using hlk)];unfold PrE;simp only[za5]
         rw[HY1.out,HY2.out])
        have HUP:Hid (ParP n (uniL P y1 y2)):=F.out.par;have jP0:=qe T7 cP0;have jP1:=qe T7 Z;have jc1:=qe T7 cc1;have t:Below M.heap.size M M:=zac _ _;clear hst hxv hvi E U O hdp V kc1 I K;go_upto_region 14 with fail;rw[<-HW7.out]
        go_region_held3 (fun w'=>w'.cell? ⟨w.heap.size,0,none⟩=some (.int .i64 (n:Int))/\w'.cell? ⟨w.heap.size,1,none⟩=some (.slice (some ⟨b,o,none⟩) m d)/\w'.cell? ⟨b,o+j*2+1,none⟩=some (.slice (some ⟨b3,o3,none⟩) W d')/\w'.cell? ⟨b3,o3+q,none⟩=some (.int .i64 (y1:Int))) (first|go_keep|exact⟨qe t jP0,qe t jP1,qe t jc1,qe t hc3⟩) (first
         |(go_at_call 196;(with_reducible refine(HV2.out _ ?_).mono ?_);(first|exact t|exact zai t);rintro e wn ⟨rfl,S⟩;replace t:=q9 (by first|exact t|exact zai t) S rfl)
         |(go_at_call 171;(with_reducible refine(HUN.out _ ?_).mono ?_);(first|exact t|exact zai t);rintro e wn ⟨A8,c8,rfl,H,S⟩;replace H:=ql (base':=M.heap.size) H (by exact t.size);replace t:=q9 (by first|exact t|exact zai t) S rfl))
        all_goals
         have T8:Below M.heap.size M _:=(by first|exact t|exact zai t)
         have r8:=q12 (R:=RI) H (q1r fun v hv=>by
          obtain⟨i,hi⟩:=zbo hv;have hil:i<n:=by rw[<-HUP.out.1];exact(zag.1 hi).1
          have h1:=HUP.out.at hil;rw[h1.1]at hi;injection hi with hi
          omega)
         clear H T;go_wp2_with fail
         go_roundw
         case rel=>exact⟨k+1,A8,c8,_,by omega,by go_num,rfl,r8,F,q9 hTk (q9 Q T8 rfl) rfl⟩
         case measure=>simp[intOf];try omega
       .have hk1:¬(k:Int)<(f:Int):=by omega
        have F:Hid (PuU n r p P (PhD n r p j (q+1) 0)):=N.out.congr (PhD.entry L.out (by simpa using hlk) (by have:=Y.out;simp only;omega));clear V I kc1;go_wp2_with fail
        go_roundw
        case rel=>exact⟨q+1,D,G,P,by omega,by go_num,rfl,K,F,TT⟩
        case measure=>simp[intOf];try omega
    .have hq1:¬(q:Int)<(W:Int):=by omega
     have F:Hid (PuU n r p P (PhD n r p (j+1) 0 0)):=N.out.congr (PhD.op L.out (by have:=Y.out;simp only;omega));go_wp2_with fail
     go_roundw
     case rel=>exact⟨j+1,D,G,P,by omega,by go_num,rfl,K,F,C⟩
     case measure=>simp[intOf];try omega
  .have hj1:¬(j:Int)<(m:Int):=by omega
   have F:Hid (PuU n r p P (q4h n r p)):=N.out.congr (PhD.done (by rw[HML.out];exact hlt));go_wp2_with fail;go_ret;exact⟨D,⟨G,rfl⟩,P,K,F.out,q9 T0 C rfl⟩
theorem q97 (A C:Option Addr) (n c m d:Nat) (f:List Int) (l:List Nat) (w:World) (X:RdL RI w A n f) (M:MpL n f) (N:RdL RI w C m (nats l)) (hd:∀z∈l,z<n) (hm:m<=1000) (hn:n<=1000):
  Calls Tryz.prog 117 #[.slice A n c,.slice C m d] w (OwI w (nats (l.map (nmAt f)))):=by
 have L:=qm w (.cells #[] 3);have K:=zb7 (base:=w.heap.size) (e:=3) (size:=1) w #[] 0 (zad _) (zah _) rfl;have q:Hid (l.length=m):=by show _=_;rw[<-N.len,q72]
 have P:=zaa hd;have Q:=zaa M;clear hd M
 go_enter Tryz.func117,Tryz.ntmps117
 go_wp2_with fail
 go_loopw [5,6] (fun s i wr=>∃(k:Nat) (x:Option Addr) (B:Nat),k<=m/\i=.int .i64 k/\s=.slice x k B/\wr.ownsRow w.heap.size 3 1 (.slice x k B) k (ints (nats ((l.take k).map (nmAt f))))/\Below w.heap.size w wr) (fun _ i _=>m - (intOf i).toNat)
 case atStart=>exact⟨0,_,_,zah _,rfl,rfl,K,L⟩
 case round=>
  clear K L;obtain⟨k,x,B,hk,rfl,rfl,g,a⟩:=hrel
  by_cases hlt:k<m
  .have W:(0:Int)<=(k:Int):=by omega
   have H:(k:Int)<(m:Int):=by omega
   have E:k<l.length:=by rw[q.out];exact hlt
   have h:l[k]?=some l[k]:=zae E;have r:=P.out _ (zce E)
   generalize l[k]=dd at h r
   obtain⟨b,o,u,v,rfl,hc,⟨rfl,-,-⟩,-,p⟩:=(N.next qd a).at hlt;rw[qhu h]at p;injection p with p
   subst p;have D:=Q.out.at r;obtain⟨Z,o4,u4,v4,rfl,G,⟨rfl,-,-⟩,-,j⟩:=(X.next qd a).at r;rw[D.1]at j;injection j with j
   subst j;obtain⟨J,y⟩:∃z,Hid (nmAt f dd=z):=⟨_,rfl⟩;rw[y.out]at G;have R:Hid (nats ((l.take (k+1)).map (nmAt f))=nats ((l.take k).map (nmAt f))++ [(J:Int)]):=by
    show _=_
    rw[zbp,h,zel,q71,<-y.out];rfl
   have Y:=a.size;have T:(0:Int)<=(dd:Int):=by omega
   have U:(dd:Int)<(n:Int):=by omega
   clear h D
   go_wp2_with (at_builtin;refine app1 wr rfl _ _ 43 3 rfl (.int .i64 0) 8 za1 q14 rfl (by decide) w.heap.size k B x _ rfl g (.int .i64 (J:Int)) rfl rfl (by omega) Y ?_;intro O S w2 t V F)
   go_roundw
   case rel=>exact⟨k+1,O,S,by omega,by go_num,rfl,by rw[R.out,q3c];exact t,a.trans F⟩
   case measure=>simp[intOf];try omega
  .obtain rfl:k=m:=by omega
   have H:¬(k:Int)<(k:Int):=by omega
   have I:Hid ((nats (l.map (nmAt f))).length=k):=by show _=_;rw[q72,zbz,q.out]
   rw[zar (by rw[q.out];exact zad _)]at g;go_wp2_with fail;go_ret;exact⟨x,B,by rw[I.out];rfl,by rw[I.out];exact g,a⟩
theorem qlb (cs:List Value) (x:qi) (A:Option Addr) (m c:Nat) (f:List Int) (w:World) (h:qf.rd w cs x) (r:AlgP x) (j:RdL RI w A m f):
  Calls Tryz.prog 167 #[.agg cs.toArray,.agg cs.toArray,.slice A m c] w (Bl w (.bool (mpB x.1.toNat f))):=by
 obtain⟨B,k,d,rfl,-,G⟩:=qv h;obtain⟨n,u⟩:∃n:Nat,x.1=(n:Int):=⟨x.1.toNat,by have:=r.1;omega⟩;have l:Hid (x.1.toNat=n):=by show _=_;omega
 have F:n<=8:=by have:=r.2.1;omega
 rw[l.out,u];obtain⟨I,i,o,g,y,C⟩:=q1q w #[.int .i64 (n:Int),.slice B k d] #[.int .i64 (n:Int),.slice B k d] 24 24;have b:=zaa i;have p:=y.cell 0;have q:=C.cell 0;simp at p q;have H:=j.next qd o;have D:=zaa j.len;have v:=j.le;have s:=zaa (q52 A m c f (n:Int) I H (by omega) (by omega));obtain⟨E,a⟩:∃z,Hid (q1z 0 ((n:Int) - 1) f=z):=⟨_,rfl⟩;rw[a.out]at s;have t:Hid (mpB n f=(decide (m=n) &&E)):=by show _=_;unfold mpB;rw[a.out,D.out]
 clear i g G h r j u
 by_cases hmn:m=n
 .subst hmn
  have hd:((m:Int)==(m:Int))=true:=by simp
  go_enter Tryz.func167,Tryz.ntmps167
  go_upto_region 1 with fail;rw[<-b.out];go_wp2_with fail;refine s.out.mono ?_;rintro e J ⟨rfl,rfl⟩;go_wp2_with fail;go_ret;exact⟨qg (by rw[t.out];simp),o⟩
 .have hd:((m:Int)==(n:Int))=false:=by rw[zbj];omega
  go_enter Tryz.func167,Tryz.ntmps167
  go_upto_region 1 with fail;rw[<-b.out];go_wp2_with fail;go_ret;exact⟨qg (by rw[t.out,zbi hmn];rfl),o⟩
def FsE (w:World) (P:Prop) (e:Ending) (w':World):Prop:=∃v1 v2 b,e=.returned (.tuple #[v1,v2,.bool b])/\(b=false↔P)/\Below w.heap.size w w'
theorem qgc (cs:List Value) (x:qi) (A:Option Addr) (n c:Nat) (f:List Int) (w:World) (h:qf.rd w cs x) (hx:AlgP x) (hn:x.1=(n:Int)) (hr:RdL RI w A n f) (hf:MpL n f):
  Calls Tryz.prog 168 #[.agg cs.toArray,.agg cs.toArray,.slice A n c] w (FsE w (HomP n x.2 f)):=by
 have hrd:=h;obtain⟨a,u⟩:=x;obtain⟨hx1,hx2,ac,t⟩:=hx;simp only at hx1 hx2 ac t hn;subst hn;rw[za5]at t;have aa:0<n:=by omega
 have hn8:n<=8:=by omega
 obtain⟨B,m,d,rfl,-,qo⟩:=qv h;have HML:=zaa qo.len;have HOPS:=zaa t;have hm4:m<=4:=by rw[<-qo.len];exact ac
 obtain⟨T,hw0,T0,hsz0,BP,BQ⟩:=q1q w #[.int .i64 (n:Int),.slice B m d] #[.int .i64 (n:Int),.slice B m d] 24 24;have HW0:=zaa hw0;have HRD:Hid (∀s,Below T.heap.size T s->qf.rd s [.int .i64 (n:Int),.slice B m d] ((n:Int),u)):=fun s C=>qf.stab (qf.stab hrd T0.block) C.block
 replace qo:=qo.next T0;have r0:=hr.next qd T0;obtain⟨cP0,Y⟩:=cl2 BP;obtain⟨cQ0,cQ1⟩:=cl2 BQ;have HF:=zaa hf;clear hw0 hsz0 ac t h hr hrd hf
 go_enter Tryz.func168,Tryz.ntmps168
 go_upto_region 1 with fail;rw[<-HW0.out];go_wp2_with fail
 go_loopw [9] (fun i wr=>∃k:Nat,k<=m/\i=.int .i64 k/\Hid (HomTo n u f k 0)/\Below T.heap.size T wr) (fun i _=>m - (intOf i).toNat)
 case atStart=>exact⟨0,zah _,rfl,HomTo.start _ _ _,zac _ _⟩
 case round=>
  obtain⟨k,hk,rfl,HI,r⟩:=hrel;have N:=qe r Y
  by_cases hlt:k<m
  .have hk0:(0:Int)<=(k:Int):=by omega
   have hk1:(k:Int)<(m:Int):=by omega
   obtain⟨b,o,vs,op,rfl,-,hc,hrr,-,ad⟩:=qo.at hlt;obtain⟨B',F,d',rfl,-,qt⟩:=rdOp hrr;have L:=HOPS.out op (zaf ad);obtain⟨j,tb,rfl,har⟩:=q89 L;have J:=zaa ad;have HTL:Hid (F=n ^ j):=by show _=_;rw[<-qt.len];have:=L.2.2.1;simpa using this
   have HTB:Hid (tb.length=F):=qt.len;have HTV:=zaa L.2.2.2;have hm512:F<=4096:=by rw[HTL.out];exact q47 hn8 (by omega)
   have cc0:T.cell? ⟨b,o+k*2,none⟩=some (.int .i64 (j:Int)):=hc 0 _ rfl;have cc1:T.cell? ⟨b,o+k*2+1,none⟩=some (.slice B' F d'):=hc 1 _ rfl;clear hc hrr ad L;go_wp2_with fail;clear N
   go_loopw [10] (fun i wi=>∃q:Nat,q<=F/\i=.int .i64 q/\Hid (HomTo n u f k q)/\Below T.heap.size T wi) (fun i _=>F - (intOf i).toNat)
   case atStart=>exact⟨0,zah _,rfl,HI,r⟩
   case round=>
    clear HI r;obtain⟨q,hq,rfl,HI,r⟩:=hrel;have kP0:=qe r cP0;have N:=qe r Y;have kc0:=qe r cc0;have kc1:=qe r cc1
    by_cases hlq:q<F
    .have hq0:(0:Int)<=(q:Int):=by omega
     have hq1:(q:Int)<(F:Int):=by omega
     have HA:Hid (∀s,Below wr.heap.size wr s->Calls Tryz.prog 116 #[.int .i64 (n:Int),.int .i64 (j:Int),.int .i64 (q:Int)] s fun e w'=>∃g,e=.returned (.slice (some ⟨g,0,none⟩) j j)/\w'.ownsRow s.heap.size 3 1 (.slice (some ⟨g,0,none⟩) j j) j (ints (nats (digs n j q)))/\Below s.heap.size s w'):=fun s C=>q59 q j n s aa (by omega) (by omega) (by omega)
     have p:Below wr.heap.size wr wr:=zac _ _;go_upto_region 7 with fail
     go_cut [11]from 30 to 60 (fun u8 wx=>∃g,u8=.slice (some ⟨g,0,none⟩) j j/\wx.ownsRow wr.heap.size 3 1 (.slice (some ⟨g,0,none⟩) j j) j (ints (nats (digs n j q)))/\Below wr.heap.size wr wx)
     case first=>
      go_region_held3 (fun w'=>w'.cell? ⟨w.heap.size,0,none⟩=some (.int .i64 (n:Int))/\w'.cell? ⟨w.heap.size,1,none⟩=some (.slice (some ⟨b,o,none⟩) m d)/\w'.cell? ⟨b,o+k*2,none⟩=some (.int .i64 (j:Int))) (first|go_keep|exact⟨qe p kP0,qe p N,qe p kc0⟩) (first
       |(go_at_call 116;(with_reducible refine(HA.out _ ?_).mono ?_);(first|exact p|exact zai p);rintro e wn ⟨g,rfl,E,D⟩;replace p:=q9 (by first|exact p|exact zai p) D rfl))
      all_goals
       have HON:=zaa E;clear E;go_wp2_with fail;go_meet;exact⟨g,rfl,HON.out,by first|exact p|exact zai p⟩
     case rest=>
      obtain⟨g,rfl,ab,hTc⟩:=hcut;obtain⟨O,HWC⟩:∃wq:World,wq=wc:=⟨_,rfl⟩;subst HWC;have G:=q9 r hTc rfl;obtain⟨ds,H⟩:∃l,Hid (digs n j q=l):=⟨_,rfl⟩;have V:Hid (∀dd∈ds,dd<n):=fun dd K=>by rw[<-H.out]at K;exact q20 aa K
      have HDL:Hid (ds.length=j):=by show _=_;rw[<-H.out,q1t]
      rw[H.out]at ab
      have rA:=q12 (R:=RI) ab (q1r fun v hv=>by
       obtain⟨dd,K,rfl⟩:=zbe.1 hv;have:=V.out dd K
       omega)
      obtain⟨l8,I⟩:∃l,Hid (ds.map (nmAt f)=l):=⟨_,rfl⟩;have Q:Hid (∀z∈l8,z<n):=fun z C=>by
       rw[<-I.out]at C;obtain⟨y,hy,rfl⟩:=zbe.1 C;exact(HF.out.at (V.out y hy)).2
      have P:Hid ((nats l8).length=j):=by show _=_;rw[q72,<-I.out,zbz,HDL.out]
      have HIX:Hid (idx n l8=toI n j f q):=by show _=_;unfold toI;rw[H.out,I.out]
      obtain⟨b3,o3,u3,v,rfl,hc3,⟨rfl,-,-⟩,-,ae⟩:=(qt.next qd G).at hlq;have hvi:=HTV.out v (zaf ae);obtain⟨y,rfl⟩:=zan hvi.1;have hyn:y<n:=by omega
      have HY:Hid (nmAt tb q=y):=by show _=_;rw[q1d ae];simp
      have Z:=HF.out.at hyn;obtain⟨fy,W⟩:∃z,Hid (nmAt f y=z):=⟨_,rfl⟩;rw[W.out]at Z;obtain⟨b4,o4,u4,v4,rfl,hc4,⟨rfl,-,-⟩,-,t⟩:=(r0.next qd G).at hyn;rw[Z.1]at t;injection t with t
      subst t;have hIMl:toI n j f q<F:=by rw[HTL.out];exact HF.out.im aa _ _
      obtain⟨u5,v5,hc5,⟨rfl,-,-⟩,-,M⟩:=(qt.next qd G).at' hIMl;have S:=HTV.out v5 (zaf M);obtain⟨z,rfl⟩:=zan S.1;have HZ:Hid (nmAt tb (toI n j f q)=z):=by show _=_;rw[q1d M];simp
      have HX5:=zaa M;have HIM:Hid (∀s,Below O.heap.size O s->Calls Tryz.prog 117 #[.slice (some ⟨b4,o4,none⟩) n c,.slice (some ⟨g,0,none⟩) j j] s (OwI s (nats l8))):=fun s C=>by
       have:=q97 (some ⟨b4,o4,none⟩) (some ⟨g,0,none⟩) n c j j f ds s ((r0.next qd G).next qd C) HF.out (rA.next qd C) V.out (by omega) (by omega)
       rwa [I.out]at this
      have HVA:Hid (∀(A:Option Addr) (c8:Nat) (s:World),Below O.heap.size O s->RdL RI s A j (nats l8)->Calls Tryz.prog 196 #[.agg #[.int .i64 (n:Int),.slice (some ⟨b,o,none⟩) m d],.int .i64 (k:Int),.slice A j c8] s (Bl s (.int .i64 (z:Int)))):=fun A c8 s C hra=>q7k _ ((n:Int),u) A j c8 k n j z l8 tb s (HRD.out s (q9 G C rfl)) rfl hn8 hra Q.out (by omega) J.out (by rw[HIX.out];exact HX5.out)
      obtain⟨bb,U⟩:∃z',Hid (((fy:Int) !=(z:Int))=z'):=⟨_,rfl⟩;have hy0:(0:Int)<=(y:Int):=by omega
      have hy1:(y:Int)<(n:Int):=by omega
      have jP1:=qe G Y;have jQ0:=qe G cQ0;have jQ1:=qe G cQ1;have jc1:=qe G cc1;have p:Below O.heap.size O O:=zac _ _;clear ae hvi M S Z kP0 N kc0 kc1 ab;go_upto_region 8 with fail
      go_cut [58]from 40 to 60 (fun u58 wx=>u58=.bool bb/\Below O.heap.size O wx)
      case first=>
       go_region_held3 (fun w'=>w'.cell? ⟨w.heap.size,1,none⟩=some (.slice (some ⟨b,o,none⟩) m d)/\w'.cell? ⟨w.heap.size+1,0,none⟩=some (.int .i64 (n:Int))/\w'.cell? ⟨w.heap.size+1,1,none⟩=some (.slice (some ⟨b,o,none⟩) m d)/\w'.cell? ⟨b,o+k*2+1,none⟩=some (.slice (some ⟨b3,o3,none⟩) F d')/\w'.cell? ⟨b3,o3+q,none⟩=some (.int .i64 (y:Int))/\w'.cell? ⟨b4,o4+y,none⟩=some (.int .i64 (fy:Int))) (first|go_keep|exact⟨qe p jP1,qe p jQ0,qe p jQ1,qe p jc1,qe p hc3,qe p hc4⟩) (first
        |(go_at_call 117;(with_reducible refine(HIM.out _ ?_).mono ?_);(first|exact p|exact zai p);rintro e wn ⟨A8,c8,rfl,E,D⟩;rw[P.out]at E;rw[P.out];have r8:=q12 (R:=RI) E (q1r fun v hv=>(by obtain⟨zz,hzz,rfl⟩:=zbe.1 hv;have:=Q.out zz hzz;omega));replace p:=q9 (by first|exact p|exact zai p) D rfl)
        |(go_at_call 196;(with_reducible refine(HVA.out _ _ _ ?_ ?_).mono ?_);(first|exact p|exact zai p);(first|exact r8|exact r8.drew qd);rintro e wn ⟨rfl,D⟩;replace p:=q9 (by first|exact p|exact zai p) D rfl))
       all_goals
        go_wp2_with fail;go_meet;exact⟨by rw[<-U.out],by first|exact p|exact zai p⟩
      case rest=>
       obtain⟨rfl,hTc2⟩:=hcut;have TN:=q9 G hTc2 rfl
       rcases bb with _|_
       .have X:Hid (HomTo n u f k (q+1)):=HI.out.entry J.out (by
         simp only[za5];rw[HY.out,W.out,HZ.out];have:=U.out;have h2:(fy:Int)=(z:Int):=by simpa using this
         omega)
        go_wp2_with fail
        go_roundw
        case rel=>exact⟨q+1,by omega,by go_num,X,TN⟩
        case measure=>simp[intOf];try omega
       .have HNO:Hid (¬HomP n u f):=fun hh=>by
         have h1:=hh _ (zaf J.out) q (by have:=HTB.out;simp only;omega);simp only[za5]at h1;rw[HY.out,W.out,HZ.out]at h1;have:=U.out;rw[h1]at this;simp at this
        go_wp2_with fail
        go_ret3
        exact⟨_,_,true,rfl,⟨fun h=>(by cases h),fun h=>absurd h HNO.out⟩,q9 T0 TN rfl⟩
    .have hq1:¬(q:Int)<(F:Int):=by omega
     have X:Hid (HomTo n u f (k+1) 0):=HI.out.op J.out (by have:=HTB.out;simp only;omega);go_wp2_with fail
     go_roundw
     case rel=>exact⟨k+1,by omega,by go_num,X,r⟩
     case measure=>simp[intOf];try omega
  .have hk1:¬(k:Int)<(m:Int):=by omega
   have HD:Hid (HomP n u f):=HI.out.done (by rw[HML.out];exact hlt);have C:=r.size;go_wp2_with fail
   go_ret3
   exact⟨_,_,false,rfl,⟨fun _=>HD.out,fun _=>rfl⟩,q9 T0 (r.alloc C _) rfl⟩
theorem q1p {w:World} {base size n g i:Nat} {e t:TypeId} {v u:Value} {xs:List Value} {cs:Array Value} (h:w.ownsRow base e size v n xs) (c:Blk w g t cs) (a:e≠t):(w.setCell ⟨g,i,none⟩ u).ownsRow base e size v n xs:=by
 refine q2p h fun b f=>za8 w _ u b ?_
 obtain⟨q,d⟩:=h
 rcases d with⟨d,r⟩|⟨p,j,k,o,l,m,_⟩
 .subst d
  simp[Value.ownBlock]at f
 .subst o
  simp[Value.ownBlock]at f;subst f;rintro rfl;unfold Blk at c;rw[m]at c;simp at c
  first|exact a c.2|exact a c.2.symm|exact a c.1
theorem qq5 {w0 W:World} {g l m:Nat} {k:Int} {b c d:Value} {xs n:List Value} (i:Blk W g 57 #[.int .i64 0,.slice none 0 0,.slice none 0 0,.slice none 0 0])
  (q:W.ownsRow w0.heap.size 3 1 b l xs) (r:W.ownsRow w0.heap.size 3 1 c m n) (s:W.ownsRow w0.heap.size 3 1 d 0 []) (t:Below w0.heap.size w0 W) (j:w0.heap.size<=g):
  ∀ W', W' = (((W.setCell ⟨g, 0, none⟩ (.int .i64 k)).setCell ⟨g, 1, none⟩ b).setCell ⟨g, 2, none⟩ c).setCell ⟨g, 3, none⟩ d ->
    Blk W' g 57 #[.int .i64 k, b, c, d] /\ W'.ownsRow w0.heap.size 3 1 b l xs /\ W'.ownsRow w0.heap.size 3 1 c m n /\ W'.ownsRow w0.heap.size 3 1 d 0 [] /\ Below w0.heap.size w0 W' := by
 rintro W' rfl;have e:=i.set_ 0 (.int .i64 k);have f:=e.set_ 1 b;have h:=f.set_ 2 c;have o:=h.set_ 3 d;have a:3≠57:=by decide
 refine⟨by simpa using o,q1p (q1p (q1p (q1p q i a) e a) f a) h a,q1p (q1p (q1p (q1p r i a) e a) f a) h a,q1p (q1p (q1p (q1p s i a) e a) f a) h a,?_⟩;exact(((t.setCell (p:=⟨g,0,none⟩) j _).setCell (p:=⟨g,1,none⟩) j _).setCell (p:=⟨g,2,none⟩) j _).setCell (p:=⟨g,3,none⟩) j _
theorem qi0 {w:World} {base size n:Nat} {e:TypeId} {v u:Value} {xs:List Value} {p:Addr} (h:w.ownsRow base e size v n xs) (a:∀q,v.ownBlock=some q->q≠p.block):(w.setCell p u).ownsRow base e size v n xs:=q2p h fun b c=>za8 w p u b (a b c)
theorem qqw {xs L:List Int} {y:Int} (h:PutP xs y L):0<L.length:=by
 obtain⟨k,b,-,⟨a,rfl⟩|⟨-,rfl⟩⟩:=h
 .have:=(zag.1 a).1
  omega
 .simp
  omega
theorem qqq {n:Nat} {V:List Int} (h:InL n V):nats (V.map Int.toNat)=V/\∀z∈V.map Int.toNat,z<n:=by
 constructor
 .unfold nats
  rw[zfz]
  conv=>rhs;rw[<-List.map_id V]
  refine zec fun v a=>?_
  have:=h v a;show((v.toNat:Nat):Int)=v;omega
 .intro z b
  obtain⟨v,a,rfl⟩:=zbe.1 b;have:=h v a;omega
theorem qkh {n:Nat} {V s:List Int} (a:PermL n s) (h:InL n V):nats ((V.map Int.toNat).map (nmAt s))=comp V s:=by
 unfold nats comp;rw[zfz,zfz];refine zec fun v b=>?_
 have c:=h v b;show((nmAt s v.toNat:Nat):Int)=nmI s v;have:=q27 a (x:=v.toNat) (by omega);rw[this]
 congr 1
 omega
theorem qcv (k:Int) (AL:Option Addr) (f cL:Nat) (AR:Option Addr) (l cR:Nat) (AV:Option Addr) (t cV:Nat) (AS:Option Addr) (n cS:Nat) (L R V s:List Int) (w:World) (hL:RdL RI w AL f L) (hR:RdL RI w AR l R) (hV:RdL RI w AV t V) (hS:RdL RI w AS n s)
  (hp:PermL n s) (hn:n<=1000) (h1:f<=1048576) (h2:l<=1048576) (h3:t<=1000) (hVi:InL n V) (hk:1<=k/\k<=6) (hk1:k=1->V= []) (h35:k=3\/k=5->V.Nodup) (h46:k=4\/k=6->V.length=n):
  Calls Tryz.prog 65 #[.agg #[.int .i64 k,.slice AL f cL,.slice AR l cR,.slice AV t cV],.slice AS n cS] w (CfE w (k,(L,R),rfL k V s)):=by
 obtain rfl:L.length=f:=hL.len;obtain rfl:R.length=l:=hR.len;obtain⟨f,HNL⟩:∃n,Hid (L.length=n):=⟨_,rfl⟩;obtain⟨l,HNR⟩:∃n,Hid (R.length=n):=⟨_,rfl⟩;obtain⟨X,HX⟩:∃X,Hid (rfL k V s=X):=⟨_,rfl⟩;obtain⟨T,HNX⟩:∃q,Hid (X.length=q):=⟨_,rfl⟩;rw[HX.out];unfold CfE;simp only;rw[HNX.out];rw[HNL.out]at hL h1⊢;rw[HNR.out]at hR h2⊢;have hsl:s.length=n:=hp.1;obtain⟨w0,hw0,T0,hsz0,BP,BQ⟩:=q1q w #[.int .i64 k,.slice AL f cL,.slice AR l cR,.slice AV t cV] #[.int .i64 0,.slice none 0 0,.slice none 0 0,.slice none 0 0] 57 57;have HW0:=zaa hw0;have HC:Hid (∀wz,Below w0.heap.size w0 wz->Calls Tryz.prog 109 #[.agg #[.slice AL f cL,.slice AR l cR]] wz fun e w'=>∃F H G I,e=.returned (.agg #[.slice F f H,.slice G l I])/\w'.ownsRow wz.heap.size 3 1 (.slice F f H) f (ints L)/\w'.ownsRow wz.heap.size 3 1 (.slice G l I) l (ints R)/\Apart (.slice F f H) (.slice G l I)/\Below wz.heap.size wz w'):=fun wz hz=>by
  have:=qec AL f cL AR l cR L R wz ((hL.next qd T0).next qd hz) ((hR.next qd T0).next qd hz) h1 h2;unfold CeE at this;rw[HNL.out,HNR.out]at this;exact this
 have HVR:Hid (∀wz,Below w0.heap.size w0 wz->RdL RI wz AV t V):=fun wz hz=>(hV.next qd T0).next qd hz
 have HSR:Hid (∀wz,Below w0.heap.size w0 wz->RdL RI wz AS n s):=fun wz hz=>(hS.next qd T0).next qd hz
 have HP:=zaa hp;have HVI:=zaa hVi;have HVL:=zaa hV.len;have HK1:=zaa hk1;have H35:=zaa h35;have H46:=zaa h46;have HSL:=zaa hsl;obtain⟨B,C,D,o⟩:=cl4 BP;have HCP:Hid (w0.cell? ⟨w.heap.size,0,none⟩=some (.int .i64 k)/\w0.cell? ⟨w.heap.size,1,none⟩=some (.slice AL f cL)/\w0.cell? ⟨w.heap.size,2,none⟩=some (.slice AR l cR)/\w0.cell? ⟨w.heap.size,3,none⟩=some (.slice AV t cV)):=⟨B,C,D,o⟩;have hs0:w.heap.size+1<w0.heap.size:=by omega
 have HT0:=zaa T0;have y:Below w0.heap.size w0 w0:=zac _ _;clear hw0 hsz0 hL hR hV hS hp hVi hk1 h35 h46 hsl T0
 go_enter Tryz.func65,Tryz.ntmps65
 go_upto_region 1 with fail;rw[<-HW0.out];have c00:=B;have c01:=C;have c02:=D;have c03:=o;have c00:=B;have c01:=C;have c02:=D;have c03:=o;have c00:=B;have c01:=C;have c02:=D;have c03:=o;have c00:=B;have c01:=C;have c02:=D;have c03:=o;have c00:=B;have c01:=C;have c02:=D;have c03:=o;have c00:=B;have c01:=C;have c02:=D;have c03:=o;have c00:=B;have c01:=C;have c02:=D;have c03:=o
 go_cut [5]from 8 to 14 (fun u5 wx=>∃g ge F H G I,u5=.pointer (some ⟨g,0,none⟩)/\w0.heap.size<=g/\Blk wx g 57 #[.int .i64 k,.slice F f H,.slice G l I,.slice (some ⟨ge,0,none⟩) 0 0]/\wx.ownsRow w0.heap.size 3 1 (.slice F f H) f (ints L)/\wx.ownsRow w0.heap.size 3 1 (.slice G l I) l (ints R)/\wx.ownsRow w0.heap.size 3 1 (.slice (some ⟨ge,0,none⟩) 0 0) 0 []/\Below w0.heap.size w0 wx/\Apart (.slice F f H) (.slice G l I)/\Apart (.slice F f H) (.slice (some ⟨ge,0,none⟩) 0 0)/\Apart (.slice G l I) (.slice (some ⟨ge,0,none⟩) 0 0))
 case first=>
  refine zca (S:=fun w'=>w'.cell? ⟨w.heap.size,0,none⟩=some (.int .i64 k)/\w'.cell? ⟨w.heap.size,1,none⟩=some (.slice AL f cL)/\w'.cell? ⟨w.heap.size,2,none⟩=some (.slice AR l cR)) (by kernel_rfl) ⟨B,C,D⟩ (fun hHeld=>?_);obtain⟨wn,ad,u⟩:=dr0 w0;rw[<-ad.out]at hHeld⊢
  try replace y:=q9 y u rfl
  have zkk:=kk3 u B C D;clear B C D;obtain⟨B,C,D⟩:=zkk;have zwn:=u.size;clear u ad
  repeat' (first
   | ((first
       | (with_reducible refine Tg.mk (i := 4) (fun K hK => ?_)
          go_simp;refine (HC.out _ y).mono ?_;rintro e wm ⟨F, H, G, I, rfl, a, d, P, u⟩
          try have ab := (q13 O5 a (zad _)).symm
          try have ac := (q13 O5 d (zad _)).symm
          replace a := ql (base' := w0.heap.size) a y.size;replace d := ql (base' := w0.heap.size) d y.size
          go_wp2_with fail)
       | (with_reducible refine Tg.mk (i := 5) (fun K hK => ?_)
          try have hq1 := a
          try have hq2 := d
          go_simp;obtain ⟨wm, g5, ad, Hg5, u, B5, zg5, yg5⟩ := al2 wn #[] 3;rw [<- ad.out, <- Hg5.out];have O5 : wm.ownsRow g5 3 1 (.slice (some ⟨g5, 0, none⟩) 0 0) 0 [] := by rw [ad.out, Hg5.out]; exact zb7 wn #[] 0 (zad _) (zah _) rfl
          try have ab := q13 hq1 O5 zg5
          try have ac := q13 hq2 O5 zg5
          replace zg5 := za7 zwn zg5)
       | (with_reducible refine Tg.mk (i := 7) (fun K hK => ?_)
          go_simp;obtain ⟨wm, g7, ad, Hg7, u, B7, zg7, yg7⟩ := al2 wn #[.int .i64 0, .slice none 0 0, .slice none 0 0, .slice none 0 0] 57;rw [<- ad.out, <- Hg7.out]
          replace zg7 := za7 zwn zg7))
      replace zwn := za7 zwn u.size
      try replace y := q9 y u rfl
      try replace a := qp a u
      try replace d := qp d u
      try replace O5 := qp O5 u
      try replace B5 := B5.next u
      try replace yg5 := zcu yg5 u.size
      try replace B7 := B7.next u
      try replace yg7 := zcu yg7 u.size
      have zkk := kk3 u B C D;clear B C D;obtain ⟨B, C, D⟩ := zkk;clear u;clear hHeld;refine hK.out _ _ ⟨B, C, D⟩ (fun hHeld => ?_);clear hK K
      (try simp only [Act.put, zA, zB, zC, zD, zE, zF])
      obtain ⟨wn, hwn⟩ : ∃ x : World, x = wm := ⟨_, rfl⟩
      subst hwn)
   | (with_reducible refine Tg.mk (i := 8) (fun K hK => ?_)
      obtain ⟨gC0, gC1, gC2, E, gF0, gF1, gF2, gF3⟩ := cf4 B7;go_simp;obtain ⟨wm, ad⟩ : ∃ x, Hid (x = (((wn.setCell ⟨g7, 0, none⟩ (.int .i64 k)).setCell ⟨g7, 1, none⟩ (.slice F f H)).setCell ⟨g7, 2, none⟩ (.slice G l I)).setCell ⟨g7, 3, none⟩ (.slice (some ⟨g5, 0, none⟩) 0 0)) := ⟨_, rfl⟩;rw [<- ad.out];obtain ⟨BGf, HOF⟩ := qq5 (w0 := w0) (g := g7) (k := k) B7 a d (ql O5 zg5) y zg7 _ ad.out;replace B := qe HOF.2.2.2 c00;replace C := qe HOF.2.2.2 c01;replace D := qe HOF.2.2.2 c02;clear hHeld;refine hK.out _ _ ⟨B, C, D⟩ (fun hHeld => ?_);clear hK K
      (try simp only [Act.put, zA, zB, zC, zD, zE, zF])
      obtain ⟨wn, hwn⟩ : ∃ x : World, x = wm := ⟨_, rfl⟩
      subst hwn)
   | (refine pl 0 (by decide +kernel) (.pointer (some ⟨w.heap.size, 0, none⟩)) rfl ?_
      (try simp only [Act.put, zA, zB, zC, zD, zE, zF]))
   | (refine ul 1 (by decide +kernel) (.int .i64 k) rfl (.inl ⟨by kernel_rfl, fun wv M => by (obtain ⟨hS0, hS1, hS2⟩ := M); go_simp⟩) ?_
      (try simp only [Act.put, zA, zB, zC, zD, zE, zF]))
   | (refine pl 2 (by decide +kernel) (.pointer (some ⟨w.heap.size, 1, none⟩)) rfl ?_
      (try simp only [Act.put, zA, zB, zC, zD, zE, zF]))
   | (refine ul 3 (by decide +kernel) (.agg #[.slice AL f cL, .slice AR l cR]) rfl (.inl ⟨by kernel_rfl, fun wv M => by (obtain ⟨hS0, hS1, hS2⟩ := M); go_simp⟩) ?_
      (try simp only [Act.put, zA, zB, zC, zD, zE, zF]))
   | (refine pl 6 (by decide +kernel) (.agg #[.int .i64 k, .slice F f H, .slice G l I, .slice (some ⟨g5, 0, none⟩) 0 0]) rfl ?_
      (try simp only [Act.put, zA, zB, zC, zD, zE, zF]))
   |(refine s3 4 5 7 (by decide+kernel) rfl ?_ rfl ?_ rfl ?_)
   |(refine s2 5 7 (by decide+kernel) rfl ?_ rfl ?_)
   |(refine s1 7 (by decide+kernel) rfl ?_)
   |(refine s1 8 (by decide+kernel) rfl ?_)
   |(refine s1 5 (by decide+kernel) rfl ?_)
   |(refine s2 4 7 (by decide+kernel) rfl ?_ rfl ?_)
   |(refine s1 4 (by decide+kernel) rfl ?_)
   |(refine s2 4 5 (by decide+kernel) rfl ?_ rfl ?_)
   | (refine zcf (by decide +kernel) ?_ _
      go_wp2_with fail;go_meet
      exact ⟨_, _, F, H, G, I, rfl, zg7, BGf, HOF.1, HOF.2.1, HOF.2.2.1, HOF.2.2.2, P, ab, ac⟩))
 case rest=>
  clear y c00 c01 c02 c03;obtain⟨g,ge,F,H,G,I,rfl,hgl,J,a,d,hoe,y,P,ab,ac⟩:=hcut;obtain⟨w1,HWC⟩:∃wq:World,wq=wc:=⟨_,rfl⟩;subst HWC;have hz1:=y.size;have hg1:=J.lt;have af:=zaa P;clear P;replace B:=qe y HCP.out.1;replace C:=qe y HCP.out.2.1;replace D:=qe y HCP.out.2.2.1;replace o:=qe y HCP.out.2.2.2;obtain⟨gC0,gC1,gC2,E,gF0,gF1,gF2,gF3⟩:=cf4 J
  go_upto_block 0 with fail
  go_cut []from 6 to 73 (fun wx=>∃A3 m Z Y,Blk wx g 57 #[.int .i64 k,.slice F f H,.slice G l I,.slice A3 m Z]/\wx.ownsRow w0.heap.size 3 1 (.slice F f H) f (ints L)/\wx.ownsRow w0.heap.size 3 1 (.slice G l I) l (ints R)/\wx.ownsRow w0.heap.size 3 1 (.slice A3 m Z) m (ints Y)/\Below w0.heap.size w0 wx/\Apart (.slice F f H) (.slice G l I)/\Apart (.slice F f H) (.slice A3 m Z)/\Apart (.slice G l I) (.slice A3 m Z)/\(k=4->kerL Y=X/\m=n/\InL n Y)/\(k≠4->Y=X))
  case first=>
   obtain⟨cV',hcV⟩:∃c,c=cV:=⟨_,rfl⟩;subst hcV;obtain⟨kc,hkc⟩:∃q:Int,Hid (q=k):=⟨k,zaa rfl⟩;rw[<-hkc.out]at J;obtain rfl|rfl|h35|h46:k=1\/k=2\/(k=3\/k=5)\/(k=4\/k=6):=by omega
   .
    rw[hkc.out]at J;have HXV:Hid ([]=X):=by show _=_;rw[<-HX.out,HK1.out rfl];simp[rfL]
    go_wp2_with fail;go_meet;exact⟨some ⟨ge,0,none⟩,0,0, [],J,a,d,hoe,y,af.out,ab,ac,fun h=>absurd h (by decide),fun _=>HXV.out⟩
   .
    rw[hkc.out]at J;have HIM:Hid (Calls Tryz.prog 117 #[.slice AS n cS,.slice AV t cV'] w1 fun e w'=>∃A c,e=.returned (.slice A T c)/\w'.ownsRow w1.heap.size 3 1 (.slice A T c) T (ints X)/\Below w1.heap.size w1 w'):=by
     have hnv:=qqq HVI.out;have:=q97 AS AV n cS t cV' s (V.map Int.toNat) w1 (HSR.out w1 y) ⟨HP.out.1,HP.out.2.1⟩ (by rw[hnv.1];exact HVR.out w1 y) hnv.2 h3 hn;unfold OwI at this;rw[qkh HP.out HVI.out]at this;have hx:comp V s=X:=by rw[<-HX.out];simp[rfL]
     rw[hx,HNX.out]at this;exact this
    go_wp2_with fail;refine HIM.out.mono ?_;rintro e w2 ⟨A3,Z,rfl,ae,hb2⟩;have BG2:=J.next hb2;have T2:=q9 y hb2 rfl;have hq1:=qp a hb2;have hq2:=qp d hb2;have ha13:=q13 a ae (zad _);have ha23:=q13 d ae (zad _);have gD3:=BG2.cell 3;simp at gD3;have gE3:=BG2.frozen 3;obtain⟨w3,W⟩:∃x,Hid (x=w2.setCell ⟨g,3,none⟩ (.slice A3 T Z)):=⟨_,rfl⟩;have U:Blk w3 g 57 #[.int .i64 2,.slice F f H,.slice G l I,.slice A3 T Z]:=by rw[W.out];simpa using BG2.set_ 3 (.slice A3 T Z)
    have hr1:w3.ownsRow w0.heap.size 3 1 (.slice F f H) f (ints L):=by rw[W.out];exact q1p hq1 BG2 (by decide)
    have hr2:w3.ownsRow w0.heap.size 3 1 (.slice G l I) l (ints R):=by rw[W.out];exact q1p hq2 BG2 (by decide)
    have hr3:w3.ownsRow w0.heap.size 3 1 (.slice A3 T Z) T (ints X):=by rw[W.out];exact q1p (ql ae hz1) BG2 (by decide)
    have T3:Below w0.heap.size w0 w3:=by rw[W.out];exact T2.setCell (p:=⟨g,3,none⟩) (by exact hgl) _
    have HH:=zaa (zao U (zao hr1 (zao hr2 (zao hr3 (zao T3 (zao ha13 ha23))))));clear U hr1 hr2 hr3 T3 ha13 ha23 J a d hoe gC0 gC1 gC2 E gF0 gF1 gF2 gF3 hq1 hq2 ae B C D o;go_wp2_with fail;rw[<-W.out];go_meet;exact⟨A3,T,Z,X,HH.out.1,HH.out.2.1,HH.out.2.2.1,HH.out.2.2.2.1,HH.out.2.2.2.2.1,af.out,HH.out.2.2.2.2.2.1,HH.out.2.2.2.2.2.2,fun h=>absurd h (by decide),fun _=>rfl⟩
   .
    obtain rfl|rfl:=h35
    all_goals
     have HXE:Hid (X=q1m n fun z=>hasI (z:Int) (comp V s)):=by
      show X=_
      rw[<-HX.out];unfold rfL;rw[zaj (by decide),zam (by decide),HSL.out]
     go_wp2_with fail
     go_loopw [6] (fun i wr=>∃(j b m Z:Nat) (Y:List Int),j<=t/\i=.int .i64 j/\Blk wr g 57 #[.int .i64 kc,.slice F f H,.slice G l I,.slice (some ⟨b,0,none⟩) m Z]/\wr.ownsRow w0.heap.size 3 1 (.slice F f H) f (ints L)/\wr.ownsRow w0.heap.size 3 1 (.slice G l I) l (ints R)/\wr.ownsRow w0.heap.size 3 1 (.slice (some ⟨b,0,none⟩) m Z) m (ints Y)/\Hid (Y=q1m n fun z=>hasI (z:Int) (comp (V.take j) s))/\Below w0.heap.size w0 wr/\Apart (.slice F f H) (.slice (some ⟨b,0,none⟩) m Z)/\Apart (.slice G l I) (.slice (some ⟨b,0,none⟩) m Z)) (fun i _=>t - (intOf i).toNat)
     case atStart=>exact⟨0,ge,0,0, [],zah _,rfl,J,a,d,hoe,(by show _=_;rw[zcw];simp[comp,q1m,hasI]),y,ab,ac⟩
     case round=>
      clear J a d hoe y ab ac gC0 gC1 gC2 E gF0 gF1 gF2 gF3 B C D o hz1 hg1;obtain⟨j,b,m,Z,Y,hj,rfl,J,a,d,hoY,HYE,y,ha1,ha2⟩:=hrel;have o:=qe y HCP.out.2.2.2;have E:=J.cell 3;simp at E
      by_cases hlt:j<t
      .have hj0:(0:Int)<=(j:Int):=by omega
       have hj1:(j:Int)<(t:Int):=by omega
       obtain⟨bv,ov,vv,vz,hAV,cV0,⟨rfl,-,-⟩,-,hvx⟩:=(HVR.out w0 (zac _ _)).at hlt;subst hAV;have hvi:=HVI.out vz (zaf hvx);obtain⟨N,rfl⟩:=zan hvi.1;have hvn:N<n:=by omega
       obtain⟨bs,os,vs,vn,hAS,cN0,⟨rfl,-,-⟩,-,hnx⟩:=(HSR.out w0 (zac _ _)).at hvn;subst hAS;obtain rfl:nmI s (N:Int)=vn:=by unfold nmI;rw[za5,zak,hnx];rfl
       have cV:=qe y cV0;have cN:=qe y cN0;have HCV:Hid (w0.cell? ⟨w.heap.size,3,none⟩=some (.slice (some ⟨bv,ov,none⟩) t cV')/\w0.cell? ⟨bv,ov+j,none⟩=some (.int .i64 (N:Int))/\w0.cell? ⟨bs,os+N,none⟩=some (.int .i64 (nmI s (N:Int)))):=⟨HCP.out.2.2.2,cV0,cN0⟩;have hv0:(0:Int)<=(N:Int):=by omega
       have hv1:(N:Int)<(n:Int):=by omega
       have hnz:=qeq HP.out hv0 hvi.2;have HZB:Hid (-2000<=nmI s (N:Int)/\nmI s (N:Int)<=2000):=⟨by omega,by omega⟩;have HZN:Hid (∃yq:Nat,nmI s (N:Int)=(yq:Int)/\yq<n):=⟨(nmI s (N:Int)).toNat,by omega,by omega⟩;have HTK:Hid (comp (V.take (j+1)) s=comp (V.take j) s++ [nmI s (N:Int)]):=by
        show _=_
        rw[zbp,hvx];simp[comp]
       have HMN:Hid (m<=1000):=by
        have h1:=hoY.1;rw[q4t,HYE.out]at h1;have:=q4u n fun z=>hasI (z:Int) (comp (V.take j) s)
        show m<=1000
        omega
       have HYB:Hid (∀z∈Y, -2000<=z/\z<=2000):=fun z hz=>by
        rw[HYE.out]at hz;have:=q3h _ hz;omega
       clear hnx hvx hnz hvi cV0 cN0;go_wp2_with fail;refine zca (S:=fun w'=>w'.cell? ⟨w.heap.size,3,none⟩=some (.slice (some ⟨bv,ov,none⟩) t cV')/\w'.cell? ⟨bv,ov+j,none⟩=some (.int .i64 N)/\w'.cell? ⟨bs,os+N,none⟩=some (.int .i64 (nmI s (N:Int)))) (by kernel_rfl) ⟨o,cV,cN⟩ (fun hHeld0=>?_);obtain⟨wt1,Hwt1⟩:∃x,Hid (x=World.drew wr):=⟨_,rfl⟩;have r:Below wr.heap.size wr wt1:=by rw[Hwt1.out];exact(zac _ _).drew
       rw[<-Hwt1.out]at hHeld0⊢;have ywt1:=r.size;replace y:=q9 y r rfl;replace J:=J.next r;replace a:=qp a r;replace d:=qp d r;replace hoY:=qp hoY r;have zkk:=kk4 r E o cV cN;clear E o cV cN;obtain⟨E,o,cV,cN⟩:=zkk;refine tp 0 (.pointer (some ⟨g,3,none⟩)) rfl ?_;refine tp 2 (.slice (some ⟨bs,os,none⟩) n cS) rfl ?_;refine tp 3 (.pointer (some ⟨w.heap.size,3,none⟩)) rfl ?_;refine tk 4 (.slice (some ⟨bv,ov,none⟩) t cV') rfl (.inl ⟨by kernel_rfl,fun wv M=>by(obtain⟨hS0,hS1,hS2⟩:=M);go_simp⟩) ?_;refine tp 5 (.int .i64 j) rfl ?_;refine tp 6 (.pointer (some ⟨bv,ov+j,none⟩)) rfl ?_;refine tk 7 (.int .i64 N) rfl (.inl ⟨by kernel_rfl,fun wv M=>by(obtain⟨hS0,hS1,hS2⟩:=M);go_simp⟩) ?_;refine tp 8 (.pointer (some ⟨bs,os+N,none⟩)) rfl ?_;refine tk 9 (.int .i64 (nmI s (N:Int))) rfl (.inl ⟨by kernel_rfl,fun wv M=>by(obtain⟨hS0,hS1,hS2⟩:=M);go_simp⟩) ?_
       (try simp only[Act.put,zA,zB,zC,zD,zE,zF])
       refine r1 1 rfl (fun K hK=>?_);go_simp;refine hK.out _ _ ⟨o,cV,cN⟩ (fun hHeld1=>?_);clear hK K hHeld0
       (try simp only[Act.put,zA,zB,zC,zD,zE,zF])
       refine r1 10 rfl (fun K hK=>?_);go_simp;refine(qbn w0.heap.size b m Z Y (nmI s (N:Int)) wt1 hoY y.size HMN.out HYB.out HZB.out).mono ?_;rintro e wt2 ⟨A9,m9,c9,L9,rfl,hoL,hm9,hP9,O,hor⟩;have hq1:=a;have hq2:=d;go_wp2_with fail;have ywt2:=O.size;replace y:=q9 y O rfl;replace J:=J.next O;replace a:=qp a O;replace d:=qp d O;replace hoY:=qp hoY O;have zkk:=kk4 O E o cV cN;clear E o cV cN;obtain⟨E,o,cV,cN⟩:=zkk;refine hK.out _ _ ⟨o,cV,cN⟩ (fun hHeld2=>?_);clear hK K hHeld1;refine tp 11 (.pointer (some ⟨g,3,none⟩)) rfl ?_
       (try simp only[Act.put,zA,zB,zC,zD,zE,zF])
       refine r1 12 rfl (fun K hK=>?_);have BGc:=J;have gF3:=J.frozen 3;go_simp;obtain⟨wt3,ah⟩:∃x,Hid (x=wt2.setCell ⟨g,3,none⟩ (.slice A9 m9 c9)):=⟨_,rfl⟩;rw[<-ah.out];have BGf:Blk wt3 g 57 #[.int .i64 kc,.slice F f H,.slice G l I,.slice A9 m9 c9]:=by rw[ah.out];simpa using J.set_ 3 (.slice A9 m9 c9)
       have hof1:wt3.ownsRow w0.heap.size 3 1 (.slice F f H) f (ints L):=by rw[ah.out];exact q1p a J (by decide)
       have hof2:wt3.ownsRow w0.heap.size 3 1 (.slice G l I) l (ints R):=by rw[ah.out];exact q1p d J (by decide)
       have hofL:wt3.ownsRow w0.heap.size 3 1 (.slice A9 m9 c9) m9 (ints L9):=by rw[ah.out];exact q1p hoL J (by decide)
       have Tf:Below w0.heap.size w0 wt3:=by rw[ah.out];exact y.setCell (p:=⟨g,3,none⟩) (by exact hgl) _
       replace o:=qe Tf HCV.out.1;replace cV:=qe Tf HCV.out.2.1;replace cN:=qe Tf HCV.out.2.2;refine hK.out _ _ ⟨o,cV,cN⟩ (fun hHeld3=>?_);clear hK K hHeld2
       (try simp only[Act.put,zA,zB,zC,zD,zE,zF])
       refine zcf (by kernel_rfl) ?_ _;obtain⟨A10,hA10⟩:∃b9,A9=some ⟨b9,0,none⟩:=by
        have hL9:0<m9:=by
         have h1:=hofL.1;rw[q4t]at h1;have:=qqw hP9;omega
        obtain⟨b9,rfl,-,-⟩:=q2o hofL hL9;exact⟨b9,rfl⟩
       subst hA10;have HY2:Hid (L9=q1m n fun z=>hasI (z:Int) (comp (V.take (j+1)) s)):=by
        have hP:=hP9;rw[HYE.out]at hP;obtain⟨yq,hyq,hyn⟩:=HZN.out;rw[hyq]at hP;have:=qlh hyn hP;rw[<-hyq]at this;rw[<-HTK.out]at this;exact this
       have HA1:Hid (Apart (.slice F f H) (.slice (some ⟨A10,0,none⟩) m9 c9)/\Apart (.slice G l I) (.slice (some ⟨A10,0,none⟩) m9 c9)):=by
        rcases hor with⟨e1,e2,e3,-⟩|hor
        .injection e1 with e1
         injection e1 with e1
         subst e1 e2 e3;exact⟨ha1,ha2⟩
        .exact⟨q13 hq1 hor (zad _),q13 hq2 hor (zad _)⟩
       go_wp2_with fail
       go_roundw
       case rel=>exact⟨j+1,A10,m9,c9,L9,by omega,by go_num,BGf,hof1,hof2,hofL,HY2,Tf,HA1.out.1,HA1.out.2⟩
       case measure=>simp[intOf];try omega
      .obtain rfl:j=t:=by omega
       have hj1:¬(j:Int)<(j:Int):=by omega
       have HYX:Hid (Y=X):=by
        show Y=X
        rw[HXE.out,HYE.out,zar (by rw[HVL.out];exact zad _)]
       go_wp2_with fail;go_meet;exact⟨some ⟨b,0,none⟩,m,Z,Y,(by have h:=J;rw[hkc.out]at h;exact h),a,d,hoY,y,af.out,ha1,ha2,fun h=>absurd h (by decide),fun _=>HYX.out⟩
   .
    obtain rfl|rfl:=h46
    all_goals
     obtain⟨wb,HWB⟩:∃wb,wb=w1:=⟨_,rfl⟩;subst HWB;have hvn:t=n:=by rw[<-HVL.out];exact H46.out (by decide)
     subst hvn
     go_wp2_with (at_make;refine q3g wb rfl _ _ rfl t rfl rfl (by omega) ?_;intro w3 aa hg3;have hb3:=(zac wb.heap.size wb).grown hg3 (zad _) (by simp);have U:=J.next hb3;have gD3:=U.cell 3;simp at gD3;have gE3:=U.frozen 3;clear gC0 gC1 gC2 E gF0 gF1 gF2 gF3 B C D o)
     rw[q6r]at aa;have ha1:=q13 a aa (zad _);have ha2:=q13 d aa (zad _);obtain⟨gr,HGR⟩:∃gr,gr=wb.heap.size:=⟨_,rfl⟩;rw[<-HGR]at aa ha1 ha2;obtain⟨w4,HW4⟩:∃w4,Hid (w4=w3.setCell ⟨g,3,none⟩ (.slice (some ⟨gr,0,none⟩) t t)):=⟨_,rfl⟩;have BG4:Blk w4 g 57 #[.int .i64 kc,.slice F f H,.slice G l I,.slice (some ⟨gr,0,none⟩) t t]:=by rw[HW4.out];simpa using U.set_ 3 (.slice (some ⟨gr,0,none⟩) t t)
     have ho14:w4.ownsRow w0.heap.size 3 1 (.slice F f H) f (ints L):=by rw[HW4.out];exact q1p (qp a hb3) U (by decide)
     have ho24:w4.ownsRow w0.heap.size 3 1 (.slice G l I) l (ints R):=by rw[HW4.out];exact q1p (qp d hb3) U (by decide)
     have hgrl:w0.heap.size<=gr:=by rw[HGR];exact hz1
     have hggr:g≠gr:=by rw[HGR];omega
     have hoQ4:w4.ownsRow w0.heap.size 3 1 (.slice (some ⟨gr,0,none⟩) t t) t (ints (List.replicate t 0)):=by rw[HW4.out];exact ql (q1p aa U (by decide)) hgrl
     have Tk4:Below w0.heap.size w0 w4:=by rw[HW4.out];exact(q9 y hb3 rfl).setCell (p:=⟨g,3,none⟩) (by exact hgl) _
     have HA:=zaa (zao ha1 ha2);have HOO:=zaa (zao BG4 (zao ho14 (zao ho24 (zao hoQ4 Tk4))));clear J U BG4 a d hoe aa hg3 ho14 ho24 hoQ4 y Tk4 ha1 ha2 ab ac hz1 hg1;rw[<-HGR,<-HW4.out];clear gD3 gE3 hb3 HGR
     go_loopw [7] (fun i wr=>∃(j:Nat) (Q:List Int),j<=t/\i=.int .i64 j/\Blk wr g 57 #[.int .i64 kc,.slice F f H,.slice G l I,.slice (some ⟨gr,0,none⟩) t t]/\wr.ownsRow w0.heap.size 3 1 (.slice F f H) f (ints L)/\wr.ownsRow w0.heap.size 3 1 (.slice G l I) l (ints R)/\wr.ownsRow w0.heap.size 3 1 (.slice (some ⟨gr,0,none⟩) t t) t (ints Q)/\Hid (Q.length=t)/\Hid (∀x,x<j->Q[nmAt s x]?=some (nmI s (V.getD x 0)))/\Below w0.heap.size w0 wr) (fun i _=>t - (intOf i).toNat)
     case atStart=>exact⟨0,_,zah _,rfl,HOO.out.1,HOO.out.2.1,HOO.out.2.2.1,HOO.out.2.2.2.1,zez ..,(fun x hx=>absurd hx (by omega)),HOO.out.2.2.2.2⟩
     case round=>
      obtain⟨j,Q,hj,rfl,J,a,d,hoQ,HQL,HQ,y⟩:=hrel;have o:=qe y HCP.out.2.2.2;have E:=J.cell 3;simp at E;have ha1:=HA.out.1;have ha2:=HA.out.2
      by_cases hlt:j<t
      .have hj0:(0:Int)<=(j:Int):=by omega
       have hj1:(j:Int)<(t:Int):=by omega
       obtain⟨bv,ov,vv,vz,hAV,cV0,⟨rfl,-,-⟩,-,hvx⟩:=(HVR.out w0 (zac _ _)).at hlt;subst hAV;have hvi:=HVI.out vz (zaf hvx);obtain⟨N,rfl⟩:=zan hvi.1;have hvn:N<t:=by omega
       obtain⟨bs,os,vs,vn,hAS,cN0,⟨rfl,-,-⟩,-,hnx⟩:=(HSR.out w0 (zac _ _)).at hvn;subst hAS;obtain rfl:nmI s (N:Int)=vn:=by unfold nmI;rw[za5,zak,hnx];rfl
       obtain⟨bs2,os2,vs2,vn2,hAS2,cX0,⟨rfl,-,-⟩,-,hnx2⟩:=(HSR.out w0 (zac _ _)).at hlt;injection hAS2 with hAS2
       injection hAS2 with e1 e2
       subst e1 e2;obtain⟨yq,hy,hyn,hye⟩:=HP.out.at hlt;obtain rfl:vn2=(yq:Int):=by rw[hnx2]at hy;injection hy
       have cV:=qe y cV0;have cN:=qe y cN0;have cX:=qe y cX0;have HCV:Hid (w0.cell? ⟨w.heap.size,3,none⟩=some (.slice (some ⟨bv,ov,none⟩) t cV')/\w0.cell? ⟨bv,ov+j,none⟩=some (.int .i64 (N:Int))/\w0.cell? ⟨bs,os+N,none⟩=some (.int .i64 (nmI s (N:Int)))/\w0.cell? ⟨bs,os+j,none⟩=some (.int .i64 (yq:Int))):=⟨HCP.out.2.2.2,cV0,cN0,cX0⟩;have hv0:(0:Int)<=(N:Int):=by omega
       have hv1:(N:Int)<(t:Int):=by omega
       have hy0:(0:Int)<=(yq:Int):=by omega
       have hy1:(yq:Int)<(t:Int):=by omega
       have eF:nmI s (V.getD j 0)=nmI s (N:Int):=by rw[zak,hvx];rfl
       have HQ2:Hid (∀x,x<j+1->(Q.set yq (nmI s (N:Int)))[nmAt s x]?=some (nmI s (V.getD x 0))):=by
        have:=qon HP.out HQL.out hlt HQ.out
        rwa [hye,eF]at this
       have HQL2:Hid ((Q.set yq (nmI s (N:Int))).length=t):=by show _=_;rw[zcg];exact HQL.out
       clear hnx hnx2 hvx hvi cV0 cN0 cX0 hy hye eF;go_wp2_with fail;refine zca (S:=fun w'=>w'.cell? ⟨g,3,none⟩=some (.slice (some ⟨gr,0,none⟩) t t)/\w'.cell? ⟨w.heap.size,3,none⟩=some (.slice (some ⟨bv,ov,none⟩) t cV')/\w'.cell? ⟨bv,ov+j,none⟩=some (.int .i64 N)/\w'.cell? ⟨bs,os+N,none⟩=some (.int .i64 (nmI s (N:Int)))/\w'.cell? ⟨bs,os+j,none⟩=some (.int .i64 yq)) (by kernel_rfl) ⟨E,o,cV,cN,cX⟩ (fun hHeld0=>?_);obtain⟨wt1,Hwt1⟩:∃x,Hid (x=World.drew wr):=⟨_,rfl⟩;have r:Below wr.heap.size wr wt1:=by rw[Hwt1.out];exact(zac _ _).drew
       rw[<-Hwt1.out]at hHeld0⊢;have ywt1:=r.size;replace y:=q9 y r rfl;replace J:=J.next r;replace a:=qp a r;replace d:=qp d r;replace hoQ:=qp hoQ r;refine tp 0 (.pointer (some ⟨g,3,none⟩)) rfl ?_;refine tk 1 (.slice (some ⟨gr,0,none⟩) t t) rfl (.inl ⟨by kernel_rfl,fun wv M=>by(obtain⟨hS0,hS1,hS2,hS3,hS4⟩:=M);go_simp⟩) ?_;refine tp 2 (.slice (some ⟨bs,os,none⟩) t cS) rfl ?_;refine tp 3 (.int .i64 j) rfl ?_;refine tp 4 (.pointer (some ⟨bs,os+j,none⟩)) rfl ?_;refine tk 5 (.int .i64 yq) rfl (.inl ⟨by kernel_rfl,fun wv M=>by(obtain⟨hS0,hS1,hS2,hS3,hS4⟩:=M);go_simp⟩) ?_;refine tp 6 (.slice (some ⟨bs,os,none⟩) t cS) rfl ?_;refine tp 7 (.pointer (some ⟨w.heap.size,3,none⟩)) rfl ?_;refine tk 8 (.slice (some ⟨bv,ov,none⟩) t cV') rfl (.inl ⟨by kernel_rfl,fun wv M=>by(obtain⟨hS0,hS1,hS2,hS3,hS4⟩:=M);go_simp⟩) ?_;refine tp 9 (.int .i64 j) rfl ?_;refine tp 10 (.pointer (some ⟨bv,ov+j,none⟩)) rfl ?_;refine tk 11 (.int .i64 N) rfl (.inl ⟨by kernel_rfl,fun wv M=>by(obtain⟨hS0,hS1,hS2,hS3,hS4⟩:=M);go_simp⟩) ?_;refine tp 12 (.pointer (some ⟨bs,os+N,none⟩)) rfl ?_;refine tk 13 (.int .i64 (nmI s (N:Int))) rfl (.inl ⟨by kernel_rfl,fun wv M=>by(obtain⟨hS0,hS1,hS2,hS3,hS4⟩:=M);go_simp⟩) ?_;refine tp 14 (.pointer (some ⟨gr,yq,none⟩)) rfl ?_
       (try simp only[Act.put,zA,zB,zC,zD,zE,zF])
       refine r1 15 rfl (fun K hK=>?_);have hfz:=hoQ.frozenAt yq;obtain⟨z0,hz0⟩:=q6h hoQ HQL.out hyn;go_simp;obtain⟨wt2,ag⟩:∃x,Hid (x=wt1.setCell ⟨gr,yq,none⟩ (.int .i64 (nmI s (N:Int)))):=⟨_,rfl⟩;rw[<-ag.out];have BGf:Blk wt2 g 57 #[.int .i64 kc,.slice F f H,.slice G l I,.slice (some ⟨gr,0,none⟩) t t]:=by rw[ag.out];exact J.far (by exact hggr) _
       have hof1:wt2.ownsRow w0.heap.size 3 1 (.slice F f H) f (ints L):=by rw[ag.out];exact qi0 a fun q hq e=>ha1 q hq (by rw[e];rfl)
       have hof2:wt2.ownsRow w0.heap.size 3 1 (.slice G l I) l (ints R):=by rw[ag.out];exact qi0 d fun q hq e=>ha2 q hq (by rw[e];rfl)
       have hofQ:wt2.ownsRow w0.heap.size 3 1 (.slice (some ⟨gr,0,none⟩) t t) t (ints (Q.set yq (nmI s (N:Int)))):=by rw[ag.out,<-q2n];exact(hoQ.stored yq (.int .i64 (nmI s (N:Int)))).1
       have Tf:Below w0.heap.size w0 wt2:=by rw[ag.out];exact y.setCell (p:=⟨gr,yq,none⟩) (by exact hgrl) _
       replace E:=BGf.cell 3;simp at E;replace o:=qe Tf HCV.out.1;replace cV:=qe Tf HCV.out.2.1;replace cN:=qe Tf HCV.out.2.2.1;replace cX:=qe Tf HCV.out.2.2.2;refine hK.out _ _ ⟨E,o,cV,cN,cX⟩ (fun hHeld1=>?_);clear hK K hHeld0
       (try simp only[Act.put,zA,zB,zC,zD,zE,zF])
       refine zcf (by kernel_rfl) ?_ _;go_wp2_with fail
       go_roundw
       case rel=>exact⟨j+1,_,by omega,by go_num,BGf,hof1,hof2,hofQ,HQL2,HQ2,Tf⟩
       case measure=>simp[intOf];try omega
      .obtain rfl:j=t:=by omega
       have hj1:¬(j:Int)<(j:Int):=by omega
       have HFD:=zaa (qkp HP.out HVL.out HQL.out HQ.out);go_wp2_with fail;go_meet;exact⟨some ⟨gr,0,none⟩,j,j,Q,(by have h:=J;rw[hkc.out]at h;exact h),a,d,hoQ,y,af.out,ha1,ha2,by first|exact⟨fun _=>⟨by rw[HFD.out,<-HX.out];unfold rfL;rw[zaj (by decide),zaj (by decide),zam rfl,HSL.out];exact ql5 HP.out (q5m HVL.out HVI.out (q92 HP.out)),rfl,by rw[HFD.out];exact q44 HP.out (q5m HVL.out HVI.out (q92 HP.out))⟩,fun h=>absurd rfl h⟩|exact⟨fun h=>absurd h (by decide),fun _=>by rw[HFD.out,<-HX.out];unfold rfL;rw[zaj (by decide),zaj (by decide),zaj (by decide),zam rfl,HSL.out]⟩⟩
  case rest=>
   clear J a d hoe y ab ac gC0 gC1 gC2 E gF0 gF1 gF2 gF3 B C D o hz1 hg1;obtain⟨A3,m,Z,Y,J,a,d,ae,y,P,ha13,ha23,hk4,hkn⟩:=hcut;obtain⟨w2,HWC⟩:∃wq:World,wq=wc:=⟨_,rfl⟩;subst HWC;have B:=qe y HCP.out.1;have hz2:=y.size
   go_upto_if 76 with fail
   go_cut []from 77 to 81 (fun wx=>∃A3 Z,Blk wx g 57 #[.int .i64 k,.slice F f H,.slice G l I,.slice A3 T Z]/\wx.ownsRow w0.heap.size 3 1 (.slice F f H) f (ints L)/\wx.ownsRow w0.heap.size 3 1 (.slice G l I) l (ints R)/\wx.ownsRow w0.heap.size 3 1 (.slice A3 T Z) T (ints X)/\Below w0.heap.size w0 wx/\Apart (.slice F f H) (.slice G l I)/\Apart (.slice F f H) (.slice A3 T Z)/\Apart (.slice G l I) (.slice A3 T Z))
   case first=>
    by_cases hk:k=4
    .obtain⟨hY,hmn,hYI⟩:=hk4 hk
     subst hmn;subst hk;have HKR:Hid (Calls Tryz.prog 119 #[.slice A3 m Z] w2 fun e w'=>∃A c,e=.returned (.slice A T c)/\w'.ownsRow w2.heap.size 3 1 (.slice A T c) T (ints X)/\Below w2.heap.size w2 w'):=by
      have:=qed A3 m Z Y w2 (q12 (R:=RI) ae (q1r fun v hv=>by have:=hYI v hv;omega)) hn;unfold OwI at this;rw[hY,HNX.out]at this;exact this
     have E:=J.cell 3;simp at E;clear hk4 hkn;go_wp2_with fail;refine HKR.out.mono ?_;rintro e w4 ⟨A5,c5,rfl,ho5,hb4⟩;have BG4:=J.next hb4;have T4:=q9 y hb4 rfl;have hq1:=qp a hb4;have hq2:=qp d hb4;have hb13:=q13 a ho5 (zad _);have hb23:=q13 d ho5 (zad _);have gD3:=BG4.cell 3;simp at gD3;have gE3:=BG4.frozen 3;obtain⟨w3,W⟩:∃x,Hid (x=w4.setCell ⟨g,3,none⟩ (.slice A5 T c5)):=⟨_,rfl⟩;have U:Blk w3 g 57 #[.int .i64 4,.slice F f H,.slice G l I,.slice A5 T c5]:=by rw[W.out];simpa using BG4.set_ 3 (.slice A5 T c5)
     have hr1:w3.ownsRow w0.heap.size 3 1 (.slice F f H) f (ints L):=by rw[W.out];exact q1p hq1 BG4 (by decide)
     have hr2:w3.ownsRow w0.heap.size 3 1 (.slice G l I) l (ints R):=by rw[W.out];exact q1p hq2 BG4 (by decide)
     have hr3:w3.ownsRow w0.heap.size 3 1 (.slice A5 T c5) T (ints X):=by rw[W.out];exact q1p (ql ho5 hz2) BG4 (by decide)
     have T3:Below w0.heap.size w0 w3:=by rw[W.out];exact T4.setCell (p:=⟨g,3,none⟩) (by exact hgl) _
     have HH:=zaa (zao U (zao hr1 (zao hr2 (zao hr3 (zao T3 (zao hb13 hb23))))));clear U hr1 hr2 hr3 T3 hb13 hb23 J a d ae hq1 hq2 ho5 B E;go_wp2_with fail;rw[<-W.out];go_meet;exact⟨A5,c5,HH.out.1,HH.out.2.1,HH.out.2.2.1,HH.out.2.2.2.1,HH.out.2.2.2.2.1,af.out,HH.out.2.2.2.2.2.1,HH.out.2.2.2.2.2.2⟩
    .have hk1:(k==4)=false:=by simpa using hk
     have hY:=hkn hk;subst hY;obtain rfl:m=T:=by
      have h1:=ae.1;rw[q4t,HNX.out]at h1;omega
     clear hk4 hkn;go_wp2_with fail;go_meet;exact⟨A3,Z,J,a,d,ae,y,af.out,ha13,ha23⟩
   case rest=>
    clear J a d ae y P ha13 ha23 hk4 hkn B hz2;obtain⟨A5,c5,J,a,d,ho5,y,P,ha15,ha25⟩:=hcut;obtain⟨w5,HWC⟩:∃wq:World,wq=wc:=⟨_,rfl⟩;subst HWC;have BR:=BQ.next y;obtain⟨cG0,cG1,cG2,cG3⟩:=cl4 J;obtain⟨cR0,cR1,cR2,cR3⟩:=cl4 BR;have fR0:=BR.frozen 0;have fR1:=BR.frozen 1;have fR2:=BR.frozen 2;have fR3:=BR.frozen 3;obtain⟨wf,HWF⟩:∃wf,Hid (wf=(((w5.setCell ⟨w.heap.size+1,0,none⟩ (.int .i64 k)).setCell ⟨w.heap.size+1,1,none⟩ (.slice F f H)).setCell ⟨w.heap.size+1,2,none⟩ (.slice G l I)).setCell ⟨w.heap.size+1,3,none⟩ (.slice A5 T c5)):=⟨_,rfl⟩;have BRR:Blk wf (w.heap.size+1) 57 #[.int .i64 k,.slice F f H,.slice G l I,.slice A5 T c5]:=by rw[HWF.out];simpa using(((BR.set_ 0 (.int .i64 k)).set_ 1 (.slice F f H)).set_ 2 (.slice G l I)).set_ 3 (.slice A5 T c5)
    have far:∀ {v:Value} {n:Nat} {xs:List Value},w5.ownsRow w0.heap.size 3 1 v n xs->wf.ownsRow w0.heap.size 3 1 v n xs:=fun h=>by
     rw[HWF.out];exact qx (qx (qx (qx h (by exact hs0)) (by exact hs0)) (by exact hs0)) (by exact hs0)
    have HO1:=zaa (far a);have HO2:=zaa (far d);have HO3:=zaa (far ho5);have HTT:Hid (Below w.heap.size w wf):=by
     show Below _ _ _
     rw[HWF.out];exact((((q9 HT0.out y rfl).setCell (p:=⟨w.heap.size+1,0,none⟩) (show w.heap.size<=w.heap.size+1 by omega) _).setCell (p:=⟨w.heap.size+1,1,none⟩) (show w.heap.size<=w.heap.size+1 by omega) _).setCell (p:=⟨w.heap.size+1,2,none⟩) (show w.heap.size<=w.heap.size+1 by omega) _).setCell (p:=⟨w.heap.size+1,3,none⟩) (show w.heap.size<=w.heap.size+1 by omega) _
    have HAP:=zaa (zao P (zao ha15 ha25));clear a d ho5 BR far P ha15 ha25;go_wp2_with fail;rw[<-HWF.out]
    (try simp only[Exit.inBlock,Exit.then])
    refine zat (v:=.agg #[.int .i64 k,.slice F f H,.slice G l I,.slice A5 T c5]) (zb0 rfl _ _ (w.heap.size+1) 57 #[.int .i64 k,.slice F f H,.slice G l I,.slice A5 T c5] (0,0) _ (by simp) BRR zcp rfl (by kernel_rfl)) rfl ?_;exact⟨F,H,G,I,A5,c5,rfl,ql HO1.out HT0.out.size,ql HO2.out HT0.out.size,ql HO3.out HT0.out.size,HAP.out.1,HAP.out.2.1,HAP.out.2.2,HTT.out⟩
theorem q16:(Tryz.prog.info? 57).map (fun i=>(i.zero,i.size,i.bytes))=some (some (.agg #[.int .i64 0,.slice none 0 0,.slice none 0 0,.slice none 0 0]),4,80):=by kernel_rfl
theorem qc0 {w:World} {c:List Value} {x:qy} {d:List Nat} (h:qj.own w c x d) {b:Nat} (a:b∈d):∃cur fr,w.heap[b]?=some (.cells cur 3 fr):=by
 obtain⟨s,t,m,n,rfl,rfl,⟨_,rfl,-,rfl⟩,⟨o,p,i,j,rfl,rfl,⟨q,r,k,l,rfl,rfl,⟨v,rfl,f,-,rfl⟩,⟨y,rfl,g,-,rfl⟩⟩,⟨u,rfl,e,-,rfl⟩⟩⟩:=h;rw[zch,zau,zau]at a
 rcases a with(a|a)|a
 .exact q5z f a
 .exact q5z g a
 .exact q5z e a
theorem q4v:NoE qj 57:=fun h b d=>by
 obtain⟨a,c,e⟩:=qc0 h d;exact⟨a,_,c,e,by decide⟩
theorem PO.noB {lo:Nat} {w:World} {v:Value} {xs:List OpM} {css:List (List Value)} {bls:List (List Nat)} (h:PO lo w v xs css bls) {g:Nat} {t:TypeId} {cs:Array Value} (e:Blk w g t cs) (l:122≠t) (m:3≠t):g∉obl v++bls.flatten:=fun b=>by
 rcases zau.1 b with b|b
 .obtain⟨c,j,a⟩:=q5z h.2.1 b
  rw[show w.heap[g]?=_ from e]at a;injection a with a
  injection a with _ a
  exact l a.symm
 .obtain⟨i,d,b⟩:=zbm.1 b
  obtain⟨k,f⟩:=zbo d;have n:=(zag.1 f).1;have o:=h.1.l1;have p:=h.1.l2;obtain⟨c,j,a⟩:=qd9 (h.1.el k _ _ i (zae (by omega)) (zae (by omega)) f) b;rw[show w.heap[g]?=_ from e]at a;injection a with a
  injection a with _ a
  exact m a.symm
theorem PO.setB {lo:Nat} {w:World} {v:Value} {xs:List OpM} {css:List (List Value)} {bls:List (List Nat)} (h:PO lo w v xs css bls) {g k:Nat} {t:TypeId} {cs:Array Value} (d:Blk w g t cs) (a:122≠t) (c:3≠t) (u:Value):PO lo (w.setCell ⟨g,k,none⟩ u) v xs css bls:=
 h.same (by simp) fun b f=>za8 w ⟨g,k,none⟩ u b fun e=>h.noB d a c (by rw[<-show b=g from e];exact f)
theorem PGf.noB {lo:Nat} {w:World} {v:Value} {xs:List qy} {css:List (List Value)} {bls:List (List Nat)} (h:PG qj 4 57 lo w v xs css bls) {g:Nat} {t:TypeId} {cs:Array Value} (e:Blk w g t cs) (l:57≠t) (m:3≠t):g∉obl v++bls.flatten:=fun b=>by
 rcases zau.1 b with b|b
 .obtain⟨c,j,a⟩:=q5z h.2.1 b
  rw[show w.heap[g]?=_ from e]at a;injection a with a
  injection a with _ a
  exact l a.symm
 .obtain⟨i,d,b⟩:=zbm.1 b
  obtain⟨k,f⟩:=zbo d;have n:=(zag.1 f).1;have o:=h.1.l1;have p:=h.1.l2;obtain⟨c,j,a⟩:=qc0 (h.1.el k _ _ i (zae (by omega)) (zae (by omega)) f) b;rw[show w.heap[g]?=_ from e]at a;injection a with a
  injection a with _ a
  exact m a.symm
theorem PGf.setB {lo:Nat} {w:World} {v:Value} {xs:List qy} {css:List (List Value)} {bls:List (List Nat)} (h:PG qj 4 57 lo w v xs css bls) {g k:Nat} {t:TypeId} {cs:Array Value} (d:Blk w g t cs) (a:57≠t) (c:3≠t) (u:Value):PG qj 4 57 lo (w.setCell ⟨g,k,none⟩ u) v xs css bls:=
 h.same (by simp) fun b f=>za8 w ⟨g,k,none⟩ u b fun e=>PGf.noB h d a c (by rw[<-show b=g from e];exact f)
theorem qcr {lo hi:Nat} {a b:List Nat} (d:Iv lo hi a) (f:Iv lo hi b) (g:∀x∈a,x∉b):Iv lo hi (a++b):=⟨zbd.2 ⟨d.1,f.1,fun x c y i e=>g x c (e ▸ i)⟩,fun x c=>by
 rcases zau.1 c with h|h
 .exact d.2 x h
 .exact f.2 x h⟩
theorem qbk {w w':World} {f:qy} {e:Ending} (h:CfE w f e w') (i:InR f.1) (m:∀v∈f.2.1.1,InR v) (n:∀v∈f.2.1.2,InR v) (o:∀v∈f.2.2,InR v):
  ∃A1 c1 A2 c2 A3 c3 bk,e=.returned (.agg #[.int .i64 f.1,.slice A1 f.2.1.1.length c1,.slice A2 f.2.1.2.length c2,.slice A3 f.2.2.length c3])/\qj.own w' [.int .i64 f.1,.slice A1 f.2.1.1.length c1,.slice A2 f.2.1.2.length c2,.slice A3 f.2.2.length c3] f bk/\Iv w.heap.size w'.heap.size bk/\Below w.heap.size w w':=by
 obtain⟨A1,c1,A2,c2,A3,c3,rfl,j,k,l,c,d,g,p⟩:=h;have b:∀ {u v:Value},Apart u v->∀x∈obl u,x∉obl v:=fun q x a r=>q x (q1e.1 a) (q1e.1 r)
 refine⟨A1,c1,A2,c2,A3,c3, []++((obl _++obl _)++obl _),rfl,⟨[_], [_,_,_], [],_,rfl,rfl,⟨_,rfl,⟨rfl,i.1,i.2⟩,rfl⟩,⟨[_,_], [_],_,_,rfl,rfl,⟨[_], [_],_,_,rfl,rfl,⟨_,rfl,ql j (zah _),m,rfl⟩,⟨_,rfl,ql k (zah _),n,rfl⟩⟩,⟨_,rfl,ql l (zah _),o,rfl⟩⟩⟩,?_,p⟩;rw[zch];refine qcr (qcr (q7g j) (q7g k) (b c)) (q7g l) fun x a=>?_
 rcases zau.1 a with a|a
 .exact b d x a
 .exact b g x a
def LabP (lo:Nat) (w:World) (x:LabM) (v u:Value):Prop:=∃css bls dss cls mid,PO lo w v x.2.1.2 css bls/\Iv lo mid (obl v++bls.flatten)/\lo<=mid/\PG qj 4 57 mid w u x.2.2.1 dss cls
def LabE (w:World) (x:LabM) (e:Ending) (w':World):Prop:=∃v u,e=.returned (.agg #[.bool x.1,.int .i64 x.2.1.1,v,u,.int .i64 x.2.2.2])/\LabP w.heap.size w' x v u/\Below w.heap.size w w'
theorem q8y (cs:List Value) (x:LabM) (w:World) (h:q19.rd w cs x) (hn:q19.cnt x<=1048576):Calls Tryz.prog 43 #[.agg cs.toArray] w (LabE w x):=by
 obtain⟨Bo,k,d,F,n,c,rfl,qZ,qO,qF,qR⟩:=q42 h;have hcn:0+(qf.cnt x.2.1+((x.2.2.1.length+cntS qj.cnt x.2.2.1)+0))<=1048576:=hn;obtain rfl:x.2.2.1.length=n:=qF.len;have hle:x.2.2.1.length<=1048576:=by omega
 obtain⟨C,hw0,T0,hsz0,BP,BQ⟩:=q1q w #[.bool x.1,.int .i64 x.2.1.1,.slice Bo k d,.slice F x.2.2.1.length c,.int .i64 x.2.2.2] #[.bool false,.int .i64 0,.slice none 0 0,.slice none 0 0,.int .i64 0] 27 27;have HW0:=zaa hw0;have HCL:Hid (∀wz,Below C.heap.size C wz->Calls Tryz.prog 78 #[.agg #[.int .i64 x.2.1.1,.slice Bo k d]] wz (AlgE wz x.2.1)):=fun wz hz=>q64 [.int .i64 x.2.1.1,.slice Bo k d] x.2.1 wz (q30 qZ ((qO.next T0).next hz)) (by omega)
 obtain⟨a,l,r,cP3,s⟩:=cl5 BP;have E:Below C.heap.size C C:=zac _ _;have HT0:=zaa T0;have HQF:=zaa (qF.next T0);have HQR:=zaa qR;have HQZ:=zaa qZ;have HCN:Hid (x.2.2.1.length+cntS qj.cnt x.2.2.1<=1048576):=by show _<=_;omega
 have hs0:C.heap.size=w.heap.size+2:=hsz0;have hs1:w.heap.size+1<C.heap.size:=by omega
 have HS0:=zaa hs0;clear hw0 hsz0 h qO qF hcn hn qR qZ T0 hs0
 go_enter Tryz.func43,Tryz.ntmps43
 go_upto_region 1 with fail;rw[<-HW0.out];have HD:=zaa (zao a (zao l (zao r s)))
 go_cut [3]from 6 to 13 (fun u3 wx=>∃g v Y bls,u3=.pointer (some ⟨g,0,none⟩)/\Blk wx g 27 #[.bool x.1,.int .i64 x.2.1.1,v,.slice none 0 0,.int .i64 x.2.2.2]/\PO C.heap.size wx v x.2.1.2 Y bls/\Below C.heap.size C wx/\C.heap.size<=g)
 case first=>
  refine zca (S:=fun w'=>w'.cell? ⟨w.heap.size,0,none⟩=some (.bool x.1)/\w'.cell? ⟨w.heap.size,1,none⟩=some (.int .i64 x.2.1.1)/\w'.cell? ⟨w.heap.size,2,none⟩=some (.slice Bo k d)/\w'.cell? ⟨w.heap.size,4,none⟩=some (.int .i64 x.2.2.2)) (by kernel_rfl) ⟨a,l,r,s⟩ (fun hHeld0=>?_);obtain⟨z,Hwt1⟩:∃x,Hid (x=World.drew C):=⟨_,rfl⟩;have R:Below C.heap.size C z:=by rw[Hwt1.out];exact(zac _ _).drew
  rw[<-Hwt1.out]at hHeld0⊢;have ywt1:=R.size;replace E:=q9 E R rfl;have O:=kk4 R a l r s;clear a l r s;obtain⟨a,l,r,s⟩:=O;refine tp 0 (.pointer (some ⟨w.heap.size,0,none⟩)) rfl ?_;refine tk 1 (.bool x.1) rfl (.inl ⟨by kernel_rfl,fun wv hSw=>by(obtain⟨hS0,hS1,hS2,hS3⟩:=hSw);go_simp⟩) ?_;refine tp 2 (.pointer (some ⟨w.heap.size,1,none⟩)) rfl ?_;refine tk 3 (.agg #[.int .i64 x.2.1.1,.slice Bo k d]) rfl (.inl ⟨by kernel_rfl,fun wv hSw=>by(obtain⟨hS0,hS1,hS2,hS3⟩:=hSw);go_simp⟩) ?_;refine tp 5 (.pointer (some ⟨w.heap.size,4,none⟩)) rfl ?_;refine tk 6 (.int .i64 x.2.2.2) rfl (.inl ⟨by kernel_rfl,fun wv hSw=>by(obtain⟨hS0,hS1,hS2,hS3⟩:=hSw);go_simp⟩) ?_
  (try simp only[Act.put,zA,zB,zC,zD,zE,zF])
  refine r2 4 8 rfl (fun K hK=>?_) rfl (fun K hK=>?_)
  .go_simp
   refine(HCL.out _ E).mono ?_;rintro e B ⟨v4,css4,bls4,rfl,t,T⟩;obtain⟨I,J,rfl⟩:=qu t.2.1;replace t:=t.mono E.size;go_wp2_with fail;have ywt2:=T.size;replace E:=q9 E T rfl;have O:=kk4 T a l r s;clear a l r s;obtain⟨a,l,r,s⟩:=O;refine hK.out _ _ ⟨a,l,r,s⟩ (fun hHeld1=>?_);clear hK K hHeld0;refine tp 7 (.agg #[.bool x.1,.int .i64 x.2.1.1,.slice I x.2.1.2.length J,.slice none 0 0,.int .i64 x.2.2.2]) rfl ?_
   (try simp only[Act.put,zA,zB,zC,zD,zE,zF])
   refine r1 8 rfl (fun K hK=>?_);go_simp;obtain⟨wt3,Hwt3,M,H,zwt3⟩:=al B #[.bool false,.int .i64 0,.slice none 0 0,.slice none 0 0,.int .i64 0] 27;rw[<-Hwt3.out];have ywt3:=M.size;replace E:=q9 E M rfl;replace t:=t.next M;have O:=kk4 M a l r s;clear a l r s;obtain⟨a,l,r,s⟩:=O;refine hK.out _ _ ⟨a,l,r,s⟩ (fun hHeld2=>?_);clear hK K hHeld1
   (try simp only[Act.put,zA,zB,zC,zD,zE,zF])
   refine r1 9 rfl (fun K hK=>?_);obtain⟨gC0,gC1,gC2,gC3,gC4,gF0,gF1,gF2,gF3,gF4⟩:=cf5 H;go_simp;obtain⟨wt4,W⟩:∃wq,Hid (wq=(((((wt3.setCell ⟨B.heap.size,0,none⟩ (.bool x.1)).setCell ⟨B.heap.size,1,none⟩ (.int .i64 x.2.1.1)).setCell ⟨B.heap.size,2,none⟩ (.slice I x.2.1.2.length J)).setCell ⟨B.heap.size,3,none⟩ (.slice none 0 0)).setCell ⟨B.heap.size,4,none⟩ (.int .i64 x.2.2.2))):=⟨_,zaa rfl⟩;rw[<-W.out];have BGf:Blk wt4 B.heap.size 27 #[.bool x.1,.int .i64 x.2.1.1,.slice I x.2.1.2.length J,.slice none 0 0,.int .i64 x.2.2.2]:=by rw[W.out];simpa using(((((H.set_ 0 (.bool x.1)).set_ 1 (.int .i64 x.2.1.1)).set_ 2 (.slice I x.2.1.2.length J)).set_ 3 (.slice none 0 0)).set_ 4 (.int .i64 x.2.2.2))
   have hP0:=PO.setB (k:=0) t H (by decide) (by decide) (.bool x.1);have hP1:=PO.setB (k:=1) hP0 (H.set_ 0 (.bool x.1)) (by decide) (by decide) (.int .i64 x.2.1.1);have hP2:=PO.setB (k:=2) hP1 ((H.set_ 0 (.bool x.1)).set_ 1 (.int .i64 x.2.1.1)) (by decide) (by decide) (.slice I x.2.1.2.length J);have hP3:=PO.setB (k:=3) hP2 (((H.set_ 0 (.bool x.1)).set_ 1 (.int .i64 x.2.1.1)).set_ 2 (.slice I x.2.1.2.length J)) (by decide) (by decide) (.slice none 0 0);have hP4:=PO.setB (k:=4) hP3 ((((H.set_ 0 (.bool x.1)).set_ 1 (.int .i64 x.2.1.1)).set_ 2 (.slice I x.2.1.2.length J)).set_ 3 (.slice none 0 0)) (by decide) (by decide) (.int .i64 x.2.2.2);have hPf:PO C.heap.size wt4 (.slice I x.2.1.2.length J) x.2.1.2 css4 bls4:=by rw[W.out];exact hP4
   have Tf:Below C.heap.size C wt4:=by rw[W.out];exact(((((E.setCell (p:=⟨B.heap.size,0,none⟩) (by show _<=B.heap.size;have:=E.size;omega) (.bool x.1)).setCell (p:=⟨B.heap.size,1,none⟩) (by show _<=B.heap.size;have:=E.size;omega) (.int .i64 x.2.1.1)).setCell (p:=⟨B.heap.size,2,none⟩) (by show _<=B.heap.size;have:=E.size;omega) (.slice I x.2.1.2.length J)).setCell (p:=⟨B.heap.size,3,none⟩) (by show _<=B.heap.size;have:=E.size;omega) (.slice none 0 0)).setCell (p:=⟨B.heap.size,4,none⟩) (by show _<=B.heap.size;have:=E.size;omega) (.int .i64 x.2.2.2))
   replace a:=qe Tf HD.out.1;replace l:=qe Tf HD.out.2.1;replace r:=qe Tf HD.out.2.2.1;replace s:=qe Tf HD.out.2.2.2;have hgl:C.heap.size<=B.heap.size:=by omega
   refine hK.out _ _ ⟨a,l,r,s⟩ (fun hHeld3=>?_);clear hK K hHeld2
   (try simp only[Act.put,zA,zB,zC,zD,zE,zF])
   refine zcf (by kernel_rfl) ?_ _;go_wp2_with fail;go_meet;exact⟨_,_,_,_,rfl,BGf,hPf,Tf,hgl⟩
  .go_simp
   obtain⟨wt5,Hwt5,U,D,zwt5⟩:=al z #[.bool false,.int .i64 0,.slice none 0 0,.slice none 0 0,.int .i64 0] 27;rw[<-Hwt5.out];have ywt5:=U.size;replace E:=q9 E U rfl;have O:=kk4 U a l r s;clear a l r s;obtain⟨a,l,r,s⟩:=O;refine hK.out _ _ ⟨a,l,r,s⟩ (fun hHeld1=>?_);clear hK K hHeld0
   (try simp only[Act.put,zA,zB,zC,zD,zE,zF])
   refine r1 4 rfl (fun K hK=>?_);go_simp;refine(HCL.out _ E).mono ?_;rintro e wt6 ⟨v4,css4,bls4,rfl,t,N⟩;obtain⟨I,J,rfl⟩:=qu t.2.1;replace t:=t.mono E.size;go_wp2_with fail;have ywt6:=N.size;replace E:=q9 E N rfl;replace D:=D.next N;have O:=kk4 N a l r s;clear a l r s;obtain⟨a,l,r,s⟩:=O;refine hK.out _ _ ⟨a,l,r,s⟩ (fun hHeld2=>?_);clear hK K hHeld1;refine tp 7 (.agg #[.bool x.1,.int .i64 x.2.1.1,.slice I x.2.1.2.length J,.slice none 0 0,.int .i64 x.2.2.2]) rfl ?_
   (try simp only[Act.put,zA,zB,zC,zD,zE,zF])
   refine r1 9 rfl (fun K hK=>?_);obtain⟨gC0,gC1,gC2,gC3,gC4,gF0,gF1,gF2,gF3,gF4⟩:=cf5 D;go_simp;obtain⟨wt7,X⟩:∃wq,Hid (wq=(((((wt6.setCell ⟨z.heap.size,0,none⟩ (.bool x.1)).setCell ⟨z.heap.size,1,none⟩ (.int .i64 x.2.1.1)).setCell ⟨z.heap.size,2,none⟩ (.slice I x.2.1.2.length J)).setCell ⟨z.heap.size,3,none⟩ (.slice none 0 0)).setCell ⟨z.heap.size,4,none⟩ (.int .i64 x.2.2.2))):=⟨_,zaa rfl⟩;rw[<-X.out];have BGf:Blk wt7 z.heap.size 27 #[.bool x.1,.int .i64 x.2.1.1,.slice I x.2.1.2.length J,.slice none 0 0,.int .i64 x.2.2.2]:=by rw[X.out];simpa using(((((D.set_ 0 (.bool x.1)).set_ 1 (.int .i64 x.2.1.1)).set_ 2 (.slice I x.2.1.2.length J)).set_ 3 (.slice none 0 0)).set_ 4 (.int .i64 x.2.2.2))
   have hP0:=PO.setB (k:=0) t D (by decide) (by decide) (.bool x.1);have hP1:=PO.setB (k:=1) hP0 (D.set_ 0 (.bool x.1)) (by decide) (by decide) (.int .i64 x.2.1.1);have hP2:=PO.setB (k:=2) hP1 ((D.set_ 0 (.bool x.1)).set_ 1 (.int .i64 x.2.1.1)) (by decide) (by decide) (.slice I x.2.1.2.length J);have hP3:=PO.setB (k:=3) hP2 (((D.set_ 0 (.bool x.1)).set_ 1 (.int .i64 x.2.1.1)).set_ 2 (.slice I x.2.1.2.length J)) (by decide) (by decide) (.slice none 0 0);have hP4:=PO.setB (k:=4) hP3 ((((D.set_ 0 (.bool x.1)).set_ 1 (.int .i64 x.2.1.1)).set_ 2 (.slice I x.2.1.2.length J)).set_ 3 (.slice none 0 0)) (by decide) (by decide) (.int .i64 x.2.2.2);have hPf:PO C.heap.size wt7 (.slice I x.2.1.2.length J) x.2.1.2 css4 bls4:=by rw[X.out];exact hP4
   have Tf:Below C.heap.size C wt7:=by rw[X.out];exact(((((E.setCell (p:=⟨z.heap.size,0,none⟩) (by show _<=z.heap.size;have:=E.size;omega) (.bool x.1)).setCell (p:=⟨z.heap.size,1,none⟩) (by show _<=z.heap.size;have:=E.size;omega) (.int .i64 x.2.1.1)).setCell (p:=⟨z.heap.size,2,none⟩) (by show _<=z.heap.size;have:=E.size;omega) (.slice I x.2.1.2.length J)).setCell (p:=⟨z.heap.size,3,none⟩) (by show _<=z.heap.size;have:=E.size;omega) (.slice none 0 0)).setCell (p:=⟨z.heap.size,4,none⟩) (by show _<=z.heap.size;have:=E.size;omega) (.int .i64 x.2.2.2))
   replace a:=qe Tf HD.out.1;replace l:=qe Tf HD.out.2.1;replace r:=qe Tf HD.out.2.2.1;replace s:=qe Tf HD.out.2.2.2;have hgl:C.heap.size<=z.heap.size:=by omega
   refine hK.out _ _ ⟨a,l,r,s⟩ (fun hHeld3=>?_);clear hK K hHeld2
   (try simp only[Act.put,zA,zB,zC,zD,zE,zF])
   refine zcf (by kernel_rfl) ?_ _;go_wp2_with fail;go_meet;exact⟨_,_,_,_,rfl,BGf,hPf,Tf,hgl⟩
 case rest=>
  obtain⟨g,v,Y,bls,rfl,BG,t,T1,hg⟩:=hcut;obtain⟨w1,HWC⟩:∃wq:World,wq=wc:=⟨_,rfl⟩;subst HWC;obtain⟨G,V⟩:∃m,Hid (m=w1.heap.size):=⟨_,zaa rfl⟩;have hmid:G<=w1.heap.size:=by rw[V.out];exact zad _
  have HIV:Hid (Iv C.heap.size G (obl v++bls.flatten)):=by rw[V.out];exact t.2.2
  have hgm:g<G:=by rw[V.out];exact BG.lt
  have hlm:C.heap.size<=G:=by rw[V.out];exact T1.size
  have dP3:=qe T1 cP3;have BQ1:=BQ.next T1;have HBQ:=zaa BQ;clear BQ1 a l r s;go_wp2_with fail
  go_loopw [17] (fun i wr=>∃(j:Nat) (u:Value) (dss:List (List Value)) (cls:List (List Nat)),j<=x.2.2.1.length/\i=.int .i64 (j:Int)/\Blk wr g 27 #[.bool x.1,.int .i64 x.2.1.1,v,u,.int .i64 x.2.2.2]/\PO C.heap.size wr v x.2.1.2 Y bls/\PG qj 4 57 G wr u (x.2.2.1.take j) dss cls/\Below C.heap.size C wr/\G<=wr.heap.size) (fun i _=>x.2.2.1.length - (intOf i).toNat)
  case atStart=>exact⟨0,_,_,_,zah _,rfl,BG,t,by rw[zcw];exact PG.nil _ _ _ _ _,T1,hmid⟩
  case round=>
   clear BG t T1 hmid dP3 cP3;obtain⟨j,u,dss,cls,hj,rfl,BG,t,Q,hT,hmr⟩:=hrel
   by_cases hlt:j<x.2.2.1.length
   .have hj0:(0:Int)<=(j:Int):=by omega
    have hj1:(j:Int)<(x.2.2.1.length:Int):=by omega
    obtain⟨b,o,vs,y,rfl,-,hc,hr,-,hx⟩:=HQF.out.at hlt;obtain⟨AL,nL,cL,AR,nR,cR,AV,nV,cV,rfl,qk,qL,qRr,qV⟩:=q21 hr;have cc0:wr.cell? ⟨b,o+j*4,none⟩=some (.int .i64 y.1):=qe hT (hc 0 _ rfl);have cc1:wr.cell? ⟨b,o+j*4+1,none⟩=some (.slice AL nL cL):=qe hT (hc 1 _ rfl);have cc2:wr.cell? ⟨b,o+j*4+2,none⟩=some (.slice AR nR cR):=qe hT (hc 2 _ rfl);have cc3:wr.cell? ⟨b,o+j*4+3,none⟩=some (.slice AV nV cV):=qe hT (hc 3 _ rfl);have HTS:Hid (x.2.2.1.take (j+1)=x.2.2.1.take j++ [y]):=q3a hx;have hcy:qj.cnt y<=1048576:=by
     have h1:=q3w (f:=qj.cnt) (zaf hx);have h2:=HCN.out;omega
    have hcy':0+((y.2.1.1.length+y.2.1.2.length)+y.2.2.length)<=1048576:=hcy;obtain⟨L,HL⟩:∃L,Hid (x.2.2.1.take j=L):=⟨_,rfl⟩;have HLK:Hid (L.length=j):=by show _=_;rw[<-HL.out,za9];omega
    rw[HL.out]at Q;have HTS2:Hid (x.2.2.1.take (j+1)=L++ [y]):=by show _=_;rw[HTS.out,HL.out]
    obtain⟨A,cA,rfl⟩:=qu Q.2.1;obtain⟨w5,HW5⟩:∃wb,Hid (wb=wr.alloc (.cells #[.int .i64 y.1,.slice AL nL cL,.slice AR nR cR,.slice AV nV cV] 57)):=⟨_,rfl⟩;have T5:Below wr.heap.size wr w5:=by rw[HW5.out];exact qm _ _
    have BY:Blk w5 wr.heap.size 57 #[.int .i64 y.1,.slice AL nL cL,.slice AR nR cR,.slice AV nV cV]:=by rw[HW5.out];exact Blk.new _ _ _
    have hT5:=q9 hT T5 rfl;have HCF:Hid (∀wz,Below w5.heap.size w5 wz->Calls Tryz.prog 79 #[.agg #[.int .i64 y.1,.slice AL nL cL,.slice AR nR cR,.slice AV nV cV]] wz (CfE wz y)):=fun wz hz=>
     q5l y.1 AL nL cL AR nR cR AV nV cV y.2.1.1 y.2.1.2 y.2.2 wz (qL.next qd (q9 hT5 hz rfl)) (qRr.next qd (q9 hT5 hz rfl)) (qV.next qd (q9 hT5 hz rfl)) (by rw[<-qL.len];omega) (by rw[<-qRr.len];omega) (by rw[<-qV.len];omega)
    have HBD:Hid ((∀v∈y.2.1.1,InR v)/\(∀v∈y.2.1.2,InR v)/\(∀v∈y.2.2,InR v)):=⟨qL.bounds,qRr.bounds,qV.bounds⟩;have HQK:=zaa qk;obtain⟨cY0,cY1,cY2,cY3⟩:=cl4 BY;have BG5:=BG.next T5;have cO5:=BG5.cell 3;have fO5:=BG5.frozen 3;simp at cO5;have hPO5:=t.next T5;have hP5:=Q.next T5;have hm5:G<=w5.heap.size:=by have:=T5.size;omega
    have hz5:=T5.size;have E:Below w5.heap.size w5 w5:=zac _ _;clear hc hx hr Q cY0 cY1 cY2 cY3 hcy hcy' qL qRr qV qk;obtain⟨cY0,cY1,cY2,cY3⟩:=cl4 BY;go_upto_region 5 with fail;rw[<-HW5.out];clear cc0 cc1 cc2 cc3
    go_region_law (first
     |(refine q8g w6 rfl (.tmp 22) (.tmp 25) 25 57 rfl (.agg #[.int .i64 0,.slice none 0 0,.slice none 0 0,.slice none 0 0]) 4 80 zbx q16 rfl (by decide) (by decide) G L.length cA A dss.flatten (by rfl) hvs [.int .i64 y.1,.slice A1 y.2.1.1.length c1,.slice A2 y.2.1.2.length c2,.slice A3 y.2.2.length c3] rfl (by intro q hq;simp at hq;rcases hq with rfl|rfl|rfl|rfl<;>rfl) (by rfl) (by have:=HLK.out;omega) (by omega) ?_;intro A8 c8 w8 hown8 hg8 hb8;have aa:=Z.grown hg8 (fun e=>q1s hvs Z (by decide) e.symm);have cO8:=aa.cell 3;have fO8:=aa.frozen 3;simp at cO8)
     |(go_simp;go_at_call 79;(with_reducible refine(HCF.out _ ?_).mono ?_);(first|exact E|exact zai E);rintro e w6 hcf;obtain⟨A1,c1,A2,c2,A3,c3,bk,rfl,hO6,hiv6,hbn⟩:=qbk hcf HQK.out HBD.out.1 HBD.out.2.1 HBD.out.2.2;have hb:=q9 (zai (zac w5.heap.size w5)) hbn rfl;have hiv6':Iv w5.heap.size w6.heap.size bk:=hiv6;obtain⟨hvs,HPU⟩:=hP5.push q4v rfl hb hm5 hO6 hiv6';have hsz6:=hb.size;have Z:=BG5.next hb;have cO6:=Z.cell 3;have fO6:=Z.frozen 3;have cO6a:=(Z.alloc (.cells #[.int .i64 y.1,.slice A1 y.2.1.1.length c1,.slice A2 y.2.1.2.length c2,.slice A3 y.2.2.length c3] 57)).cell 3;simp at cO6 cO6a;have dY0:=(BY.next hb).cell 0;have dY1:=(BY.next hb).cell 1;have dY2:=(BY.next hb).cell 2;have dY3:=(BY.next hb).cell 3;simp at dY0 dY1 dY2 dY3))
    all_goals
     have PN:=PGf.setB (k:=3) (HPU hown8 hg8) aa (by decide) (by decide) (.slice A8 (L.length+1) c8);have hT8:Below C.heap.size C (w8.setCell ⟨g,3,none⟩ (.slice A8 (L.length+1) c8)):=((q9 hT5 hb rfl).trans (hb8.mono (by omega))).setCell (p:=⟨g,3,none⟩) (by exact hg) _;have BG9:Blk (w8.setCell ⟨g,3,none⟩ (.slice A8 (L.length+1) c8)) g 27 #[.bool x.1,.int .i64 x.2.1.1,v,.slice A8 (L.length+1) c8,.int .i64 x.2.2.2]:=by simpa using aa.set_ 3 (.slice A8 (L.length+1) c8)
     have hPO8:PO C.heap.size w8 v x.2.1.2 Y bls:=(hPO5.next hb).same hg8.size fun b hb'=>hb8.block b (by have:=HIV.out.2 b hb';omega)
     have hPO9:=PO.setB (k:=3) hPO8 aa (by decide) (by decide) (.slice A8 (L.length+1) c8);have hm9:G<=(w8.setCell ⟨g,3,none⟩ (.slice A8 (L.length+1) c8)).heap.size:=by simp;have:=hb8.size;omega
     have P:=zaa (zao BG9 (zao hPO9 (zao PN (zao hT8 hm9))));clear BG9 hPO9 PN hT8 hPO8 hown8 hb8 hvs HPU hb cO6 cO6a fO6 dY0 dY1 dY2 dY3;go_wp2_with fail
     go_roundw
     case rel=>exact⟨j+1,_,_,_,by omega,by go_num,P.out.1,P.out.2.1,by rw[HTS2.out];exact P.out.2.2.1,P.out.2.2.2.1,P.out.2.2.2.2⟩
     case measure=>simp[intOf];omega
   .obtain rfl:j=x.2.2.1.length:=by omega
    have hlt':¬(x.2.2.1.length:Int)<(x.2.2.1.length:Int):=by omega
    rw[zar (zad _)]at Q;obtain⟨Av,cv,rfl⟩:=qu t.2.1;obtain⟨Au,cu,rfl⟩:=qu Q.2.1;have BQr:=HBQ.out.next hT;obtain⟨cG0,cG1,cG2,cG3,cG4⟩:=cl5 BG;obtain⟨cQ0,cQ1,cQ2,cQ3,cQ4,fQ0,fQ1,fQ2,fQ3,fQ4⟩:=cf5 BQr;obtain⟨wf,ab⟩:∃wf,Hid (wf=((((wr.setCell ⟨w.heap.size+1,0,none⟩ (.bool x.1)).setCell ⟨w.heap.size+1,1,none⟩ (.int .i64 x.2.1.1)).setCell ⟨w.heap.size+1,2,none⟩ (.slice Av x.2.1.2.length cv)).setCell ⟨w.heap.size+1,3,none⟩ (.slice Au x.2.2.1.length cu)).setCell ⟨w.heap.size+1,4,none⟩ (.int .i64 x.2.2.2)):=⟨_,zaa rfl⟩;have hpp:w.heap.size+1<C.heap.size:=hs1;have BRR:Blk wf (w.heap.size+1) 27 #[.bool x.1,.int .i64 x.2.1.1,.slice Av x.2.1.2.length cv,.slice Au x.2.2.1.length cu,.int .i64 x.2.2.2]:=by rw[ab.out];simpa using((((BQr.set_ 0 (.bool x.1)).set_ 1 (.int .i64 x.2.1.1)).set_ 2 (.slice Av x.2.1.2.length cv)).set_ 3 (.slice Au x.2.2.1.length cu)).set_ 4 (.int .i64 x.2.2.2)
    have HPO:Hid (PO C.heap.size wf (.slice Av x.2.1.2.length cv) x.2.1.2 Y bls):=by rw[ab.out];exact((((t.far (p:=⟨w.heap.size+1,0,none⟩) hpp _).far (p:=⟨w.heap.size+1,1,none⟩) hpp _).far (p:=⟨w.heap.size+1,2,none⟩) hpp _).far (p:=⟨w.heap.size+1,3,none⟩) hpp _).far (p:=⟨w.heap.size+1,4,none⟩) hpp _
    have hpm:w.heap.size+1<G:=by omega
    have HPG:Hid (PG qj 4 57 G wf (.slice Au x.2.2.1.length cu) x.2.2.1 dss cls):=by rw[ab.out];exact((((Q.far (p:=⟨w.heap.size+1,0,none⟩) hpm _).far (p:=⟨w.heap.size+1,1,none⟩) hpm _).far (p:=⟨w.heap.size+1,2,none⟩) hpm _).far (p:=⟨w.heap.size+1,3,none⟩) hpm _).far (p:=⟨w.heap.size+1,4,none⟩) hpm _
    have hpl:w.heap.size<=w.heap.size+1:=by omega
    have HTT:Hid (Below w.heap.size w wf):=by rw[ab.out];exact(((((q9 HT0.out hT rfl).setCell (p:=⟨w.heap.size+1,0,none⟩) hpl _).setCell (p:=⟨w.heap.size+1,1,none⟩) hpl _).setCell (p:=⟨w.heap.size+1,2,none⟩) hpl _).setCell (p:=⟨w.heap.size+1,3,none⟩) hpl _).setCell (p:=⟨w.heap.size+1,4,none⟩) hpl _
    have hgne:g≠w.heap.size+1:=by omega
    clear t Q BQr;go_wp2_with fail;rw[<-ab.out]
    (try simp only[Exit.inBlock,Exit.then])
    refine zat (v:=.agg #[.bool x.1,.int .i64 x.2.1.1,.slice Av x.2.1.2.length cv,.slice Au x.2.2.1.length cu,.int .i64 x.2.2.2]) (zb0 rfl _ _ (w.heap.size+1) 27 #[.bool x.1,.int .i64 x.2.1.1,.slice Av x.2.1.2.length cv,.slice Au x.2.2.1.length cu,.int .i64 x.2.2.2] (0,0) _ (by simp) BRR zbg rfl (by kernel_rfl)) rfl ?_;exact⟨_,_,rfl,⟨Y,bls,dss,cls,G,HPO.out.mono (by omega),HIV.out.mono (by omega) (zad _),by omega,HPG.out⟩,HTT.out⟩
noncomputable def q54 (f:qy):List qy->Int->Int
 | [],_=> -1
 |g::l,k=>if eqC f g then k else q54 f l (k+1)
noncomputable def posF (xs:List qy) (f:qy):Int:=q54 f xs 0
def PfAt (xs:List qy) (f:qy) (k:Nat):Prop:=q54 f (xs.drop k) k=posF xs f
theorem PfAt.step {xs:List qy} {f g:qy} {k:Nat} (h:PfAt xs f k) (hd:xs.drop k=g::xs.drop (k+1)) (a:eqC f g=false):PfAt xs f (k+1):=by
 unfold PfAt at*;rw[<-h,hd,q54,zaj (by rw[a];decide)];rfl
theorem PfAt.stop {xs:List qy} {f g:qy} {k:Nat} (h:PfAt xs f k) (hd:xs.drop k=g::xs.drop (k+1)) (a:eqC f g=true):(k:Int)=posF xs f:=by
 unfold PfAt at*;rw[<-h,hd,q54,zam a]
theorem PfAt.done {xs:List qy} {f:qy} {k:Nat} (h:PfAt xs f k) (hd:xs.drop k= []): -1=posF xs f:=by
 unfold PfAt at*;rw[<-h,hd];rfl
theorem qnd {α:Type} (a b:α):eqC a b=eqC b a:=by
 rw[zcc];unfold eqC;simp only[zax];exact⟨Eq.symm,Eq.symm⟩
theorem q5p (A:Option Addr) (n c:Nat) (ds:List Value) (xs:List qy) (f:qy) (w:World) (h:RdN qj.m qj.rd w A n xs) (I:qj.rd w ds f):
  Calls Tryz.prog 76 #[.slice A n c,.agg ds.toArray] w (Bl w (.int .i64 (posF xs f))):=by
 have d:=I;obtain⟨N,nL,X,O,nR,Y,P,nV,Z,rfl,-,-,-,-⟩:=q21 I;have hle:=h.le;obtain⟨x,t,v,r,BP⟩:=q15 w #[.int .i64 f.1,.slice N nL X,.slice O nR Y,.slice P nV Z] 57;have C:=zaa t;replace h:=h.next v;have HF:Hid (∀M,Below x.heap.size x M->qj.rd M [.int .i64 f.1,.slice N nL X,.slice O nR Y,.slice P nV Z] f):=fun M hz=>qj.stab (qj.stab d v.block) hz.block
 obtain⟨E,F,G,H⟩:=cl4 BP;clear t r d I
 go_enter Tryz.func76,Tryz.ntmps76
 go_upto_region 1 with fail;rw[<-C.out];go_wp2_with fail
 go_loopw [9] (fun i wr=>∃k:Nat,k<=n/\i=.int .i64 k/\Hid (PfAt xs f k)/\Below x.heap.size x wr) (fun i _=>n - (intOf i).toNat)
 case atStart=>exact⟨0,zah _,rfl,rfl,zac _ _⟩
 case round=>
  obtain⟨k,hk,rfl,y,l⟩:=hrel
  by_cases hlt:k<n
  .have hk0:(0:Int)<=(k:Int):=by omega
   have K:(k:Int)<(n:Int):=by omega
   obtain⟨b,o,vs,g,rfl,-,p,L,hd,-⟩:=(h.next l).at hlt;have q:=L;obtain⟨Q,mL,eL,R,mR,eR,S,mV,eV,rfl,-,-,-,-⟩:=q21 L;have cc0:wr.cell? ⟨b,o+k*4,none⟩=some (.int .i64 g.1):=p 0 _ rfl;have cc1:wr.cell? ⟨b,o+k*4+1,none⟩=some (.slice Q mL eL):=p 1 _ rfl;have cc2:wr.cell? ⟨b,o+k*4+2,none⟩=some (.slice R mR eR):=p 2 _ rfl;have cc3:wr.cell? ⟨b,o+k*4+3,none⟩=some (.slice S mV eV):=p 3 _ rfl;have T:=zaa hd;obtain⟨w1,u,V,s,BX⟩:=q15 wr #[.int .i64 g.1,.slice Q mL eL,.slice R mR eR,.slice S mV eV] 57;have D:=zaa u;have a:=q9 l V rfl;have U:=zaa (q9a _ _ f g w1 (HF.out _ a) (qj.stab q V.block));obtain⟨bb,j⟩:∃z,Hid (eqC f g=z):=⟨_,rfl⟩;rw[j.out]at U;have kP0:=qe a E;have kP1:=qe a F;have kP2:=qe a G;have kP3:=qe a H;obtain⟨cX0,cX1,cX2,cX3⟩:=cl4 BX;clear p L q hd u s;go_upto_region 4 with fail;rw[<-D.out];go_wp2_with fail;refine U.out.mono ?_;rintro e w2 ⟨rfl,J⟩;have W:=q9 a J rfl
   rcases bb with _|_
   .have B:=zaa (y.out.step T.out j.out)
    go_wp2_with fail
    go_roundw
    case rel=>exact⟨k+1,by omega,by go_num,B,W⟩
    case measure=>simp[intOf];try omega
   .go_wp2_with fail
    go_ret;exact⟨q11 (y.out.stop T.out j.out),q9 v W rfl⟩
  .have K:¬(k:Int)<(n:Int):=by omega
   have HE:Hid (xs.drop k= []):=zbk (by rw[h.len];omega);go_wp2_with fail;go_ret;exact⟨q11 (y.out.done HE.out),q9 v l rfl⟩
theorem qbs (cs ds:List Value) (x y:q1g) (w:World) (h:qw.rd w cs x) (L:qw.rd w ds y):Calls Tryz.prog 169 #[.agg cs.toArray,.agg ds.toArray] w (Bl w (.bool (eqC x y))):=by
 obtain⟨q,s,r,j,n,l,rfl,g,p⟩:=q1k h;obtain⟨k,o,m,b,f,c,rfl,a,i⟩:=q1k L;obtain⟨N,z,t,F,G,H⟩:=q1q w #[.slice q s r,.slice j n l] #[.slice k o m,.slice b f c] 55 55;have E:=zaa (q7j x y)
 rcases h1:eqC x.1 y.1 with _|_
 .have u:=zaa h1
  clear h1
  go_enter Tryz.func169,Tryz.ntmps169
  go_wp2_with fail;rw[<-z];refine(q1n (q4g _ _ _ _ _ _ _ _ _ (g.next qd t) (a.next qd t))).mono ?_;rintro e M ⟨rfl,d⟩;rw[q2w,u.out];have v:=q9 t d rfl;go_wp2_with fail;go_ret;exact⟨qg (by rw[E.out,u.out];rfl),v⟩
 .rcases h2:eqC x.2 y.2 with _|_
  all_goals
   have u:=zaa h1;have D:=zaa h2;clear h2
   go_enter Tryz.func169,Tryz.ntmps169
   go_wp2_with fail;rw[<-z];refine(q1n (q4g _ _ _ _ _ _ _ _ _ (g.next qd t) (a.next qd t))).mono ?_;rintro e M ⟨rfl,d⟩;rw[q2w,u.out];have v:=q9 t d rfl;have A:=G.next d;have B:=H.next d;have J:=A.cell 1;have K:=B.cell 1;simp at J K;go_wp2_with fail;refine(q1n (q4g _ _ _ _ _ _ _ _ _ (p.next qd v) (i.next qd v))).mono ?_;rintro e O ⟨rfl,C⟩;rw[q2w,D.out];have I:=q9 v C rfl;go_wp2_with fail;go_ret;exact⟨qg (by rw[E.out,u.out,D.out];rfl),I⟩
theorem qg8 (cs ds:List Value) (x y:qy) (w:World) (h:qj.rd w cs x) (Y:qj.rd w ds y):Calls Tryz.prog 108 #[.agg cs.toArray,.agg ds.toArray] w (Bl w (.bool (eqC x y))):=by
 obtain⟨p,r,d,j,l,b,A,E,C,rfl,P,s,n,F⟩:=q21 h;obtain⟨k,m,c,f,g,a,t,v,u,rfl,K,o,i,z⟩:=q21 Y;obtain⟨w0,D,B,R,T,U⟩:=q1q w #[.int .i64 x.1,.slice p r d,.slice j l b,.slice A E C] #[.int .i64 y.1,.slice k m c,.slice f g a,.slice t v u] 57 57;have N:=zaa (qfr x y);have S:=q2a (x:=x.2.1) (cLeft:=d) (cRight:=b) (s.next qd B) (n.next qd B);have I:=q2a (x:=y.2.1) (cLeft:=c) (cRight:=a) (o.next qd B) (i.next qd B)
 rcases h0:eqC x.1 y.1 with _|_
 .have J:=zaa h0
  have Z:(x.1==y.1)=false:=by rw[<-h0,q8k];rfl
  clear h0
  go_enter Tryz.func108,Tryz.ntmps108
  go_wp2_with fail;go_ret;exact⟨qg (by rw[N.out,J.out];rfl),by rw[<-D];exact B⟩
 .have J:=zaa h0
  have Z:(x.1==y.1)=true:=by rw[<-h0,q8k];rfl
  clear h0
  rcases h1:eqC x.2.1 y.2.1 with _|_
  .have G:=zaa h1
   clear h1
   go_enter Tryz.func108,Tryz.ntmps108
   go_wp2_with fail;rw[<-D];refine(qbs _ _ _ _ _ S I).mono ?_;rintro e w1 ⟨rfl,q⟩;rw[G.out];have H:=q9 B q rfl;go_wp2_with fail;go_ret;exact⟨qg (by rw[N.out,J.out,G.out];rfl),H⟩
  .rcases h2:eqC x.2.2 y.2.2 with _|_
   all_goals
    have G:=zaa h1;have Q:=zaa h2;clear h2
    go_enter Tryz.func108,Tryz.ntmps108
    go_wp2_with fail;rw[<-D];refine(qbs _ _ _ _ _ S I).mono ?_;rintro e w1 ⟨rfl,q⟩;rw[G.out];have H:=q9 B q rfl;have L:=T.next q;have M:=U.next q;have W:=L.cell 3;have X:=M.cell 3;simp at W X;go_wp2_with fail;refine(q1n (q4g _ _ _ _ _ _ _ _ _ (F.next qd H) (z.next qd H))).mono ?_;rintro e w2 ⟨rfl,O⟩;rw[q2w,Q.out];have V:=q9 H O rfl;go_wp2_with fail;go_ret;exact⟨qg (by rw[N.out,J.out,G.out,Q.out];rfl),V⟩
theorem q7l (A:Option Addr) (n c:Nat) (ds:List Value) (xs:List qy) (f:qy) (w:World) (h:RdN qj.m qj.rd w A n xs) (O:qj.rd w ds f):
  Calls Tryz.prog 59 #[.slice A n c,.agg ds.toArray] w (Bl w (.int .i64 (posF xs f))):=by
 have e:=O;obtain⟨y,S,H,B,T,M,C,U,N,rfl,-,-,-,-⟩:=q21 O;have hle:=h.le;obtain⟨x,t,u,s,BP⟩:=q15 w #[.int .i64 f.1,.slice y S H,.slice B T M,.slice C U N] 57;have F:=zaa t;replace h:=h.next u;have HF:Hid (∀d,Below x.heap.size x d->qj.rd d [.int .i64 f.1,.slice y S H,.slice B T M,.slice C U N] f):=fun d v=>qj.stab (qj.stab e u.block) v.block
 obtain⟨I,J,K,L⟩:=cl4 BP;clear t s e O
 go_enter Tryz.func59,Tryz.ntmps59
 go_upto_region 1 with fail;rw[<-F.out];go_wp2_with fail
 go_loopw [5] (fun i wr=>∃k:Nat,k<=n/\i=.int .i64 k/\Hid (PfAt xs f k)/\Below x.heap.size x wr) (fun i _=>n - (intOf i).toNat)
 case atStart=>exact⟨0,zah _,rfl,rfl,zac _ _⟩
 case round=>
  obtain⟨k,hk,rfl,D,a⟩:=hrel
  by_cases hlt:k<n
  .have hk0:(0:Int)<=(k:Int):=by omega
   have Q:(k:Int)<(n:Int):=by omega
   obtain⟨b,o,vs,g,rfl,-,q,R,hd,-⟩:=(h.next a).at hlt;have r:=R;obtain⟨V,mL,Z,W,mR,eR,X,mV,eV,rfl,-,-,-,-⟩:=q21 R;have cc0:wr.cell? ⟨b,o+k*4,none⟩=some (.int .i64 g.1):=q 0 _ rfl;have cc1:wr.cell? ⟨b,o+k*4+1,none⟩=some (.slice V mL Z):=q 1 _ rfl;have cc2:wr.cell? ⟨b,o+k*4+2,none⟩=some (.slice W mR eR):=q 2 _ rfl;have cc3:wr.cell? ⟨b,o+k*4+3,none⟩=some (.slice X mV eV):=q 3 _ rfl;have Y:=zaa hd;have kP0:=qe a I;have kP1:=qe a J;have kP2:=qe a K;have kP3:=qe a L;obtain⟨G,l⟩:∃z,Hid (eqC g f=z):=⟨_,rfl⟩;have p:Hid (eqC f g=G):=by show _=_;rw[qnd];exact l.out
   have HS:Hid (∀d,Below wr.heap.size wr d->Calls Tryz.prog 108 #[.agg #[.int .i64 g.1,.slice V mL Z,.slice W mR eR,.slice X mV eV],.agg #[.int .i64 f.1,.slice y S H,.slice B T M,.slice C U N]] d (Bl d (.bool G))):=fun d v=>by
    have:=qg8 _ _ g f d (qj.stab r v.block) (qj.stab (HF.out wr a) v.block)
    rwa [l.out]at this
   clear q R r hd;have j:Below wr.heap.size wr wr:=zac _ _;go_wp2_with fail
   go_region_law (first
    |(go_simp;go_at_call 108;(with_reducible refine(HS.out _ ?_).mono ?_);(first|exact j|exact qc j _);rintro e2 w2 ⟨rfl,P⟩;replace j:=q9 (by first|exact j|exact qc j _) P rfl))
   all_goals
    rcases G with _|_
    .have E:=zaa (D.out.step Y.out p.out)
     go_wp2_with fail
     go_roundw
     case rel=>exact⟨k+1,by omega,by go_num,E,q9 a j rfl⟩
     case measure=>simp[intOf];try omega
    .go_wp2_with fail
     go_ret;exact⟨q11 (D.out.stop Y.out p.out),q9 u (q9 a j rfl) rfl⟩
  .have Q:¬(k:Int)<(n:Int):=by omega
   have HE:Hid (xs.drop k= []):=zbk (by rw[h.len];omega);go_wp2_with fail;go_ret;exact⟨q11 (D.out.done HE.out),q9 u a rfl⟩
noncomputable def memF (pre:List qy) (f:qy):Bool:=decide (0<=posF pre f)
noncomputable def goFs (x:qi):List qy->List qy->Bool
 |_, []=>true
 |pre,f::r=>q1c x f && !memF pre f &&goFs x (pre++ [f]) r
noncomputable def labB (x:LabM):Bool:=
 decide (0<=x.2.2.2) &&decide (x.2.2.2<=9999) &&(if x.1=true then algB x.2.1 &&decide (x.2.2.1.length<=12) &&goFs x.2.1 [] x.2.2.1 else decide (x.2.1.1=0) &&decide (x.2.1.2.length=0) &&decide (x.2.2.1.length=0))
theorem qge {x:LabM} (h:x.2.2.2<0):labB x=false:=by unfold labB;rw[zbi (show ¬ 0<=x.2.2.2 by omega)];rfl
theorem qgd {x:LabM} (h:9999<x.2.2.2):labB x=false:=by unfold labB;rw[zbi (show ¬x.2.2.2<=9999 by omega),zd9];rfl
theorem q84 {x:LabM} (a:0<=x.2.2.2) (b:x.2.2.2<=9999) (c:x.1=false):labB x=(decide (x.2.1.1=0) &&decide (x.2.1.2.length=0) &&decide (x.2.2.1.length=0)):=by
 unfold labB;rw[zbh a,zbh b,c];rfl
theorem q83 {x:LabM} (a:0<=x.2.2.2) (b:x.2.2.2<=9999) (c:x.1=true):labB x=(algB x.2.1 &&decide (x.2.2.1.length<=12) &&goFs x.2.1 [] x.2.2.1):=by
 unfold labB;rw[zbh a,zbh b,c];rfl
def FsAt (x:qi) (fs:List qy) (k:Nat):Prop:=goFs x (fs.take k) (fs.drop k)=goFs x [] fs
theorem FsAt.zero (x:qi) (fs:List qy):FsAt x fs 0:=rfl
theorem qms {α:Type} {xs:List α} {g:α} {k:Nat} (hd:xs.drop k=g::xs.drop (k+1)):xs.take (k+1)=xs.take k++ [g]:=by
 have a:xs[k]?=some g:=by
  have:=zav (fun l=>l[0]?) hd
  simpa using this
 rw[zbp,a];rfl
theorem FsAt.step {x:qi} {fs:List qy} {k:Nat} {g:qy} (h:FsAt x fs k) (hd:fs.drop k=g::fs.drop (k+1)) (a:q1c x g=true) (b:memF (fs.take k) g=false):FsAt x fs (k+1):=by
 unfold FsAt at*;rw[<-h,hd,goFs,a,b,qms hd];rfl
theorem FsAt.stop1 {x:qi} {fs:List qy} {k:Nat} {g:qy} (h:FsAt x fs k) (hd:fs.drop k=g::fs.drop (k+1)) (a:q1c x g=false):false=goFs x [] fs:=by
 unfold FsAt at*;rw[<-h,hd,goFs,a];rfl
theorem FsAt.stop2 {x:qi} {fs:List qy} {k:Nat} {g:qy} (h:FsAt x fs k) (hd:fs.drop k=g::fs.drop (k+1)) (a:memF (fs.take k) g=true):false=goFs x [] fs:=by
 unfold FsAt at*;rw[<-h,hd,goFs,a,Bool.not_true,zd9];rfl
theorem FsAt.done {x:qi} {fs:List qy} {k:Nat} (h:FsAt x fs k) (hd:fs.drop k= []):true=goFs x [] fs:=by
 unfold FsAt at*;rw[<-h,hd];rfl
theorem qgq (f:qy) (l r:List qy) (k:Int):q54 f (l++r) k=(if q54 f l k= -1 then q54 f r (k+l.length)else q54 f l k)\/k<0:=by
 induction l generalizing k with
 |nil=>exact .inl (by simp[q54])
 | cons g l ih =>
   by_cases hk : k < 0
   . exact .inr hk
   . refine .inl ?_
     rw [List.cons_append, q54, q54]
     by_cases hg : eqC f g = true
     . rw [zam hg, zam hg, zaj (by omega)]
     . rw [zaj hg, zaj hg]
       rcases ih (k + 1) with h | h
       . rw [h, za0]
         congr 2
         omega
       . omega
theorem qoh (f:qy) (l:List qy) (k:Int) (a:0<=k):q54 f l k= -1\/(k<=q54 f l k/\q54 f l k<k+l.length):=by
 induction l generalizing k with
 |nil=>exact .inl rfl
 | cons g l ih =>
   rw [q54, za0]
   by_cases hg : eqC f g = true
   . rw [zam hg]; exact .inr ⟨Int.le_refl _, by omega⟩
   . rw [zaj hg]
     rcases ih (k + 1) (by omega) with h | h
     . exact .inl h
     . exact .inr (by omega)
theorem qog {fs:List qy} {k:Nat} {g:qy} (hd:fs.drop k=g::fs.drop (k+1)):(posF fs g=(k:Int))↔memF (fs.take k) g=false:=by
 have a:(fs.take k).length=k:=by
  rw[za9];have:(fs.drop k).length≠0:=by rw[hd];simp
  rw[zct]at this;omega
 have e:fs=fs.take k++g::fs.drop (k+1):=by rw[<-hd,zcv]
 have h:=(qgq g (fs.take k) (g::fs.drop (k+1)) 0).resolve_right (by omega);rw[<-e]at h;have b:=qoh g (fs.take k) 0 (Int.le_refl _);have c:eqC g g=true:=by rw[q2f]
 rw[q54,zam c,a]at h;rw[a]at b;unfold memF posF;rw[zd5,h]
 by_cases hm:q54 g (fs.take k) 0= -1
 .rw[zam hm];exact⟨fun _=>by omega,fun _=>by omega⟩
 .rw[zaj hm];exact⟨fun _=>by omega,fun _=>by omega⟩
theorem RdN.take {α:Type} {m:Nat} {R:World->List Value->α->Prop} {w:World} {A:Option Addr} {n k:Nat} {xs:List α} (h:RdN m R w A n xs) (b:k<=n):RdN m R w A k (xs.take k):=
 ⟨by rw[za9,h.1];omega,za7 b h.2.1,fun i x a=>h.2.2 i x (by
  rw[zd3]at a
  split at a
  .exact a
  .exact absurd a (by simp))⟩
theorem qcm (ae:∀(cs ds:List Value) (x:qi) (f:qy) (w:World),qf.rd w cs x->qj.rd w ds f->algB x=true->Calls Tryz.prog 75 #[.agg cs.toArray,.agg ds.toArray] w (Bl w (.bool (q1c x f)))) (cs:List Value) (x:LabM) (w:World) (h:q19.rd w cs x) (O:∀F n c,cs[3]?=some (.slice F n c)->n<=c):
  Calls Tryz.prog 41 #[.agg cs.toArray] w (Bl w (.bool (labB x))):=by
 obtain⟨P,⟨z,l⟩,q,r⟩:=x;obtain⟨B,k,d,F,n,c,rfl,qz,qB,qF,qr⟩:=q42 h;have hcn:n<=c:=O F n c rfl;clear O;have qA:qf.rd w [.int .i64 z,.slice B k d] (z,l):=q30 (x:=(z,l)) qz qB;have HLK:Hid (l.length=k):=qB.len;have T:Hid (q.length=n):=qF.len;have hlk:=qB.le;have hln:=qF.le;have hr0: -9223372036854775808<=r:=qr.1;have hr1:r<=9223372036854775807:=qr.2;show Calls Tryz.prog 41 #[.agg #[.bool P,.int .i64 z,.slice B k d,.slice F n c,.int .i64 r]] w (Bl w (.bool (labB (P,(z,l),q,r))))
 obtain⟨w0,hw0,I,hsz0,BP⟩:=q15 w #[.bool P,.int .i64 z,.slice B k d,.slice F n c,.int .i64 r] 27;have HW0:=zaa hw0;have H1:Hid (∀t,Below w0.heap.size w0 t->qf.rd t [.int .i64 z,.slice B k d] (z,l)):=fun t J=>qf.stab (qf.stab qA I.block) J.block
 have HIF:=zaa ae;have af:=zaa (qF.next I);obtain⟨cP0,ag,ah,ai,cP4⟩:=cl5 BP;clear hw0 hsz0 qz qB qF qr qA h ae
 go_enter Tryz.func41,Tryz.ntmps41
 go_upto_region 1 with fail;rw[<-HW0.out]
 by_cases hlo:r<0
 .have R:Hid (false=labB (P,(z,l),q,r)):=(qge (x:=(P,(z,l),q,r)) hlo).symm
  go_wp2_with fail;go_ret;exact⟨qg R.out,I⟩
 by_cases hhi:9999<r
 .have R:Hid (false=labB (P,(z,l),q,r)):=(qgd (x:=(P,(z,l),q,r)) hhi).symm
  go_wp2_with fail;go_ret;exact⟨qg R.out,I⟩
 rcases P with _|_
 .have R:Hid (labB (false,(z,l),q,r)=(decide (z=0) &&decide (k=0) &&decide (n=0))):=by
   show _=_
   rw[<-HLK.out,<-T.out];exact q84 (x:=(false,(z,l),q,r)) (by show 0<=r;omega) (by show r<=9999;omega) rfl
  obtain⟨b1,aa⟩:∃b,Hid (decide (z=0)=b):=⟨_,rfl⟩;obtain⟨b2,ac⟩:∃b,Hid (decide (k=0)=b):=⟨_,rfl⟩;obtain⟨b3,ad⟩:∃b,Hid (decide (n=0)=b):=⟨_,rfl⟩;have e1:(z==0)=b1:=by rw[<-aa.out,zcc,zdx,zax]
  have e2:((k:Int)==0)=b2:=q51 ac.out;have e3:((n:Int)==0)=b3:=q51 ad.out;have m:Hid ((b1 &&b2 &&b3)=labB (false,(z,l),q,r)):=by show _=_;rw[R.out,aa.out,ac.out,ad.out]
  rcases b1 with _|_<;>rcases b2 with _|_<;>rcases b3 with _|_
  all_goals
   go_wp2_with fail;go_ret;exact⟨qg m.out,I⟩
 .have R:Hid (labB (true,(z,l),q,r)=(algB (z,l) &&decide (n<=12) &&goFs (z,l) [] q)):=by
   show _=_
   rw[<-T.out];exact q83 (x:=(true,(z,l),q,r)) (by show 0<=r;omega) (by show r<=9999;omega) rfl
  have HA:=zaa (q5t _ (z,l) w0 (H1.out _ (zac _ _)));obtain⟨ab,Q⟩:∃b,Hid (algB (z,l)=b):=⟨_,rfl⟩;rw[Q.out]at HA;have S:Hid ((ab &&decide (n<=12) &&goFs (z,l) [] q)=labB (true,(z,l),q,r)):=by show _=_;rw[R.out,Q.out]
  go_wp2_with fail;refine HA.out.mono ?_;rintro e w1 ⟨rfl,v⟩;have kP0:=qe v cP0;have kP1:=qe v ag;have kP2:=qe v ah;have kP3:=qe v ai;have T1:=q9 I v rfl
  rcases ab with _|_
  .go_wp2_with fail
   go_ret;exact⟨qg S.out,T1⟩
  by_cases h12:n<=12
  case neg=>
   have hgt:(12:Int)<(n:Int):=by omega
   have m:Hid (false=labB (true,(z,l),q,r)):=by show _=_;rw[<-S.out,zbi h12];rfl
   go_wp2_with fail;go_ret;exact⟨qg m.out,T1⟩
  have hgt:¬(12:Int)<(n:Int):=by omega
  have m:Hid (goFs (z,l) [] q=labB (true,(z,l),q,r)):=by show _=_;rw[<-S.out,zbh h12];rfl
  go_wp2_with fail
  go_loopw [46] (fun i wr=>∃j:Nat,j<=n/\i=.int .i64 j/\Hid (FsAt (z,l) q j)/\Below w0.heap.size w0 wr) (fun i _=>n - (intOf i).toNat)
  case atStart=>exact⟨0,zah _,rfl,FsAt.zero _ _,v⟩
  case round=>
   obtain⟨j,hj,rfl,HF,V⟩:=hrel
   by_cases hlt:j<n
   .have hk0:(0:Int)<=(j:Int):=by omega
    have hk1:(j:Int)<(n:Int):=by omega
    obtain⟨b,o,vs,g,rfl,-,hc,W,hd,-⟩:=(af.out.next V).at hlt;have hrg:=W;obtain⟨X,mL,eL,Y,mR,eR,Z,mV,eV,rfl,-,-,-,-⟩:=q21 W;have cc0:wr.cell? ⟨b,o+j*4,none⟩=some (.int .i64 g.1):=hc 0 _ rfl;have cc1:wr.cell? ⟨b,o+j*4+1,none⟩=some (.slice X mL eL):=hc 1 _ rfl;have cc2:wr.cell? ⟨b,o+j*4+2,none⟩=some (.slice Y mR eR):=hc 2 _ rfl;have cc3:wr.cell? ⟨b,o+j*4+3,none⟩=some (.slice Z mV eV):=hc 3 _ rfl;have HD:=zaa hd;obtain⟨K,hw2,T2,hsz2,BX⟩:=q15 wr #[.int .i64 g.1,.slice X mL eL,.slice Y mR eR,.slice Z mV eV] 57;have HW2:=zaa hw2;have u:=q9 V T2 rfl;have Hg:Hid (∀t,Below K.heap.size K t->qj.rd t [.int .i64 g.1,.slice X mL eL,.slice Y mR eR,.slice Z mV eV] g):=fun t J=>qj.stab (qj.stab hrg T2.block) J.block
    obtain⟨tb,U⟩:∃b,Hid (q1c (z,l) g=b):=⟨_,rfl⟩;obtain⟨p,HP⟩:∃p,Hid (posF (q.take j) g=p):=⟨_,rfl⟩;have HI:Hid (∀t,Below K.heap.size K t->Calls Tryz.prog 75 #[.agg #[.int .i64 z,.slice B k d],.agg #[.int .i64 g.1,.slice X mL eL,.slice Y mR eR,.slice Z mV eV]] t (Bl t (.bool tb))):=fun t J=>by
     have:=HIF.out _ _ (z,l) g t (H1.out _ (q9 u J rfl)) (Hg.out _ J) Q.out
     rwa [U.out]at this
    have HX:Hid (∀t,Below K.heap.size K t->Calls Tryz.prog 76 #[.slice (some ⟨b,o,none⟩) j c,.agg #[.int .i64 g.1,.slice X mL eL,.slice Y mR eR,.slice Z mV eV]] t (Bl t (.int .i64 p))):=fun t J=>by
     have:=q5p (some ⟨b,o,none⟩) j c _ (q.take j) g t ((af.out.next (q9 u J rfl)).take (by omega)) (Hg.out _ J)
     rwa [HP.out]at this
    have E:=qe u ag;have G:=qe u ah;have H:=qe u ai;obtain⟨y,A,C,D⟩:=cl4 BX;have hjc:j<=c:=by omega
    clear hc W hrg hd hw2 hsz2;go_upto_region 10 with fail;rw[<-HW2.out];have a:Below K.heap.size K K:=zac _ _;have HM:Hid (memF (q.take j) g=decide (0<=p)):=by show _=_;unfold memF;rw[HP.out]
    rcases tb with _|_
    .have HO:Hid (false=labB (true,(z,l),q,r)):=(HF.out.stop1 HD.out U.out).trans m.out
     first|(go_region_law (first
      |(go_simp;go_at_call 75;(with_reducible refine(HI.out _ ?_).mono ?_);(first|exact a|exact zai a|exact qc (zac _ _) _|exact qc a _);rintro e1 wn ⟨rfl,s⟩;replace a:=q9 (by first|exact a|exact zai a|exact qc (zac _ _) _|exact qc a _) s rfl;have L:=qe a E;have M:=qe a G;have N:=qe a H;have x0:=qe a y;have x1:=qe a A;have x2:=qe a C;have x3:=qe a D)))|fail
     all_goals
      go_wp2_with fail;go_ret;exact⟨qg HO.out,q9 I (q9 u (by first|exact a|exact zai a) rfl) rfl⟩
    .by_cases hp:0<=p
     .first|(go_region_law (first
        |(go_simp;go_at_call 75;(with_reducible refine(HI.out _ ?_).mono ?_);(first|exact a|exact zai a|exact qc (zac _ _) _|exact qc a _);rintro e1 wn ⟨rfl,s⟩;replace a:=q9 (by first|exact a|exact zai a|exact qc (zac _ _) _|exact qc a _) s rfl;have L:=qe a E;have M:=qe a G;have N:=qe a H;have x0:=qe a y;have x1:=qe a A;have x2:=qe a C;have x3:=qe a D)
        |(go_simp;go_at_call 76;(with_reducible refine(HX.out _ ?_).mono ?_);(first|exact a|exact zai a|exact qc (zac _ _) _|exact qc a _);rintro e1 wn ⟨rfl,s⟩;replace a:=q9 (by first|exact a|exact zai a|exact qc (zac _ _) _|exact qc a _) s rfl;have L:=qe a E;have M:=qe a G;have N:=qe a H;have x0:=qe a y;have x1:=qe a A;have x2:=qe a C;have x3:=qe a D)))|fail
      all_goals
       go_wp2_with fail;go_ret;exact⟨qg ((HF.out.stop2 HD.out (by rw[HM.out,zbh hp])).trans m.out),q9 I (q9 u (by first|exact a|exact zai a) rfl) rfl⟩
     .first|(go_region_law (first
        |(go_simp;go_at_call 75;(with_reducible refine(HI.out _ ?_).mono ?_);(first|exact a|exact zai a|exact qc (zac _ _) _|exact qc a _);rintro e1 wn ⟨rfl,s⟩;replace a:=q9 (by first|exact a|exact zai a|exact qc (zac _ _) _|exact qc a _) s rfl;have L:=qe a E;have M:=qe a G;have N:=qe a H;have x0:=qe a y;have x1:=qe a A;have x2:=qe a C;have x3:=qe a D)
        |(go_simp;go_at_call 76;(with_reducible refine(HX.out _ ?_).mono ?_);(first|exact a|exact zai a|exact qc (zac _ _) _|exact qc a _);rintro e1 wn ⟨rfl,s⟩;replace a:=q9 (by first|exact a|exact zai a|exact qc (zac _ _) _|exact qc a _) s rfl;have L:=qe a E;have M:=qe a G;have N:=qe a H;have x0:=qe a y;have x1:=qe a A;have x2:=qe a C;have x3:=qe a D)))|fail
      all_goals
       have HF2:=zaa (HF.out.step HD.out U.out (by rw[HM.out,zbi hp]));have T3:=q9 u (by first|exact a|exact zai a) rfl;go_wp2_with fail
       go_roundw
       case rel=>exact⟨j+1,by omega,by go_num,HF2,T3⟩
       case measure=>simp[intOf];try omega
   .have hk1:¬(j:Int)<(n:Int):=by omega
    have HE:Hid (q.drop j= []):=zbk (by rw[T.out];omega);go_wp2_with fail;go_ret;exact⟨qg ((HF.out.done HE.out).trans m.out),q9 I V rfl⟩
theorem qnw {x:LabM} (h:inB x.2.2.2 0 9999=false):labB x=false:=by
 unfold inB at h
 by_cases h0:0<=x.2.2.2
 .exact qgd (by simp[h0]at h;omega)
 .exact qge (by omega)
theorem qee {x:LabM} (h:¬x.2.2.1.length<=12):labB x=false:=by
 unfold labB
 split
 .rw[zbi h,zd9,Bool.false_and,zd9]
 .rw[zbi (show ¬x.2.2.1.length=0 by omega),zd9,zd9]
theorem qf7 (HIT:∀(cs ds:List Value) (x:qi) (f:qy) (w:World),qf.rd w cs x->qj.rd w ds f->algB x=true->Calls Tryz.prog 58 #[.agg cs.toArray,.agg ds.toArray] w (Bl w (.bool (q1c x f)))) (cs:List Value) (x:LabM) (w:World) (h:q19.rd w cs x):
  Calls Tryz.prog 34 #[.agg cs.toArray] w (Bl w (.bool (labB x))):=by
 obtain⟨op,⟨z,l⟩,fs,r⟩:=x;obtain⟨B,G,d,F,n,c,rfl,qz,qB,qF,qr⟩:=q42 h;have qA:qf.rd w [.int .i64 z,.slice B G d] (z,l):=q30 (x:=(z,l)) qz qB;have HLK:Hid (l.length=G):=qB.len;have V:Hid (fs.length=n):=qF.len;have hln:=qF.le;show Calls Tryz.prog 34 #[.agg #[.bool op,.int .i64 z,.slice B G d,.slice F n c,.int .i64 r]] w (Bl w (.bool (labB (op,(z,l),fs,r))))
 obtain⟨w0,hw0,W,hsz0,BP⟩:=q15 w #[.bool op,.int .i64 z,.slice B G d,.slice F n c,.int .i64 r] 27;have HW0:=zaa hw0;have H1:Hid (∀q,Below w0.heap.size w0 q->qf.rd q [.int .i64 z,.slice B G d] (z,l)):=fun q hz=>qf.stab (qf.stab qA W.block) hz.block
 have HIF:=zaa HIT;have HQF:=zaa (qF.next W);obtain⟨cP0,cP1,cP2,cP3,cP4⟩:=cl5 BP;clear hw0 hsz0 qz qB qF qr qA h HIT
 go_enter Tryz.func34,Tryz.ntmps34
 go_upto_region 1 with fail;rw[<-HW0.out];obtain⟨ib,E⟩:∃b,inB r 0 9999=b:=⟨_,rfl⟩;have U:=zaa E
 rcases ib with _|_
 .have HL:Hid (false=labB (op,(z,l),fs,r)):=(qnw (x:=(op,(z,l),fs,r)) E).symm
  clear E
  go_wp2_with (go_at_call 68;refine(q26 _ _ _ _).mono ?_;rintro e w' ⟨rfl,rfl⟩;rw[U.out])
  go_ret;exact⟨qg HL.out,W⟩
 have aa:0<=r/\r<=9999:=by unfold inB at E;simpa using E
 clear E
 by_cases h12:n<=12
 case neg=>
  have HL:Hid (false=labB (op,(z,l),fs,r)):=(qee (x:=(op,(z,l),fs,r)) (by rw[show(op,(z,l),fs,r).2.2.1=fs from rfl,V.out];exact h12)).symm;have hgt:(12:Int)<(n:Int):=by omega
  go_wp2_with (go_at_call 68;refine(q26 _ _ _ _).mono ?_;rintro e w' ⟨rfl,rfl⟩;rw[U.out])
  go_ret;exact⟨qg HL.out,W⟩
 have hgt:¬(12:Int)<(n:Int):=by omega
 rcases op with _|_
 .have HL:Hid (labB (false,(z,l),fs,r)=(decide (z=0) &&decide (G=0) &&decide (n=0))):=by
   show _=_
   rw[<-HLK.out,<-V.out];exact q84 (x:=(false,(z,l),fs,r)) aa.1 aa.2 rfl
  obtain⟨b1,HB1⟩:∃b,Hid (decide (z=0)=b):=⟨_,rfl⟩;obtain⟨b2,HB2⟩:∃b,Hid (decide (G=0)=b):=⟨_,rfl⟩;obtain⟨b3,HB3⟩:∃b,Hid (decide (n=0)=b):=⟨_,rfl⟩;have e1:(z==0)=b1:=by rw[<-HB1.out,zcc,zdx,zax]
  have e2:((G:Int)==0)=b2:=q51 HB2.out;have e3:((n:Int)==0)=b3:=q51 HB3.out;have s:Hid ((b1 &&b2 &&b3)=labB (false,(z,l),fs,r)):=by show _=_;rw[HL.out,HB1.out,HB2.out,HB3.out]
  rcases b1 with _|_<;>rcases b2 with _|_<;>rcases b3 with _|_
  all_goals
   go_wp2_with (go_at_call 68;refine(q26 _ _ _ _).mono ?_;rintro e w' ⟨rfl,rfl⟩;rw[U.out])
   go_ret;exact⟨qg s.out,W⟩
 .have HL:Hid (labB (true,(z,l),fs,r)=(algB (z,l) &&decide (n<=12) &&goFs (z,l) [] fs)):=by
   show _=_
   rw[<-V.out];exact q83 (x:=(true,(z,l),fs,r)) aa.1 aa.2 rfl
  have HA:=zaa (q5a _ (z,l) w0 (H1.out _ (zac _ _)));obtain⟨ab,HAB⟩:∃b,Hid (algB (z,l)=b):=⟨_,rfl⟩;rw[HAB.out]at HA;have HLA:Hid ((ab &&decide (n<=12) &&goFs (z,l) [] fs)=labB (true,(z,l),fs,r)):=by show _=_;rw[HL.out,HAB.out]
  go_wp2_with (go_at_call 68;refine(q26 _ _ _ _).mono ?_;rintro e w' ⟨rfl,rfl⟩;rw[U.out])
  refine HA.out.mono ?_;rintro e w1 ⟨rfl,hb1⟩;have kP3:=qe hb1 cP3;have T1:=q9 W hb1 rfl
  rcases ab with _|_
  .go_wp2_with fail
   go_ret;exact⟨qg HLA.out,T1⟩
  have s:Hid (goFs (z,l) [] fs=labB (true,(z,l),fs,r)):=by show _=_;rw[<-HLA.out,zbh h12];rfl
  go_wp2_with fail
  go_loopw [3] (fun i wr=>∃k:Nat,k<=n/\i=.int .i64 k/\Hid (FsAt (z,l) fs k)/\Below w0.heap.size w0 wr) (fun i _=>n - (intOf i).toNat)
  case atStart=>exact⟨0,zah _,rfl,FsAt.zero _ _,hb1⟩
  case round=>
   obtain⟨k,hj,rfl,HF,m⟩:=hrel;have M:=qe m cP1;have N:=qe m cP2;have O:=qe m cP3
   by_cases hlt:k<n
   .have hk0:(0:Int)<=(k:Int):=by omega
    have hk1:(k:Int)<(n:Int):=by omega
    obtain⟨b,o,vs,g,rfl,-,hc,hrr,hd,-⟩:=(HQF.out.next m).at hlt;have hrg:=hrr;obtain⟨Q,mL,X,R,mR,Y,T,mV,Z,rfl,-,-,-,-⟩:=q21 hrr;have H:wr.cell? ⟨b,o+k*4,none⟩=some (.int .i64 g.1):=hc 0 _ rfl;have I:wr.cell? ⟨b,o+k*4+1,none⟩=some (.slice Q mL X):=hc 1 _ rfl;have J:wr.cell? ⟨b,o+k*4+2,none⟩=some (.slice R mR Y):=hc 2 _ rfl;have L:wr.cell? ⟨b,o+k*4+3,none⟩=some (.slice T mV Z):=hc 3 _ rfl;have HD:=zaa hd;have Hg:Hid (∀q,Below wr.heap.size wr q->qj.rd q [.int .i64 g.1,.slice Q mL X,.slice R mR Y,.slice T mV Z] g):=fun q hz=>qj.stab hrg hz.block
    obtain⟨tb,HTB⟩:∃b,Hid (q1c (z,l) g=b):=⟨_,rfl⟩;obtain⟨p,HP⟩:∃p,Hid (posF fs g=p):=⟨_,rfl⟩;have HI:Hid (∀q,Below wr.heap.size wr q->Calls Tryz.prog 58 #[.agg #[.int .i64 z,.slice B G d],.agg #[.int .i64 g.1,.slice Q mL X,.slice R mR Y,.slice T mV Z]] q (Bl q (.bool tb))):=fun q hz=>by
     have:=HIF.out _ _ (z,l) g q (H1.out _ (q9 m hz rfl)) (Hg.out _ hz) HAB.out
     rwa [HTB.out]at this
    have HX:Hid (∀q,Below wr.heap.size wr q->Calls Tryz.prog 59 #[.slice (some ⟨b,o,none⟩) n c,.agg #[.int .i64 g.1,.slice Q mL X,.slice R mR Y,.slice T mV Z]] q (Bl q (.int .i64 p))):=fun q hz=>by
     have:=q7l (some ⟨b,o,none⟩) n c _ fs g q (HQF.out.next (q9 m hz rfl)) (Hg.out _ hz)
     rwa [HP.out]at this
    clear hc hrr hrg hd;go_upto_region 10 with fail;have a:Below wr.heap.size wr wr:=zac _ _
    rcases tb with _|_
    .have HO:Hid (false=labB (true,(z,l),fs,r)):=(HF.out.stop1 HD.out HTB.out).trans s.out
     refine zca (S:=fun w'=>w'.cell? ⟨w.heap.size,1,none⟩=some (.int .i64 z)/\w'.cell? ⟨w.heap.size,2,none⟩=some (.slice B G d)/\w'.cell? ⟨w.heap.size,3,none⟩=some (.slice (some ⟨b,o,none⟩) n c)/\w'.cell? ⟨b,o+k*4,none⟩=some (.int .i64 g.1)/\w'.cell? ⟨b,o+k*4+1,none⟩=some (.slice Q mL X)/\w'.cell? ⟨b,o+k*4+2,none⟩=some (.slice R mR Y)/\w'.cell? ⟨b,o+k*4+3,none⟩=some (.slice T mV Z)) (by kernel_rfl) ⟨M,N,O,H,I,J,L⟩ (fun hHeld0=>?_);refine tp 0 (.pointer (some ⟨w.heap.size,1,none⟩)) rfl ?_;refine tk 1 (.agg #[.int .i64 z,.slice B G d]) rfl (.inl ⟨by kernel_rfl,fun wv j=>by(obtain⟨t,u,v,y,A,C,D⟩:=j);go_simp⟩) ?_;refine tp 2 (.pointer (some ⟨w.heap.size,3,none⟩)) rfl ?_;refine tk 3 (.slice (some ⟨b,o,none⟩) n c) rfl (.inl ⟨by kernel_rfl,fun wv j=>by(obtain⟨t,u,v,y,A,C,D⟩:=j);go_simp⟩) ?_;refine tp 4 (.int .i64 k) rfl ?_;refine tp 5 (.pointer (some ⟨b,o+k*4,none⟩)) rfl ?_;refine tk 6 (.agg #[.int .i64 g.1,.slice Q mL X,.slice R mR Y,.slice T mV Z]) rfl (.inl ⟨by kernel_rfl,fun wv j=>by(obtain⟨t,u,v,y,A,C,D⟩:=j);go_simp⟩) ?_
     (try simp only[Act.put,zA,zB,zC,zD,zE,zF])
     refine ze5 (rs:= [7]) (by kernel_rfl) (by simp) ?_;refine zgc rfl (fun K hK=>?_) AllReadyH.nil;go_simp;refine(HI.out _ (by first|exact a|exact zai a|exact qc (zac _ _) _|exact qc a _)).mono ?_;rintro e' wn ⟨rfl,P⟩;replace a:=q9 (by first|exact a|exact zai a|exact qc (zac _ _) _|exact qc a _) P rfl;go_wp2_with fail;refine hK.out _ _ ⟨qe a M,qe a N,qe a O,qe a H,qe a I,qe a J,qe a L⟩ (fun hHeld1=>?_);clear hK K hHeld0;refine tp 8 (.bool true) rfl ?_;refine tp 9 (.bool true) rfl ?_;refine tu 10 rfl ?_;refine tu 11 rfl ?_;refine tu 12 rfl ?_;refine tu 13 rfl ?_;refine tu 14 rfl ?_;refine tu 15 rfl ?_;refine tu 16 rfl ?_;refine tu 17 rfl ?_;refine tu 18 rfl ?_;refine tu 19 rfl ?_;refine tp 20 (.bool true) rfl ?_
     (try simp only[Act.put,zA,zB,zC,zD,zE,zF])
     refine zcf (by kernel_rfl) ?_ _;go_wp2_with fail;go_ret;exact⟨qg HO.out,q9 W (q9 m (by first|exact a|exact zai a) rfl) rfl⟩
    .have HPM:=zaa (qog (fs:=fs) (k:=k) (g:=g) HD.out)
     obtain⟨bb,hbb⟩:∃b,(p !=(k:Int))=b:=⟨_,rfl⟩;have HBB:=zaa hbb;refine zca (S:=fun w'=>w'.cell? ⟨w.heap.size,1,none⟩=some (.int .i64 z)/\w'.cell? ⟨w.heap.size,2,none⟩=some (.slice B G d)/\w'.cell? ⟨w.heap.size,3,none⟩=some (.slice (some ⟨b,o,none⟩) n c)/\w'.cell? ⟨b,o+k*4,none⟩=some (.int .i64 g.1)/\w'.cell? ⟨b,o+k*4+1,none⟩=some (.slice Q mL X)/\w'.cell? ⟨b,o+k*4+2,none⟩=some (.slice R mR Y)/\w'.cell? ⟨b,o+k*4+3,none⟩=some (.slice T mV Z)) (by kernel_rfl) ⟨M,N,O,H,I,J,L⟩ (fun hHeld0=>?_);refine tp 0 (.pointer (some ⟨w.heap.size,1,none⟩)) rfl ?_;refine tk 1 (.agg #[.int .i64 z,.slice B G d]) rfl (.inl ⟨by kernel_rfl,fun wv j=>by(obtain⟨t,u,v,y,A,C,D⟩:=j);go_simp⟩) ?_;refine tp 2 (.pointer (some ⟨w.heap.size,3,none⟩)) rfl ?_;refine tk 3 (.slice (some ⟨b,o,none⟩) n c) rfl (.inl ⟨by kernel_rfl,fun wv j=>by(obtain⟨t,u,v,y,A,C,D⟩:=j);go_simp⟩) ?_;refine tp 4 (.int .i64 k) rfl ?_;refine tp 5 (.pointer (some ⟨b,o+k*4,none⟩)) rfl ?_;refine tk 6 (.agg #[.int .i64 g.1,.slice Q mL X,.slice R mR Y,.slice T mV Z]) rfl (.inl ⟨by kernel_rfl,fun wv j=>by(obtain⟨t,u,v,y,A,C,D⟩:=j);go_simp⟩) ?_
     (try simp only[Act.put,zA,zB,zC,zD,zE,zF])
     refine ze5 (rs:= [7]) (by kernel_rfl) (by simp) ?_;refine zgc rfl (fun K hK=>?_) AllReadyH.nil;go_simp;refine(HI.out _ (by first|exact a|exact zai a|exact qc (zac _ _) _|exact qc a _)).mono ?_;rintro e' wn ⟨rfl,P⟩;replace a:=q9 (by first|exact a|exact zai a|exact qc (zac _ _) _|exact qc a _) P rfl;go_wp2_with fail;refine hK.out _ _ ⟨qe a M,qe a N,qe a O,qe a H,qe a I,qe a J,qe a L⟩ (fun hHeld1=>?_);clear hK K hHeld0;refine tp 8 (.bool false) rfl ?_;refine tp 9 (.bool false) rfl ?_;refine tp 10 (.pointer (some ⟨w.heap.size,3,none⟩)) rfl ?_;refine tk 11 (.slice (some ⟨b,o,none⟩) n c) rfl (.inl ⟨by kernel_rfl,fun wv j=>by(obtain⟨t,u,v,y,A,C,D⟩:=j);go_simp⟩) ?_;refine tp 12 (.pointer (some ⟨w.heap.size,3,none⟩)) rfl ?_;refine tk 13 (.slice (some ⟨b,o,none⟩) n c) rfl (.inl ⟨by kernel_rfl,fun wv j=>by(obtain⟨t,u,v,y,A,C,D⟩:=j);go_simp⟩) ?_;refine tp 14 (.int .i64 k) rfl ?_;refine tp 15 (.pointer (some ⟨b,o+k*4,none⟩)) rfl ?_;refine tk 16 (.agg #[.int .i64 g.1,.slice Q mL X,.slice R mR Y,.slice T mV Z]) rfl (.inl ⟨by kernel_rfl,fun wv j=>by(obtain⟨t,u,v,y,A,C,D⟩:=j);go_simp⟩) ?_;refine tp 18 (.int .i64 k) rfl ?_
     (try simp only[Act.put,zA,zB,zC,zD,zE,zF])
     refine ze5 (rs:= [17]) (by kernel_rfl) (by simp) ?_;refine zgc rfl (fun K hK=>?_) AllReadyH.nil;go_simp;refine(HX.out _ (by first|exact a|exact zai a|exact qc (zac _ _) _|exact qc a _)).mono ?_;rintro e' wn ⟨rfl,P⟩;replace a:=q9 (by first|exact a|exact zai a|exact qc (zac _ _) _|exact qc a _) P rfl;go_wp2_with fail;refine hK.out _ _ ⟨qe a M,qe a N,qe a O,qe a H,qe a I,qe a J,qe a L⟩ (fun hHeld2=>?_);clear hK K hHeld1;refine tp 19 (.bool bb) rfl ?_;refine tp 20 (.bool bb) rfl ?_
     (try simp only[Act.put,zA,zB,zC,zD,zE,zF])
     refine zcf (by kernel_rfl) ?_ _;clear hbb
     rcases bb with _|_
     .have HP2:Hid (p=(k:Int)):=by have:=HBB.out;show p=(k:Int);simpa[bne_iff_ne]using this
      have HF2:=zaa (HF.out.step HD.out HTB.out (HPM.out.1 (HP.out.trans HP2.out)));have T3:=q9 m (by first|exact a|exact zai a) rfl;go_wp2_with fail
      go_roundw
      case rel=>exact⟨k+1,by omega,by go_num,HF2,T3⟩
      case measure=>simp[intOf];try omega
     .have HP2:Hid (¬p=(k:Int)):=by have:=HBB.out;show ¬p=(k:Int);simpa[bne_iff_ne]using this
      have HM:Hid (memF (fs.take k) g=true):=by
       show _=_
       rcases hm:memF (fs.take k) g with _|_
       .exact absurd (HP.out.symm.trans (HPM.out.2 hm)) HP2.out
       .rfl
      go_wp2_with fail;go_ret;exact⟨qg ((HF.out.stop2 HD.out HM.out).trans s.out),q9 W (q9 m (by first|exact a|exact zai a) rfl) rfl⟩
   .have hk1:¬(k:Int)<(n:Int):=by omega
    have HE:Hid (fs.drop k= []):=zbk (by rw[V.out];omega);go_wp2_with fail;go_ret;exact⟨qg ((HF.out.done HE.out).trans s.out),q9 W m rfl⟩
noncomputable def fixW (w:World) (g n:Nat):Nat:=(List.range n).countP fun i=>tt (w.cell? ⟨g,i,none⟩=some (.int .i64 (i:Int)))
def flgV:Value->Nat| .bool true=>1|_=>0
theorem qhh {w:World} {base g n c:Nat} {p:List Int} (h:w.ownsRow base 3 1 (.slice (some ⟨g,0,none⟩) n c) n (ints p)) (d:ParP n p):fixW w g n=fixs n p:=by
 unfold fixW fixs;rw[<-List.countP_eq_length_filter];refine List.countP_congr fun i b=>?_
 have a:=zdd.1 b;rw[q8b h (d.at a).1 a,q2h,zdx];constructor
 .intro e
  injection e with e
  injection e with _ e
  omega
 .intro e
  rw[e]
def PdD (n:Nat) (ops:List OpM) (p:List Int) (j k q:Nat):Prop:=(∀j',j'<j->∀o,ops[j']?=some o->∀k',k'<o.1.toNat->∀i,i<o.2.length->PrE n p o i (o.1.toNat - 1 - k'))/\(∀o,ops[j]?=some o->(∀k',k'<k->k'<o.1.toNat->∀i,i<o.2.length->PrE n p o i (o.1.toNat - 1 - k'))/\(k<o.1.toNat->∀i,i<q->i<o.2.length->PrE n p o i (o.1.toNat - 1 - k)))
theorem PdD.start (n:Nat) (ops:List OpM) (p:List Int):PdD n ops p 0 0 0:=⟨fun a h=>absurd h (by omega),fun o _=>⟨fun b h=>absurd h (by omega),fun _ i h=>absurd h (by omega)⟩⟩
theorem PdD.entry {n:Nat} {ops:List OpM} {p:List Int} {j k q:Nat} {o:OpM} (h:PdD n ops p j k q) (c:ops[j]?=some o) (d:PrE n p o q (o.1.toNat - 1 - k)):PdD n ops p j k (q+1):=⟨h.1,fun l a=>by
 rw[c]at a;injection a with a
 subst a;refine⟨(h.2 _ c).1,fun f i g b=>?_⟩
 by_cases e:i=q
 .subst e;exact d
 .exact(h.2 _ c).2 f i (by omega) b⟩
theorem PdD.digit {n:Nat} {ops:List OpM} {p:List Int} {j k q:Nat} {o:OpM} (h:PdD n ops p j k q) (d:ops[j]?=some o) (l:¬q<o.2.length):PdD n ops p j (k+1) 0:=⟨h.1,fun m a=>by
 rw[d]at a;injection a with a
 subst a;refine⟨fun f g b i c=>?_,fun _ i c=>absurd c (by omega)⟩
 by_cases e:f=k
 .subst e;exact(h.2 _ d).2 b i (by omega) c
 .exact(h.2 _ d).1 f (by omega) b i c⟩
theorem PdD.op {n:Nat} {ops:List OpM} {p:List Int} {j k q:Nat} {o:OpM} (h:PdD n ops p j k q) (f:ops[j]?=some o) (r:¬k<o.1.toNat):PdD n ops p (j+1) 0 0:=⟨fun g m l a c b i d=>by
 by_cases e:g=j
 .subst e
  rw[f]at a;injection a with a
  subst a;exact(h.2 _ f).1 c (by omega) b i d
 .exact h.1 g (by omega) l a c b i d,fun l _=>⟨fun c h=>absurd h (by omega),fun _ i h=>absurd h (by omega)⟩⟩
theorem PdD.done {n:Nat} {ops:List OpM} {p:List Int} {j k q:Nat} (h:PdD n ops p j k q) (f:¬j<ops.length):q4h n ops p:=fun o c d hd i b=>by
 obtain⟨e,a⟩:=zbo c;have:=(zag.1 a).1;have:=h.1 e (by omega) o a (o.1.toNat - 1 - d) (by omega) i b
 rwa [show o.1.toNat - 1 - (o.1.toNat - 1 - d)=d by omega]at this
structure CgI (n:Nat) (ops:List OpM) (p0 ps p:List Int) (was ch:Bool) (j k q:Nat):Prop where
 pos:0<n
 ok:∀o∈ops,OpP n o
 par:ParP n p
 yes:was=true->¬q4h n ops p0
 no:was=false->p=p0/\ch=false
 fin:ch=false->p=ps/\PdD n ops p j k q
 less:ch=true->fixs n p<fixs n ps
 ul:UL n ops p0 p
theorem CgI.mv {n:Nat} {ops:List OpM} {f g p:List Int} {a b:Bool} {j k q d e i:Nat} (h:CgI n ops f g p a b j k q) (hd:PdD n ops p j k q->PdD n ops p d e i):CgI n ops f g p a b d e i:=⟨h.pos,h.ok,h.par,h.yes,h.no,fun c=>⟨(h.fin c).1,hd (h.fin c).2⟩,h.less,h.ul⟩
theorem CgI.join {n:Nat} {ops:List OpM} {r s p:List Int} {d f:Bool} {j k q x y:Nat} {o:OpM} (h:CgI n ops r s p d f j k q) (e:ops[j]?=some o) (v:k<o.1.toNat) (i:q<o.2.length) (l:nmAt o.2 q=x) (m:nmAt o.2 (repI n o.1.toNat p q (o.1.toNat - 1 - k))=y) (a:x<n) (b:y<n) (c:nmAt p x≠nmAt p y):CgI n ops r s (uniL p x y) true true j k (q+1):=by
 refine⟨h.pos,h.ok,qh6 h.par a b,fun _ g=>?_,fun h=>(by cases h),fun h=>(by cases h),fun _=>?_,h.ul.join h.par h.par (fun _ _ _ _ k=>k) h.pos (zaf e) (h.ok o (zaf e)) (by omega) i l m a b⟩
 .rcases d with _|_
  .have u:=(h.no rfl).1
   subst u;have:=g o (zaf e) (o.1.toNat - 1 - k) (by omega) q i;unfold PrE at this;rw[l,m]at this;exact c this
  .exact h.yes rfl g
 .have t:=qoz h.par a b c
  rcases f with _|_
  .rw[<-(h.fin rfl).1];exact t
  .have:=h.less rfl;omega
theorem CgI.keep {n:Nat} {ops:List OpM} {d e p:List Int} {a b:Bool} {j k q x y:Nat} {o:OpM} (h:CgI n ops d e p a b j k q) (f:ops[j]?=some o) (g:nmAt o.2 q=x) (i:nmAt o.2 (repI n o.1.toNat p q (o.1.toNat - 1 - k))=y) (c:nmAt p x=nmAt p y):CgI n ops d e (uniL p x y) a b j k (q+1):=by
 rw[qdl c];exact h.mv fun hd=>hd.entry f (by unfold PrE;rw[g,i,c])
theorem CgI.begin_ {n:Nat} {ops:List OpM} {c p:List Int} {a:Bool} (e:0<n) (b:∀o∈ops,OpP n o) (f:ParP n p) (i:a=true->¬q4h n ops c) (d:(a=false->p=c)/\UL n ops c p):CgI n ops c p p a false 0 0 0:=⟨e,b,f,i,fun g=>⟨d.1 g,rfl⟩,fun _=>⟨rfl,PdD.start _ _ _⟩,fun h=>(by cases h),d.2⟩
theorem q7u (cs:List Value) (x:qi) (g n c base:Nat) (u:List Int) (wa w:World) (h:qf.rd wa cs x) (hx:AlgP x) (hn:x.1=(n:Int)) (hT:Below wa.heap.size wa w) (hba:wa.heap.size<=base) (f:w.ownsRow base 3 1 (.slice (some ⟨g,0,none⟩) n c) n (ints u)) (hp0:ParP n u):
  Calls Tryz.prog 177 #[.agg cs.toArray,.slice (some ⟨g,0,none⟩) n c] w fun e w'=>e=.returned (.bool (!(tt (q4h n x.2 u))))/\w.grownBy w' (some g)/\∃p,w'.ownsRow base 3 1 (.slice (some ⟨g,0,none⟩) n c) n (ints p)/\ParP n p/\q4h n x.2 p/\UL n x.2 u p:=by
 obtain⟨a,r⟩:=x;obtain⟨hx1,hx2,hx3,U⟩:=hx;simp only at hx1 hx2 hx3 U hn;subst hn;rw[za5]at U;have J:0<n:=by omega
 have hn8:n<=8:=by omega
 obtain⟨B,m,d,rfl,-,qo⟩:=qv h;have HML:=zaa qo.len;have W:=zaa U;have hm4:m<=4:=by rw[<-qo.len];exact hx3
 have hgl:=f.lt g rfl;obtain⟨w0,hw0,T0,hsz0,BP⟩:=q15 w #[.int .i64 (n:Int),.slice B m d] 24;have HW0:=zaa hw0;have K:=qp f T0;have HB:=zaa hba;have hgw:(some w.heap.size)≠some g:=fun e=>by injection e with e;omega
 have HT0:Hid (w.grownBy w0 (some g)):=qnj T0;have P:Hid (∀E,w0.grownBy E (some g)->Below wa.heap.size wa E):=fun E hz=>(q9 hT T0 rfl).grown hz (za7 hT.size T0.size) fun k hk=>by injection hk with hk;subst hk;exact za7 hba hgl.1
 have HBP:Hid (∀E,w0.grownBy E (some g)->E.cell? ⟨w.heap.size,0,none⟩=some (.int .i64 (n:Int))/\E.cell? ⟨w.heap.size,1,none⟩=some (.slice B m d)):=fun E hz=>by
  have:=BP.grown hz hgw;obtain⟨h0,h1⟩:=cl2 this;exact⟨h0,h1⟩
 have HP0:=zaa hp0;clear hw0 hsz0 f hx3 U h hT hba hp0
 go_enter Tryz.func177,Tryz.ntmps177
 go_upto_region 1 with fail;rw[<-HW0.out];go_wp2_with fail
 go_loopw [5,6] (fun s1 s2 wr=>∃(p:List Int) (l s:Bool),s1=.bool l/\s2=.bool s/\Hid (ParP n p)/\Hid (l=true->¬q4h n r u)/\Hid ((l=false->p=u)/\UL n r u p)/\Hid (s=false->q4h n r p)/\wr.ownsRow base 3 1 (.slice (some ⟨g,0,none⟩) n c) n (ints p)/\w0.grownBy wr (some g)) (fun _ s2 wr=>2*fixW wr g n+flgV s2)
 case atStart=>
  have h1:Hid (false=true->¬q4h n r u):=fun h=>(by cases h)
  have h2:Hid ((false=false->u=u)/\UL n r u u):=⟨fun _=>rfl,UL.refl _ _ _⟩;have h3:Hid (true=false->q4h n r u):=fun h=>(by cases h)
  exact⟨u,false,true,rfl,rfl,HP0,h1,h2,h3,K,q4j _ _⟩
 case round=>
  clear K;obtain⟨C,l,s,rfl,rfl,HP,HY,HN,HC,f,S⟩:=hrel;have HMS:Hid (fixW wr g n=fixs n C):=qhh f HP.out
  rcases s with _|_
  .have HD:Hid (l= !(tt (q4h n r u))):=by
    show _=_
    rcases l with _|_
    .rw[<-HN.out.1 rfl,<-q6o (HC.out rfl)];rfl
    .rw[<-q2r (HY.out rfl)];rfl
   have HF:Hid (q4h n r C/\UL n r u C):=⟨HC.out rfl,HN.out.2⟩;go_wp2_with fail;go_ret;exact⟨qg (by rw[<-HD.out]),q49 HT0.out S,C,f,HP.out,HF.out⟩
  .have kP1:=(HBP.out _ S).2
   have HI0:Hid (CgI n r u C C l false 0 0 0):=CgI.begin_ J W.out HP.out HY.out HN.out;obtain⟨ws,HWS⟩:∃ws:World,ws=wr:=⟨_,rfl⟩;subst HWS;clear HP HY HN HC;go_wp2_with fail;clear kP1
   go_loopw [5,6,18] (fun s1 s2 i wr=>∃(j:Nat) (p:List Int) (l s:Bool),j<=m/\i=.int .i64 j/\s1=.bool l/\s2=.bool s/\Hid (CgI n r u C p l s j 0 0)/\wr.ownsRow base 3 1 (.slice (some ⟨g,0,none⟩) n c) n (ints p)/\w0.grownBy wr (some g)) (fun _ _ i _=>m - (intOf i).toNat)
   case atStart=>exact⟨0,C,l,false,zah _,rfl,rfl,rfl,HI0,f,S⟩
   case round=>
    clear f S HI0;obtain⟨j,p,l,s,hj,rfl,rfl,rfl,A,f,S⟩:=hrel
    by_cases hlt:j<m
    .have hj0:(0:Int)<=(j:Int):=by omega
     have hj1:(j:Int)<(m:Int):=by omega
     obtain⟨b,o,vs,op,rfl,-,hc,hr,-,hxo⟩:=qo.at hlt;obtain⟨B',I,d',rfl,-,qt⟩:=rdOp hr;have T:=W.out op (zaf hxo);obtain⟨H,tb,rfl,har⟩:=q89 T;have R:=zaa hxo;have HTL:Hid (I=n ^ H):=by show _=_;rw[<-qt.len];have:=T.2.2.1;simpa using this
     have HTB:Hid (tb.length=I):=qt.len;have HTV:=zaa T.2.2.2;have cc0':wr.cell? ⟨b,o+j*2,none⟩=some (.int .i64 (H:Int)):=qe (P.out _ S) (hc 0 _ rfl);have cc1':wr.cell? ⟨b,o+j*2+1,none⟩=some (.slice B' I d'):=qe (P.out _ S) (hc 1 _ rfl);have hm512:I<=4096:=by rw[HTL.out];exact q47 hn8 (by omega)
     obtain⟨w1,hw1,T1,hsz1,BX⟩:=q15 wr #[.int .i64 (H:Int),.slice B' I d'] 122;have HW1:=zaa hw1;have hg1:=(f.lt g rfl);have hG1:w0.grownBy w1 (some g):=q49 S (qnj T1);have L:=qp f T1;have hgx:(some wr.heap.size)≠some g:=fun e=>by injection e with e;omega
     have O:Hid (∀E,w1.grownBy E (some g)->E.cell? ⟨wr.heap.size,0,none⟩=some (.int .i64 (H:Int))/\E.cell? ⟨wr.heap.size,1,none⟩=some (.slice B' I d')):=fun E hz=>by
      have:=BX.grown hz hgx;obtain⟨h0,h1⟩:=cl2 this;exact⟨h0,h1⟩
     clear hc hr hw1 hsz1 hxo f T;go_wp2_with fail;rw[<-HW1.out];clear cc0' cc1';go_wp2_with fail
     go_loopw [5,6,9,10] (fun s1 s2 st kk wi=>∃(k t:Nat) (p:List Int) (l s:Bool),k<=H/\kk=.int .i64 k/\st=.int .i64 t/\Hid (t=n ^ k)/\s1=.bool l/\s2=.bool s/\Hid (CgI n r u C p l s j k 0)/\wi.ownsRow base 3 1 (.slice (some ⟨g,0,none⟩) n c) n (ints p)/\w1.grownBy wi (some g)) (fun _ _ _ kk _=>H - (intOf kk).toNat)
     case atStart=>exact⟨0,1,p,l,s,zah _,rfl,rfl,(by show _=_;rw[zfw]),rfl,rfl,A,L,q4j _ _⟩
     case round=>
      clear L A;obtain⟨k,t,p,l,s,hk,rfl,rfl,Q,rfl,rfl,A,f,y⟩:=hrel;have ht4:t<=4096:=by rw[Q.out];exact q47 hn8 (by omega)
      have ht0:0<t:=by rw[Q.out];exact Nat.pow_pos J
      have G:w0.grownBy wr (some g):=q49 hG1 y;have kX0:=(O.out _ y).1;have V:=(O.out _ y).2;have kP0:=(HBP.out _ G).1
      by_cases hlk:k<H
      .have hk0:(0:Int)<=(k:Int):=by omega
       have hk1:(k:Int)<(H:Int):=by omega
       go_wp2_with fail;clear kX0 V kP0
       go_loopw [5,6,31] (fun s1 s2 i wi=>∃(q:Nat) (p:List Int) (l s:Bool),q<=I/\i=.int .i64 q/\s1=.bool l/\s2=.bool s/\Hid (CgI n r u C p l s j k q)/\wi.ownsRow base 3 1 (.slice (some ⟨g,0,none⟩) n c) n (ints p)/\w1.grownBy wi (some g)) (fun _ _ i _=>I - (intOf i).toNat)
       case atStart=>exact⟨0,p,l,s,zah _,rfl,rfl,rfl,A,f,y⟩
       case round=>
        clear f A y G;obtain⟨q,p,l,s,hq,rfl,rfl,rfl,A,f,y⟩:=hrel;have G:w0.grownBy wr (some g):=q49 hG1 y;have kX0:=(O.out _ y).1;have V:=(O.out _ y).2;have kP0:=(HBP.out _ G).1
        by_cases hlq:q<I
        .have hq0:(0:Int)<=(q:Int):=by omega
         have hq1:(q:Int)<(I:Int):=by omega
         obtain⟨b3,o3,u3,v,rfl,hc3,⟨rfl,-,-⟩,-,hxv⟩:=(qt.next qd (P.out _ G)).at hlq;have hvi:=HTV.out v (zaf hxv);obtain⟨y1,rfl⟩:=zan hvi.1;have Z:y1<n:=by omega
         have HY1:Hid (nmAt tb q=y1):=by show _=_;rw[q1d hxv];simp
         obtain⟨D,HD⟩:∃D,Hid (q / t=D):=⟨_,rfl⟩;obtain⟨X,HX⟩:∃X,Hid (D % n=X):=⟨_,rfl⟩;have hXn:X<n:=by rw[<-HX.out];exact zfn _ J
         have hDq:D<=4096:=by rw[<-HD.out];exact za7 (zfj _ _) (by omega)
         have hpX:=A.out.par.at hXn;obtain⟨pX,HPX⟩:∃z,Hid (nmAt p X=z):=⟨_,rfl⟩;rw[HPX.out]at hpX;have hcX:=q8b f hpX.1 hXn;obtain⟨RP,HRP⟩:∃z,Hid (repI n H p q (H - 1 - k)=z):=⟨_,rfl⟩;have hRPm:RP<I:=by rw[<-HRP.out,HTL.out];exact qmd J A.out.par
         have M:=qok (k:=H) (q:=k) (i:=q) (p:=p) J hlk (by rw[<-HTL.out];exact hlq);rw[HRP.out,<-Q.out,HD.out,HX.out,HPX.out]at M;obtain⟨u4,v4,hc4,⟨rfl,-,-⟩,-,N⟩:=(qt.next qd (P.out _ G)).at' hRPm;have Y:=HTV.out v4 (zaf N);obtain⟨y2,rfl⟩:=zan Y.1;have aa:y2<n:=by omega
         have HY2:Hid (nmAt tb (repI n H p q (H - 1 - k))=y2):=by show _=_;rw[HRP.out,q1d N];simp
         have htz:¬(t:Int)=0:=by omega
         have hnz:¬(n:Int)=0:=by omega
         have f1:(q:Int) / (t:Int)=(D:Int):=by rw[<-HD.out];simp
         have f2:(q:Int).tdiv (t:Int)=(D:Int):=by rw[<-HD.out];exact Int.ofNat_tdiv q t ▸ rfl
         have f3:IntKind.i64.wrap (D:Int)=(D:Int):=by rw[zdg];omega
         have f4:(D:Int).tmod (n:Int)=(X:Int):=by rw[<-HX.out];rfl
         have f5:(D:Int) % (n:Int)=(X:Int):=by rw[<-HX.out];simp
         have hX0:(0:Int)<=(X:Int):=by omega
         have hX1:(X:Int)<(n:Int):=by omega
         have hR0:(0:Int)<=(RP:Int):=by omega
         have hR1:(RP:Int)<(I:Int):=by omega
         have er:(q:Int)+((pX:Int) - (X:Int))*(t:Int)=(RP:Int):=M.symm;have ew1:IntKind.i64.wrap ((pX:Int) - (X:Int))=(pX:Int) - (X:Int):=by rw[zdg];omega
         have ew2:IntKind.i64.wrap (((pX:Int) - (X:Int))*(t:Int))=((pX:Int) - (X:Int))*(t:Int):=by
          have e1:((pX:Int) - (X:Int))*(t:Int)=(RP:Int) - (q:Int):=by omega
          rw[e1,zdg];omega
         have ew3:IntKind.i64.wrap (RP:Int)=(RP:Int):=by rw[zdg];omega
         have HU:=zaa fun(E:World) (ho:E.ownsRow base 3 1 (.slice (some ⟨g,0,none⟩) n c) n (ints p))=>qfh g n c base p y1 y2 E ho A.out.par Z aa (by omega)
         clear hxv hvi N Y M hpX;go_wp2_with fail
         go_quiet (fail)
         go_wp2_with fail;clear f1 f2 f4 f5
         go_region_law (first
          |(go_simp;go_at_call 193;(with_reducible refine(HU.out _ ?_).mono ?_);(exact f);rintro e wu ⟨rfl,hou,hgu⟩))
         all_goals
          have hG4:w1.grownBy wu (some g):=(by first|exact q49 y hgu|exact q49 (q9k y _) hgu);have HOU:=zaa hou;clear hou hgu
          by_cases heq:nmAt p y1=nmAt p y2
          .have F:Hid (CgI n r u C (uniL p y1 y2) l s j k (q+1)):=A.out.keep R.out HY1.out (by simpa using HY2.out) heq
           have hd:decide (nmAt p y1=nmAt p y2)=true:=zbh heq;rw[hd];clear heq hd;go_wp2_with fail
           go_roundw
           case rel=>exact⟨q+1,_,l,s,by omega,by go_num,rfl,rfl,F,HOU.out,hG4⟩
           case measure=>simp[intOf];try omega
          .have F:Hid (CgI n r u C (uniL p y1 y2) true true j k (q+1)):=A.out.join R.out (by simpa using hlk) (by have:=HTB.out;simp only;omega) HY1.out (by simpa using HY2.out) Z aa heq
           have hd:decide (nmAt p y1=nmAt p y2)=false:=zbi heq;rw[hd];clear heq hd;go_wp2_with fail
           go_roundw
           case rel=>exact⟨q+1,_,true,true,by omega,by go_num,rfl,rfl,F,HOU.out,hG4⟩
           case measure=>simp[intOf];try omega
        .have hq1:¬(q:Int)<(I:Int):=by omega
         have F:Hid (CgI n r u C p l s j (k+1) 0):=A.out.mv fun h=>h.digit R.out (by have:=HTB.out;simp only;omega)
         have hM:t*n<=4096*8:=zci ht4 hn8;have hm0:(0:Int)<=(t:Int)*(n:Int):=by rw[<-zbw];omega
         have hm1:(t:Int)*(n:Int)<=32768:=by rw[<-zbw];omega
         have HE:Hid ((t:Int)*(n:Int)=((t*n:Nat):Int)):=(zbw _ _).symm;have HT2:Hid (t*n=n ^ (k+1)):=by show _=_;rw[Q.out,zfi]
         clear hM V;go_wp2_with fail
         go_roundw
         case rel=>exact⟨k+1,t*n,p,l,s,by omega,by go_num,by rw[HE.out],HT2,rfl,rfl,F,f,y⟩
         case measure=>simp[intOf];try omega
      .have hk1:¬(k:Int)<(H:Int):=by omega
       have F:Hid (CgI n r u C p l s (j+1) 0 0):=A.out.mv fun h=>h.op R.out (by simp;omega)
       clear V kP0;go_wp2_with fail
       go_roundw
       case rel=>exact⟨j+1,p,l,s,by omega,by go_num,rfl,rfl,F,f,G⟩
       case measure=>simp[intOf];try omega
    .have hj1:¬(j:Int)<(m:Int):=by omega
     have HF1:Hid (l=true->¬q4h n r u):=A.out.yes;have HF2:Hid ((l=false->p=u)/\UL n r u p):=⟨fun h=>(A.out.no h).1,A.out.ul⟩;have HF3:Hid (s=false->q4h n r p):=fun h=>(A.out.fin h).2.done (by rw[HML.out];exact hlt)
     have HPP:Hid (ParP n p):=A.out.par;have HMS2:Hid (fixW wr g n=fixs n p):=qhh f A.out.par;go_wp2_with fail
     go_roundw
     case rel=>exact⟨p,l,s,rfl,rfl,HPP,HF1,HF2,HF3,f,S⟩
     case measure=>
      show 2*fixW wr g n+flgV (.bool s)<2*fixW _ g n+flgV (.bool true)
      rw[HMS2.out,HMS.out]
      rcases s with _|_
      .rw[(A.out.fin rfl).1]
       show 2*fixs n C+0<2*fixs n C+1
       omega
      .have:=A.out.less rfl
       show 2*fixs n p+1<2*fixs n C+1
       omega
theorem q9e (cs:List Value) (x:qi) (A:Option Addr) (m c:Nat) (p:List Int) (w:World) (h:qf.rd w cs x) (C:AlgP x) (o:RdL RI w A m p):
  Calls Tryz.prog 129 #[.agg cs.toArray,.slice A m c] w (Bl w (.bool (q2k x.1.toNat x.2 p))):=by
 have u:=h;obtain⟨B,k,d,rfl,-,qo⟩:=qv h;obtain⟨n,F⟩:∃n:Nat,x.1=(n:Int):=⟨x.1.toNat,by have:=C.1;omega⟩;have t:=zaa F;have hn8:n<=8:=by have:=C.2.1;omega
 have R:0<n:=by have:=C.1;omega
 have J:Hid (x.1.toNat=n):=by show _=_;omega
 obtain⟨f,y,l,v,T⟩:=q15 w #[.int .i64 x.1,.slice B k d] 24;have j:=zaa y;have L:=zaa (qf.stab u l.block);rw[F]at j T;obtain⟨M,N⟩:=cl2 T;have W:=zaa C;have U:=o.next qd l;have I:=zaa o.len;have s:Hid (∀a,Below f.heap.size f a->Calls Tryz.prog 176 #[.int .i64 (n:Int),.slice A m c] a (Qt a (.bool (tt (ParP n p))))):=fun a D=>q2b (qab A n m c p a (U.next qd D) (by omega))
 rw[J.out];rw[F];clear y v u qo h C o F
 rcases hb:tt (ParP n p)with _|_
 .rw[hb]at s
  have K:Hid (q2k n x.2 p=false):=by show _=_;unfold q2k;rw[hb];rfl
  clear hb
  go_enter Tryz.func129,Tryz.ntmps129
  go_upto_region 1 with fail;rw[<-j.out]
  go_quiet ((go_at_call 176;first|exact q1o (s.out _ (by first|exact zac _ _|exact qc (zac _ _) _))|exact q1f (s.out _ (by first|exact zac _ _|exact qc (zac _ _) _))))
  go_wp2_with fail;go_ret;exact⟨qg K.out.symm,(by first|exact l|exact qc (l) _|exact qc (qc (l) _) _|exact qc (qc (qc (l) _) _) _)⟩
 .rw[hb]at s
  have S:=q2h.1 hb;have Q:m=n:=by rw[<-I.out];exact S.1
  subst Q;have V:=zaa S;have K:Hid (q2k m x.2 p=tt (q4h m x.2 p)):=by show _=_;unfold q2k;rw[hb];rfl
  obtain⟨cb,q⟩:∃z,Hid (tt (q4h m x.2 p)=z):=⟨_,rfl⟩;have G:Hid (∀a,Below f.heap.size f a->Calls Tryz.prog 137 #[.slice A m c] a fun e w'=>∃A' c',e=.returned (.slice A' m c')/\w'.ownsRow a.heap.size 3 1 (.slice A' m c') m (ints p)/\Below a.heap.size a w'):=fun a D=>q4i A m c p a (U.next qd D) (by omega)
  have H:Hid (∀(g E:Nat) (a:World),Below f.heap.size f a->a.ownsRow f.heap.size 3 1 (.slice (some ⟨g,0,none⟩) m E) m (ints p)->Calls Tryz.prog 177 #[.agg #[.int .i64 (m:Int),.slice B k d],.slice (some ⟨g,0,none⟩) m E] a fun e w'=>e=.returned (.bool (!cb))/\a.grownBy w' (some g)):=fun g E a D ho=>by
   have:=q7u _ x g m E f.heap.size p f a L.out W.out t.out D (zad _) ho V.out;rw[t.out,q.out]at this;exact this.mono fun _ _ h=>⟨h.1,h.2.1⟩
  have b:Below f.heap.size f f:=zac _ _;clear hb S
  go_enter Tryz.func129,Tryz.ntmps129
  go_upto_region 1 with fail;rw[<-j.out]
  go_region_law (first
   |(go_simp;go_at_call 176;(with_reducible refine(s.out _ ?_).mono ?_);(first|exact b|exact qc b _);rintro e wa ⟨rfl,za,rfl⟩)
   |(go_simp;go_at_call 137;(with_reducible refine(G.out _ ?_).mono ?_);(first|exact b|exact qc b _);rintro e wb ⟨A5,X,rfl,i,O⟩;replace i:=ql (base':=f.heap.size) i (by exact b.size);replace b:=q9 (by first|exact b|exact qc b _) O rfl;obtain⟨g5,rfl,-,-⟩:=q2o i R;have Y:=qe b M;have Z:=qe b N)
   |(go_simp;go_at_call 177;(refine(H.out g5 X _ ?_ ?_).mono ?_);(first|exact b|exact qc b _);(exact i);rintro e wc ⟨rfl,P⟩;replace b:=Below.grown (by first|exact b|exact qc b _) P (by exact b.size) (fun r o=>by injection o with o;subst o;exact(i.lt _ rfl).1)))
  all_goals
   go_wp2_with fail;go_ret;exact⟨qg (by rw[K.out,q.out];try simp),q9 l (by first|exact b|exact qc b _) rfl⟩
end Go.Proofs.YtfnmkbpogbekpaaGreatDoor
