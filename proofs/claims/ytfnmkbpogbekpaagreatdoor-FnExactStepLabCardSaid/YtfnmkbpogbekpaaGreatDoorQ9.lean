import Derived.Test.YtfnmkbpogbekpaaGreatDoorQ8
import Derived.Deep.Upon
set_option linter.unusedVariables false
set_option linter.unusedSimpArgs false
set_option maxRecDepth 100000
set_option maxHeartbeats 32000000
namespace Go.Proofs.YtfnmkbpogbekpaaGreatDoor
open Go.RowKit
def msId (x:q1a):Nat:=x.1.length+x.2.length
def mqId (k:Int) (x:q1a):q1a:=(nums k x.1.length,nums (k+x.1.length) x.2.length)
def q4r (x:q12):Nat:=msId x.2.1+x.2.2.length
def qk1 (k:Int) (x:q12):q12:=(x.1,mqId k x.2.1,nums (k+msId x.2.1) x.2.2.length)
theorem q94 (cs:List Value) (x:q1a) (o:List Nat) (a:Int) (w:World) (h:qu.own w cs x o) (d:o.Nodup) (P:0<=a) (C:a+msId x<=4611686018427387904):
  Calls Tryz.prog 91 #[.agg cs.toArray,.int .i64 a] w (MkE qu w cs (mqId a x) o (a+msId x)):=by
 obtain⟨T,U,m,n,rfl,rfl,j,k⟩:=h;obtain⟨_,rfl,v,E,A,rfl,-⟩:=(Sh.il 3).ord j;obtain⟨_,rfl,y,F,B,rfl,-⟩:=(Sh.il 3).ord k;obtain⟨R,f,l,D,z⟩:=q16 w #[.slice v E A,.slice y F B] 55;have u:w.heap.size∉m:=q7j j rfl;have Q:w.heap.size∉n:=q7j k rfl;have M:=Sh.onext j l;have N:=Sh.onext k l;have V:a+(x.1.length:Int)+(x.2.length:Int)<=4611686018427387904:=by unfold msId at C;push_cast at C;omega
 have i:=zaa f;obtain⟨p,q⟩:=cl2 z;have H:=nd_x d;have I:=nd_y d;clear f
 go_enter Tryz.func91,Tryz.ntmps91
 go_upto_region 1 with fail;rw[<-i.out];go_wp2_with fail;refine(q2c _ x.1 m a R M P (by omega)).mono ?_;rintro e S ⟨rfl,J,t⟩;have O:=Sh.ochg N t I;have g:=z.chgB t u;have r:=g.cell 1;simp at r;clear p q;go_wp2_with fail;refine(q2c _ x.2 n (a+x.1.length) S O (by omega) (by omega)).mono ?_;rintro e W ⟨rfl,K,c⟩;have L:=Sh.ochg J c H;have G:Hid (a+(x.1.length:Int)+(x.2.length:Int)=a+((msId x:Nat):Int)):=by show _=_;unfold msId;push_cast;omega
 go_wp2_with fail;go_ret;refine⟨q11 G.out,⟨[.slice v E A], [.slice y F B],m,n,rfl,rfl,L,K⟩,?_⟩;exact((ChgB.ofBelow l).trans (t.mono fun b s=>zba _ s)).trans (c.mono fun b s=>zay _ s)
theorem qdx (cs:List Value) (x:q12) (u:List Nat) (c:Int) (w:World) (h:qj.own w cs x u) (C:u.Nodup) (h0:0<=c) (K:c+q4r x<=4611686018427387904):
  Calls Tryz.prog 52 #[.agg cs.toArray,.int .i64 c] w (MkE qj w cs (qk1 c x) u (c+q4r x)):=by
 obtain⟨cK,cX,bK,bX,rfl,rfl,V,⟨c0,c1,f,o,rfl,rfl,s,G⟩⟩:=h;obtain⟨_,rfl,⟨rfl,D,A⟩,rfl⟩:=V;obtain⟨E,N,I,F,O,J,rfl,-,-⟩:=q1i (qu.ord s);obtain⟨_,rfl,P,n1,Z,rfl,-⟩:=(Sh.il 3).ord G;obtain⟨w0,l,t,L,n⟩:=q16 w #[.int .i64 x.1,.slice E N I,.slice F O J,.slice P n1 Z] 57;have a:(f++o).Nodup:=by simpa using C
 have B:w.heap.size∉f:=q7j s rfl;have W:=Sh.onext s t;have X:=Sh.onext G t;have hm:c+(msId x.2.1:Int)+(x.2.2.length:Int)<=4611686018427387904:=by unfold q4r at K;push_cast at K;omega
 have r:=zaa l;have g:=n.cell 1;have i:=n.cell 2;have j:=n.cell 3;simp at g i j;have R:=nd_x a;have S:=nd_y a;have q:=nd_l a;clear l
 go_enter Tryz.func52,Tryz.ntmps52
 go_upto_region 1 with fail;rw[<-r.out];go_wp2_with fail;refine(q94 [.slice E N I,.slice F O J] x.2.1 f c w0 W q h0 (by omega)).mono ?_;rintro e w1 ⟨rfl,T,z⟩;have Y:=Sh.ochg X z S;have p:=n.chgB z B;have v:=p.cell 3;simp at v;clear g i j;obtain⟨M,d⟩:∃m:Nat,Hid (msId x.2.1=m):=⟨_,rfl⟩;rw[d.out]at hm⊢;go_wp2_with fail;refine(q2c _ x.2.2 o (c+M) w1 Y (by omega) (by omega)).mono ?_;rintro e w2 ⟨rfl,H,k⟩;have U:=Sh.ochg T k R;have Q:Hid (c+(M:Int)+(x.2.2.length:Int)=c+((q4r x:Nat):Int)):=by show _=_;unfold q4r;rw[d.out];push_cast;omega
 rw[<-d.out]at H;go_wp2_with fail;go_ret;refine⟨q11 Q.out,⟨[.int .i64 x.1],_, [],f++o,rfl,rfl,⟨_,rfl,⟨rfl,D,A⟩,rfl⟩,⟨_,_,f,o,rfl,rfl,U,H⟩⟩,?_⟩;exact((ChgB.ofBelow t).trans (z.mono fun b y=>by simp[y])).trans (k.mono fun b y=>by simp[y])
theorem q5s {l:List Int} (h:q20 l=true):l.Nodup:=(qae.1 h).imp fun h=>by omega
theorem qmk {n:Nat} {l:List Int} (h:l.Nodup) (hi:InL n l):l.length<=n:=by
 have:=qe8 (m:=(List.range n).map fun(y:Nat)=>(y:Int)) h fun v a=>by
  have:=hi v a;exact zb6.2 ⟨v.toNat,zdu.2 (by omega),by omega⟩
 simpa using this
theorem qp4 {n:Nat} {vars:List Int} (h:∀v∈vars,v<=(n:Int)):mxV vars<=n+1:=by
 unfold mxV
 rcases hl:vars.getLast? with _|v
 .simp
 .have:=h v (List.mem_of_getLast? hl)
  simp;omega
theorem q4l {x:qi} {f:q12} (j:AlgP x) (h:q1l x f=true):f.2.2.length<=1000:=by
 obtain⟨g,d,a,b,l,m⟩:=q4s h;have k:=j.2.1
 rcases(by omega:f.1=1\/f.1=2\/(f.1=3\/f.1=5)\/(f.1=4\/f.1=6))with e|e|e|e
 .rw[d e];simp
 .unfold q1l at h
  rw[zaj (by omega),zao e,za4]at h;have c:=h.2;unfold q45 at c;rw[za4,za4,zbt]at c;have:=qp4 (n:=5) (vars:=q5v f.2.1.1 f.2.1.2) fun v i=>by have:=(q4h (n:=6) v i).2;omega
  omega
 .have:=qmk (q5s (a e)) g
  omega
 .rw[b e];omega
theorem qkq {k:Int} {V s:List Int} {n:Nat} (c:PermL n s) (e:InL n V) (d:k=3\/k=5->V.Nodup) (a:k=4\/k=6->V.length=n):(rfL k V s).length=V.length:=by
 have b:(inv n s).length=n:=(q5g c).1;unfold rfL;rw[c.1]
 split
 .rw[q25]
 .split
  .rename_i h1 h2
   rw[<-q6f (q4u c e (d h2)) (q65 c e),List.length_mergeSort,q25]
  .split
   .rename_i h1 h2 h3
    rw[q9c,q25,b,a (.inl h3)]
   .split
    .rename_i h1 h2 h3 h4
     rw[q25,q25,b,a (.inr h4)]
    .rfl
theorem qgm {x:qi}:∀ {fs pre:List q12},goFs x pre fs=true->∀f∈fs,q1l x f=true
 | [],_,_,f,hf=>by cases hf
 | a :: r, pre, h, f, hf => by
   rw [goFs, za4, za4] at h
   rcases zbq.1 hf with rfl | hf
   . exact h.1.1
   . exact qgm h.2 f hf
theorem q5d {x:LabM} (h:labB x=true):∀f∈x.2.2.1,q1l x.2.1 f=true:=fun f a=>by
 obtain⟨b,c,-,-⟩:=q69 h;cases ho:x.1 with
 | false =>
   have := (q7x b c ho).symm.trans h;simp only [za4, zbt] at this;rw [zdg.1 this.2] at a;cases a
 | true =>
   have := (q7w b c ho).symm.trans h;rw [za4] at this;exact qgm this.2 f a
theorem qhh {x:qi} {f:q12} (h:q1l x f=true) (a:f.1=3):subB x.1.toNat x.2 f.2.2=true:=by
 unfold q1l at h;rw[zaj (by omega),zaj (by omega),za4,zao a]at h;exact h.2
theorem q4m {x:qi} {f:q12} (h:q1l x f=true) (b:f.1=4):ParP x.1.toNat f.2.2:=by
 unfold q1l at h;rw[zaj (by omega),zaj (by omega),za4,zaj (by omega),zao b]at h;have a:=h.2;unfold q3q at a;rw[za4]at a;exact q3p.1 a.1
theorem qc0 {x:LabM} (h:q19.cnt x<=1048576):∀f∈x.2.2.1,qj.cnt f<=1048576:=fun f b=>by
 have a:0+(qf.cnt x.2.1+((x.2.2.1.length+cntS qj.cnt x.2.2.1)+0))<=1048576:=h;have c:=q4e (f:=qj.cnt) b;omega
def rnF (s:List Int) (f:q12):q12:=(f.1,f.2.1,rfL f.1 f.2.2 s)
def rnTo (fs:List q12) (s:List Int) (k:Nat):List q12:=(fs.take k).map (rnF s)++fs.drop k
theorem qek (fs:List q12) (s:List Int):rnTo fs s 0=fs:=by simp[rnTo]
theorem qh5 (fs:List q12) (s:List Int):rnTo fs s fs.length=fs.map fun f=>(f.1,f.2.1,rfL f.1 f.2.2 s):=by
 unfold rnTo;rw[List.take_length,List.drop_length,zc3];rfl
theorem qh7 (fs:List q12) (s:List Int) {k:Nat} (h:k<=fs.length):(rnTo fs s k).length=fs.length:=by simp[rnTo];omega
theorem qh6 {fs:List q12} {s:List Int} {k:Nat} (h:k<fs.length):(rnTo fs s k)[k]?=fs[k]?:=by
 unfold rnTo;rw[za9 (by simp;omega),zda]
 congr 1
 simp;omega
theorem qh8 {fs:List q12} {s:List Int} {k:Nat} {f:q12} (h:fs[k]?=some f):(rnTo fs s k).set k (rnF s f)=rnTo fs s (k+1):=by
 obtain⟨a,b⟩:=zag.1 h;unfold rnTo;rw[zbd a,zd1 _ _ (by simp;omega),zbj,h];have e:k - ((fs.take k).map (rnF s)).length=0:=by simp;omega
 rw[e,List.set_cons_zero];simp
def FoE (w:World) (f:q12) (e:Ending) (w':World):Prop:=∃A1 c1 A2 c2 A3 c3 bk,e=.returned (.agg #[.int .i64 f.1,.slice A1 f.2.1.1.length c1,.slice A2 f.2.1.2.length c2,.slice A3 f.2.2.length c3])/\qj.own w' [.int .i64 f.1,.slice A1 f.2.1.1.length c1,.slice A2 f.2.1.2.length c2,.slice A3 f.2.2.length c3] f bk/\Iv w.heap.size w'.heap.size bk/\Below w.heap.size w w'
theorem qnm {x:qi} {f:q12} {s:List Int} (b:AlgP x) (d:q1l x f=true) (c:PermL x.1.toNat s):∀v∈rfL f.1 f.2.2 s,InR v:=fun v e=>by
 have a:=q4s d;have:=qpb c a.1 a.2.2.2.1 v e;have g:=b.2.1;exact⟨by omega,by omega⟩
theorem qhv (x:qi) (f:q12) (s:List Int) (b:AlgP x) (q:q1l x f=true) (c:PermL x.1.toNat s) (m:qj.cnt f<=1048576) (d:Option Addr) (r v:Nat) (g:Option Addr) (t y:Nat) (j:Option Addr) (u A:Nat) (i:Option Addr) (n z:Nat) (w:World) (E:InR f.1) (k:RdL RI w d r f.2.1.1) (l:RdL RI w g t f.2.1.2) (B:RdL RI w j u f.2.2) (hS:RdL RI w i n s):
  Calls Tryz.prog 87 #[.agg #[.int .i64 f.1,.slice d r v,.slice g t y,.slice j u A],.slice i n z] w (FoE w (rnF s f)):=by
 have G:0+((f.2.1.1.length+f.2.1.2.length)+f.2.2.length)<=1048576:=m;have C:=k.len;have D:=l.len;have o:=B.len;have p:n=x.1.toNat:=by rw[<-hS.len];exact c.1
 have a:=q4s q;have F:=b.2.1;refine(qav f.1 d r v g t y j u A i n z f.2.1.1 f.2.1.2 f.2.2 s w k l B hS (by rw[p];exact c) (by omega) (by omega) (by omega) (by rw[<-o];exact q4l b q) (by rw[p];exact a.1) ⟨a.2.2.2.2.1,a.2.2.2.2.2⟩ a.2.1 (fun h=>q5s (a.2.2.1 h)) (fun h=>by rw[p];exact a.2.2.2.1 h)).mono ?_;intro e w' h;exact qb2 (f:=rnF s f) h E k.bounds l.bounds (qnm b q c)
theorem qim (x:qi) (f:q12) (s:List Int) (b:AlgP x) (q:q1l x f=true) (c:PermL x.1.toNat s) (m:qj.cnt f<=1048576) (d:Option Addr) (r v:Nat) (g:Option Addr) (t y:Nat) (j:Option Addr) (u A:Nat) (i:Option Addr) (n z:Nat) (w:World) (E:InR f.1) (k:RdL RI w d r f.2.1.1) (l:RdL RI w g t f.2.1.2) (B:RdL RI w j u f.2.2) (hS:RdL RI w i n s):
  Calls Tryz.prog 65 #[.agg #[.int .i64 f.1,.slice d r v,.slice g t y,.slice j u A],.slice i n z] w (FoE w (rnF s f)):=by
 have G:0+((f.2.1.1.length+f.2.1.2.length)+f.2.2.length)<=1048576:=m;have C:=k.len;have D:=l.len;have o:=B.len;have p:n=x.1.toNat:=by rw[<-hS.len];exact c.1
 have a:=q4s q;have F:=b.2.1;refine(qca f.1 d r v g t y j u A i n z f.2.1.1 f.2.1.2 f.2.2 s w k l B hS (by rw[p];exact c) (by omega) (by omega) (by omega) (by rw[<-o];exact q4l b q) (by rw[p];exact a.1) ⟨a.2.2.2.2.1,a.2.2.2.2.2⟩ a.2.1 (fun h=>q5s (a.2.2.1 h)) (fun h=>by rw[p];exact a.2.2.2.1 h)).mono ?_;intro e w' h;exact qb2 (f:=rnF s f) h E k.bounds l.bounds (qnm b q c)
theorem LabD.base {lo:Nat} {w g:World} {x:LabM} {v u:Value} (h:LabD lo w x v u) (n:Below w.heap.size w g) {k:Value} {a:qi} {css:List (List Value)} {bls:List (List Nat)} (j:PO w.heap.size g k a.2 css bls) (f:lo<=w.heap.size):LabD lo g (x.1,a,x.2.2) k u:=by
 obtain⟨m,l,d,c,p,i,q⟩:=h
 exact⟨css,bls,d,c,j.mono f,i.next n,fun b e o=>by
  have r:=(j.2.2.2 b e).1;have s:=(i.2.2.2 b o).2
  omega⟩
theorem LabD.putF {lo:Nat} {w m:World} {x:LabM} {v u:Value} (h:LabD lo w x v u) (r:Below w.heap.size w m) {k i n o:Nat} (Q:u=.slice (some ⟨i,0,none⟩) n o) (N:k<x.2.2.1.length) {c:List Value} {f:q12} {F:List Nat} (O:qj.own m c f F) (y:Iv w.heap.size m.heap.size F) (l:lo<=w.heap.size):
  LabD lo (q3a m i (k*4) c) (x.1,x.2.1,x.2.2.1.set k f,x.2.2.2) v u/\Below lo w (q3a m i (k*4) c)/\∀ {g:Nat} {t:TypeId} {cs:Array Value},57≠t->Blk m g t cs->Blk (q3a m i (k*4) c) g t cs:=by
 obtain⟨A,bls,L,K,G,B,C⟩:=h;have D:=(B.next r).2.1;subst Q;obtain⟨R,S,e'⟩:=qq D;injection e' with e1 e2 e3
 subst e2;obtain⟨P,d⟩:=q3g c (k*4) D;have s:i∈obl (Value.slice (some ⟨i,0,none⟩) x.2.2.1.length o):=q1h.2 rfl;have M:=B.put q4i rfl r (k:=k) rfl N O y l;have p:=G.next r;have I:lo<=i:=(B.2.2.2 i (zba _ s)).1;refine⟨⟨A,bls,_,_,p.same d.size fun b a=>d.block b (p.2.2.2 b a).2 fun e=>?_,M,fun b a z=>?_⟩,?_,fun {g t cs} E H=>?_⟩
 .injection e with e
  subst e;exact C _ a (zba _ s)
 .rcases zat.1 z with z|z
  .exact C b a (zba _ z)
  .obtain⟨J,j,q⟩:=zbp.1 z
   rcases zd0 j with j|rfl
   .exact C b a (zay _ (zbp.2 ⟨J,j,q⟩))
   .have T:=(y.2 b q).1
    have U:=(G.2.2.2 b a).2;omega
 .exact(r.mono l).grown d (zbb l r.size) (fun b a=>by injection a with a;omega)
 .exact H.grown d fun e=>q1q D H E e.symm
theorem LabD.set5 {lo:Nat} {w:World} {x:LabM} {v u:Value} (h:LabD lo w x v u) {g:Nat} {i j k l m:Value} (f:Blk w g 27 #[i,j,k,l,m]) (a b c d e:Value):LabD lo (((((w.setCell ⟨g,0,none⟩ a).setCell ⟨g,1,none⟩ b).setCell ⟨g,2,none⟩ c).setCell ⟨g,3,none⟩ d).setCell ⟨g,4,none⟩ e) x v u:=
 ((((h.setB f a).setB (f.set_ 0 a) b).setB ((f.set_ 0 a).set_ 1 b) c).setB (((f.set_ 0 a).set_ 1 b).set_ 2 c) d).setB ((((f.set_ 0 a).set_ 1 b).set_ 2 c).set_ 3 d) e
theorem LabD.putF_keep {lo:Nat} {w l:World} {x:LabM} {v u:Value} (h:LabD lo w x v u) (b:Below w.heap.size w l) {k f n a:Nat} (t:u=.slice (some ⟨f,0,none⟩) n a) (c:List Value):∀j,j<w.heap.size->j∉obl u->(q3a l f (k*4) c).heap[j]?=w.heap[j]?:=fun j i r=>by
 obtain⟨o,bls,p,m,A,q,B⟩:=h;have g:=(q.next b).2.1;subst t;obtain⟨y,z,e'⟩:=qq g;injection e' with e1 e2 e3
 subst e2;obtain⟨s,d⟩:=q3g c (k*4) g;refine(d.block j (zek i b.size) fun e=>r (q1h.2 ?_)).trans (b.block j i);injection e with e
 rw[e];rfl
theorem q6m {w:World} {g:Nat} {e f i j:Value} (h:Blk w g 57 #[e,f,i,j]) (a b c d:Value):Blk ((((w.setCell ⟨g,0,none⟩ a).setCell ⟨g,1,none⟩ b).setCell ⟨g,2,none⟩ c).setCell ⟨g,3,none⟩ d) g 57 #[a,b,c,d]:=by
 simpa using(((h.set_ 0 a).set_ 1 b).set_ 2 c).set_ 3 d
theorem q3w {B g:Nat} {w w':World} (h:Below B w w') (e:B<=g) (a b c d:Value):Below B w ((((w'.setCell ⟨g,0,none⟩ a).setCell ⟨g,1,none⟩ b).setCell ⟨g,2,none⟩ c).setCell ⟨g,3,none⟩ d):=
 (((h.setCell (p:=⟨g,0,none⟩) e a).setCell (p:=⟨g,1,none⟩) e b).setCell (p:=⟨g,2,none⟩) e c).setCell (p:=⟨g,3,none⟩) e d
theorem qm0 (A B:Option Addr) (n c d:Nat) (p q:List Int) (w:World) (O:RdL RI w A n p) (R:RdL RI w B n q) (P:ParP n p) (Q:ParP n q) (H:0<n) (N:n<=1000):
  Calls Tryz.prog 147 #[.slice A n c,.slice B n d] w (OwI w (q67 p q)):=by
 have h:Hid ((q67 p q).length=n):=(q7u P Q).1;have E:Hid (q67 p q=q4g p q n):=qfe Q
 go_enter Tryz.func147,Tryz.ntmps147
 go_wp2_with fail;refine(q43 A n c p _ O (by omega)).mono ?_;rintro e V ⟨T,m,rfl,f,D⟩;obtain⟨g,rfl,J,K⟩:=q2b f H;go_wp2_with fail
 go_loopw [12] (fun i wr=>∃k:Nat,k<=n/\i=.int .i64 k/\wr.ownsRow w.heap.size 3 1 (.slice (some ⟨g,0,none⟩) n m) n (ints (q4g p q k))/\Below w.heap.size w wr) (fun i _=>n - (intOf i).toNat)
 case atStart=>exact⟨0,zah _,rfl,f,D⟩
 case round=>
  clear f D;obtain⟨k,L,rfl,f,l⟩:=hrel;have S:=l.size
  by_cases hlt:k<n
  .have M:(0:Int)<=(k:Int):=by omega
   have s:(k:Int)<(n:Int):=by omega
   have a:=Q.at hlt;obtain⟨y,C⟩:∃y,Hid (nmAt q k=y):=⟨_,zaa rfl⟩;rw[C.out]at a;obtain⟨b,o,u,v,rfl,U,⟨rfl,-,-⟩,-,x⟩:=(R.next qd l).at hlt;obtain rfl:v=(y:Int):=by rw[a.1]at x;injection x with e;exact e.symm
   have z:y<n:=by omega
   have G:=zaa (q6r P Q k L);clear x a;go_wp2_with fail;refine(qeu g n m w.heap.size (q4g p q k) k y _ f G.out hlt z N).mono ?_;rintro e W ⟨rfl,t,I⟩;have r:=l.grown I S (fun j e=>by injection e with e;omega);have F:Hid (q4g p q (k+1)=uniL (q4g p q k) k y):=by show uniL _ k (nmAt q k)=_;rw[C.out]
   go_wp2_with fail
   go_roundw
   case rel=>exact⟨k+1,by omega,by go_num,by rw[F.out];exact t,r⟩
   case measure=>simp[intOf];try omega
  .obtain rfl:k=n:=by omega
   have s:¬(k:Int)<(k:Int):=by omega
   go_wp2_with fail;go_ret;exact⟨some ⟨g,0,none⟩,m,by rw[h.out];rfl,by rw[h.out,E.out];exact f,l⟩
theorem qi7 (A B:Option Addr) (n c d:Nat) (p q:List Int) (w:World) (M:RdL RI w A n p) (N:RdL RI w B n q) (P:ParP n p) (Q:ParP n q) (U:0<n) (F:n<=1000):
  Calls Tryz.prog 114 #[.slice A n c,.slice B n d] w (OwI w (q67 p q)):=by
 have g:Hid ((q67 p q).length=n):=(q7u P Q).1;have H:Hid (q67 p q=q4g p q n):=qfe Q
 go_enter Tryz.func114,Tryz.ntmps114
 go_wp2_with fail;refine(q2h A n c p _ M (by omega)).mono ?_;rintro e W ⟨S,T,rfl,j,E⟩;go_wp2_with fail
 go_loopw [5,6] (fun s i wr=>∃(k:Nat) (f:Option Addr) (h:Nat),k<=n/\i=.int .i64 k/\s=.slice f n h/\wr.ownsRow w.heap.size 3 1 (.slice f n h) n (ints (q4g p q k))/\Below w.heap.size w wr) (fun _ i _=>n - (intOf i).toNat)
 case atStart=>exact⟨0,_,_,zah _,rfl,rfl,j,E⟩
 case round=>
  clear j E;obtain⟨k,f,h,K,rfl,rfl,j,l⟩:=hrel;have O:=l.size
  by_cases hlt:k<n
  .have L:(0:Int)<=(k:Int):=by omega
   have r:(k:Int)<(n:Int):=by omega
   have a:=Q.at hlt;obtain⟨y,D⟩:∃y,Hid (nmAt q k=y):=⟨_,zaa rfl⟩;rw[D.out]at a;obtain⟨b,o,u,v,rfl,V,⟨rfl,-,-⟩,-,x⟩:=(N.next qd l).at hlt;obtain rfl:v=(y:Int):=by rw[a.1]at x;injection x with e;exact e.symm
   have z:y<n:=by omega
   have C:=zaa (q6r P Q k K);have I:Hid (q4g p q (k+1)=uniL (q4g p q k) k y):=by show uniL _ k (nmAt q k)=_;rw[D.out]
   clear x a;go_wp2_with fail;refine(q9z f n h (q4g p q k) k y _ (q14 (R:=RI) j (q1o (qnj C.out F))) C.out hlt z F).mono ?_;rintro e X ⟨G,J,rfl,t,m⟩;go_wp2_with fail
   go_roundw
   case rel=>exact⟨k+1,G,J,by omega,by go_num,rfl,by rw[I.out];exact qh t O,q9 l m rfl⟩
   case measure=>simp[intOf];try omega
  .obtain rfl:k=n:=by omega
   have r:¬(k:Int)<(k:Int):=by omega
   go_wp2_with fail;go_ret;exact⟨f,h,by rw[g.out];rfl,by rw[g.out,H.out];exact j,l⟩
theorem qmd (A B:Option Addr) (n c d:Nat) (p q:List Int) (w:World) (hp:RdL RI w A n p) (hq:RdL RI w B n q) (P:ParP n p) (Q:ParP n q) (h0:0<n) (K:n<=1000):
  Calls Tryz.prog 148 #[.slice A n c,.slice B n d] w (OwI w (q48 p q)):=by
 have V:Hid (q48 p q=kerL (q5o n p q)):=qce P;have F:=zaa (qmn P Q K)
 go_enter Tryz.func148,Tryz.ntmps148
 go_wp2_with (at_make;refine q2w w rfl _ _ rfl n rfl rfl (by omega) ?_;intro w1 b v)
 have u:=(zab w.heap.size w).grown v (zad _) (by simp);rw[q56]at b;clear v
 go_loopw [12] (fun i wr=>∃(k:Nat) (L:List Int),k<=n/\i=.int .i64 k/\wr.ownsRow w.heap.size 3 1 (.slice (some ⟨w.heap.size,0,none⟩) n n) n (ints L)/\Hid (L.length=n)/\Hid (∀x,x<k->L[x]?=(q5o n p q)[x]?)/\Below w.heap.size w wr) (fun i _=>n - (intOf i).toNat)
 case atStart=>exact⟨0,_,zah _,rfl,b,zej ..,(fun x hx=>absurd hx (by omega)),u⟩
 case round=>
  clear b u;obtain⟨k,L,hk,rfl,a,g,s,f⟩:=hrel
  by_cases hlt:k<n
  .have ac:(0:Int)<=(k:Int):=by omega
   have I:(k:Int)<(n:Int):=by omega
   have j:=P.at hlt;have h:=Q.at hlt;have D:Hid ((q5o n p q)[k]?=some ((nmAt p k*n+nmAt q k:Nat):Int)):=qa9 hlt;obtain⟨x,W⟩:∃x,Hid (nmAt p k=x):=⟨_,zaa rfl⟩;obtain⟨y,X⟩:∃y,Hid (nmAt q k=y):=⟨_,zaa rfl⟩;rw[W.out]at j D;rw[X.out]at h D;obtain⟨b1,o1,u1,v1,rfl,Z,⟨rfl,-,-⟩,-,o⟩:=(hp.next qd f).at hlt;obtain⟨b2,o2,u2,v2,rfl,aa,⟨rfl,-,-⟩,-,r⟩:=(hq.next qd f).at hlt;obtain rfl:v1=(x:Int):=by rw[j.1]at o;injection o with e;exact e.symm
   obtain rfl:v2=(y:Int):=by rw[h.1]at r;injection r with e;exact e.symm
   have hm:x*n<=1000*1000:=zcj (by omega) K;have hyk:=h.2.1;obtain⟨m,M⟩:∃m,Hid (x*n=m):=⟨_,zaa rfl⟩;have J:(x:Int)*(n:Int)=(m:Int):=by rw[<-M.out];push_cast;rfl
   rw[M.out]at hm D;have hw1:IntKind.i64.wrap ((x:Int)*(n:Int))=(m:Int):=by rw[J];exact zcg _ (by omega)
   have hw2:IntKind.i64.wrap ((m:Int)+(y:Int))=((m+y:Nat):Int):=by push_cast;exact zcg _ (by omega)
   have ab:=a.frozenAt k;obtain⟨z0,O⟩:=q50 a g.out hlt;have l:=zaa (a.stored k (.int .i64 ((m+y:Nat):Int))).1;rw[q2a]at l;have G:Hid (∀z,z<k+1->(L.set k ((m+y:Nat):Int))[z]?=(q5o n p q)[z]?):=fun z S=>by
    by_cases e:z=k
    .subst e
     rw[zck,zao rfl,zao (by rw[g.out];exact hlt),D.out]
    .rw[zck,zaj (by omega)]
     exact s.out z (by omega)
   have E:Hid ((L.set k ((m+y:Nat):Int)).length=n):=by show _=_;rw[zcn];exact g.out
   have N:Below w.heap.size w (wr.setCell ⟨w.heap.size,k,none⟩ (.int .i64 ((m+y:Nat):Int))):=f.setCell (zad _) _;have t:=zaa N;clear o r j h a N;go_upto_region 5 with fail
   go_region
   all_goals
    go_wp2_with fail
    go_roundw
    case rel=>exact⟨k+1,_,by omega,by go_num,by first|exact l.out|exact ql l.out (zai (zab _ _)),E,G,by first|exact t.out|exact zai t.out⟩
    case measure=>simp[intOf];try omega
  .obtain rfl:k=n:=by omega
   have I:¬(k:Int)<(k:Int):=by omega
   have U:Hid (L=q5o k p q):=zcp fun i=>by
    by_cases hi:i<k
    .exact s.out i hi
    .rw[zbs (by rw[g.out];omega),zbs (by rw[qaa];omega)]
   rw[U.out]at a;have S:=f.size;go_wp2_with fail;refine(q8t _ k k (q5o k p q) _ (q14 (R:=RI) a (q1o F.out)) K).mono ?_;rintro e w2 ⟨T,Y,rfl,C,H⟩;rw[<-V.out]at C⊢;go_wp2_with fail;go_ret;exact⟨T,Y,rfl,qh C S,q9 f H rfl⟩
theorem qi8 (A B:Option Addr) (n c d:Nat) (p q:List Int) (w:World) (hp:RdL RI w A n p) (hq:RdL RI w B n q) (P:ParP n p) (Q:ParP n q) (h0:0<n) (hn:n<=1000):
  Calls Tryz.prog 113 #[.slice A n c,.slice B n d] w (OwI w (q48 p q)):=by
 have o:Hid ((q48 p q).length=n):=qe2 P;have Y:Hid (q48 p q=kerL (q5o n p q)):=qce P;have hT:=qm w (.cells #[] 3);have hO:=zby (base:=w.heap.size) (e:=3) (size:=1) w #[] 0 (zad _) (zah _) rfl;have N:=zaa P;have S:=zaa Q;clear P Q
 go_enter Tryz.func113,Tryz.ntmps113
 go_wp2_with fail
 go_loopw [5,6] (fun s i wr=>∃(k:Nat) (I:Option Addr) (J:Nat),k<=n/\i=.int .i64 k/\s=.slice I k J/\wr.ownsRow w.heap.size 3 1 (.slice I k J) k (ints ((q48 p q).take k))/\Below w.heap.size w wr) (fun _ i _=>n - (intOf i).toNat)
 case atStart=>exact⟨0,_,_,zah _,rfl,rfl,hO,hT⟩
 case round=>
  clear hO hT;obtain⟨k,I,J,hk,rfl,rfl,f,r⟩:=hrel
  by_cases hlt:k<n
  .have hk0:(0:Int)<=(k:Int):=by omega
   have ab:(k:Int)<(n:Int):=by omega
   have v:=N.out.at hlt;have D:=S.out.at hlt;obtain⟨x,HX⟩:∃x,Hid (nmAt p k=x):=⟨_,zaa rfl⟩;obtain⟨y,HY⟩:∃y,Hid (nmAt q k=y):=⟨_,zaa rfl⟩;have HG:Hid ((q5o n p q)[k]?=some ((x*n+y:Nat):Int)):=by show _=_;rw[<-HX.out,<-HY.out];exact qa9 hlt
   rw[HX.out]at v;rw[HY.out]at D;have Z:=zaa v;have R:=zaa D;clear v D;go_wp2_with fail
   go_loopw [7] (fun j wi=>∃z:Nat,z<=k/\j=.int .i64 (z:Int)/\Hid (∀i,i<z->(q5o n p q)[i]?≠some ((x*n+y:Nat):Int))/\wi.ownsRow w.heap.size 3 1 (.slice I k J) k (ints ((q48 p q).take k))/\Below w.heap.size w wi) (fun j _=>n - (intOf j).toNat)
   case atStart=>exact⟨0,zah _,rfl,(fun z hz=>absurd hz (by omega)),f,r⟩
   case round=>
    clear f r;obtain⟨z,hz,rfl,HB,f,g⟩:=hrel;have h:z<n:=by omega
    have C:=N.out.at h;have l:=S.out.at h;obtain⟨s,HS⟩:∃x,Hid (nmAt p z=x):=⟨_,zaa rfl⟩;obtain⟨t,HT⟩:∃x,Hid (nmAt q z=x):=⟨_,zaa rfl⟩;have m:Hid ((q5o n p q)[z]?=some ((s*n+t:Nat):Int)):=by show _=_;rw[<-HS.out,<-HT.out];exact qa9 h
    rw[HS.out]at C;rw[HT.out]at l;obtain⟨b1,o1,u1,v1,rfl,hc1,⟨rfl,-,-⟩,-,E⟩:=(hp.next qd g).at hlt;obtain⟨b2,o2,u2,v2,rfl,hc2,⟨rfl,-,-⟩,-,F⟩:=(hq.next qd g).at hlt;obtain⟨u3,v3,hc3,⟨rfl,-,-⟩,-,G⟩:=(hp.next qd g).at' h;obtain⟨u4,v4,hc4,⟨rfl,-,-⟩,-,H⟩:=(hq.next qd g).at' h;obtain rfl:v1=(x:Int):=by rw[Z.out.1]at E;injection E with e;exact e.symm
    obtain rfl:v2=(y:Int):=by rw[R.out.1]at F;injection F with e;exact e.symm
    obtain rfl:v3=(s:Int):=by rw[C.1]at G;injection G with e;exact e.symm
    obtain rfl:v4=(t:Int):=by rw[l.1]at H;injection H with e;exact e.symm
    have hz0:(0:Int)<=(z:Int):=by omega
    have hz1:(z:Int)<(n:Int):=by omega
    have ag:t<n:=by have:=l.2.1;omega
    have ah:y<n:=by have:=R.out.2.1;omega
    obtain⟨V,ac⟩:∃b,((s:Int) !=(x:Int))=b:=⟨_,rfl⟩;obtain⟨n2,ad⟩:∃b,((t:Int) !=(y:Int))=b:=⟨_,rfl⟩;have K:=zaa ac;have L:=zaa ad;have O:=zaa (qof (a:=s) (c:=x) ag ah);have af:=g.size;clear E F G H C l
    by_cases hsame:V=false/\n2=false
    .obtain⟨rfl,rfl⟩:=hsame
     have X:Hid (s*n+t=x*n+y):=O.out.2 ⟨by have:=K.out;simp at this;omega,by have:=L.out;simp at this;omega⟩;have aa:Hid ((q48 p q).take (k+1)=(q48 p q).take k++ [(z:Int)]):=by
      show _=_
      have:(q48 p q)[k]?=some (z:Int):=by
       rw[Y.out];unfold kerL;rw[za6,HG.out];show some ((posN _ _:Nat):Int)=_
       rw[q8h (y:=z) (by rw[m.out,X.out]) HB.out]
      rw[zbj,this];rfl
     go_wp2_with fail
     go_quiet (fail)
     go_wp2_with (at_builtin;refine app1 _ rfl _ _ 43 3 rfl (.int .i64 0) 8 zax q15 rfl (by decide) w.heap.size k J I (ints ((q48 p q).take k)) rfl (by first|exact f|exact ql f (qc (zab _ _) _)) (.int .i64 (z:Int)) rfl rfl (by omega) (by first|exact af|(simp;omega)) ?_;intro A2 c2 w2 u hg2 T)
     go_roundw
     case rel=>exact⟨k+1,A2,c2,by omega,by go_num,rfl,by rw[aa.out,q2y];exact u,by first|exact g.trans T|exact(qc g _).trans T⟩
     case measure=>simp[intOf];try omega
    .have M:Hid (¬s*n+t=x*n+y):=fun e=>by
      obtain⟨e1,U⟩:=O.out.1 e;exact hsame ⟨by rw[<-K.out,e1];simp,by rw[<-L.out,U];simp⟩
     have hzk:z≠k:=fun e=>by
      subst e;have:=m.out;rw[HG.out]at this;injection this with this
      exact M.out (by omega)
     have W:Hid (∀i,i<z+1->(q5o n p q)[i]?≠some ((x*n+y:Nat):Int)):=fun i hi=>by
      by_cases e:i=z
      .subst e
       rw[m.out];intro U;injection U with U
       exact M.out (by omega)
      .exact HB.out i (by omega)
     have ae:V=true\/(V=false/\n2=true):=by
      rcases V with _|_
      .rcases n2 with _|_
       .exact absurd ⟨rfl,rfl⟩ hsame
       .exact ze1 ⟨rfl,rfl⟩
      .exact Or.inl rfl
     clear hsame
     rcases ae with rfl|⟨rfl,rfl⟩
     all_goals
      go_wp2_with fail
      go_quiet (fail)
      go_wp2_with fail
      go_roundw
      case rel=>exact⟨z+1,by omega,by go_num,W,by first|exact f|exact ql f (qc (zab _ _) _),by first|exact g|exact qc g _⟩
      case measure=>simp[intOf];try omega
  .obtain rfl:k=n:=by omega
   have ab:¬(k:Int)<(k:Int):=by omega
   rw[zaq (by rw[o.out];exact zad _)]at f;go_wp2_with fail;go_ret;exact⟨I,J,by rw[o.out];rfl,by rw[o.out];exact f,r⟩
def MkT (Bd g:Nat) (o:Option LabM) (w:World) (e:Ending) (w':World):Prop:=Below Bd w w'/\((o=none/\e=.returned (.bool false))\/∃y v u,o=some y/\e=.returned (.bool true)/\Blk w' g 27 #[.bool y.1,.int .i64 y.2.1.1,v,u,.int .i64 y.2.2.2]/\LabPW Bd w' y v u/\InR y.2.1.1/\InR y.2.2.2)
noncomputable def twoL (x:qi) (j:Bool) (f h:q12):List Int:=
 if f.1=3 then(if j=false then q29 h.2.2 f.2.2 else genL x.1.toNat x.2 (f.2.2++h.2.2))else(if j=false then q48 f.2.2 h.2.2 else q67 f.2.2 h.2.2)
theorem ql6 {x:LabM} {c:Int} {a b:Nat} (h:a=b\/x.2.2.1.length<=a\/x.2.2.1.length<=b):twoF x c (a:Int) (b:Int)=none:=by
 unfold twoF;rw[za1,za1]
 rcases h with rfl|h|h
 .cases x.2.2.1[a]? with
  |none=>rfl
  |some f=>simp
 .rw[zbs h]
 .rw[zbs h]
  cases x.2.2.1[a]?<;>rfl
theorem ql5 {x:LabM} {j:Bool} {e:Int} {a b:Nat} {f h:q12} (c:(j=true->e=4)/\(j=false->e=3)) (i:a≠b) (g:x.2.2.1[a]?=some f) (k:x.2.2.1[b]?=some h):twoF x e (a:Int) (b:Int)=if f.1=h.1/\(f.1=3\/f.1=4)then some (f.1,([], []),twoL x.2.1 j f h)else none:=by
 have d:¬((a:Int)=(b:Int)):=by omega
 unfold twoF twoL;rw[za1,za1,g,k];show(if(a:Int)=(b:Int)\/f.1≠h.1 then none else if f.1=3 then some ((3:Int),(([]:List Int),([]:List Int)),if e=3 then q29 h.2.2 f.2.2 else genL x.2.1.1.toNat x.2.1.2 (f.2.2++h.2.2))else if f.1=4 then some (4,([], []),if e=3 then q48 f.2.2 h.2.2 else q67 f.2.2 h.2.2)else none)=_
 by_cases hk:f.1=h.1
 .rw[zaj (fun q=>q.elim d fun q=>q hk)]
  by_cases h3:f.1=3
  .rw[zao h3,zao (show f.1=h.1/\(f.1=3\/f.1=4)from⟨hk,.inl h3⟩),zao h3,h3]
   cases j with
   |false=>rw[c.2 rfl,zao rfl,zao rfl]
   |true=>rw[c.1 rfl,zaj (by decide),zaj (by decide)]
  .rw[zaj h3,zaj h3]
   by_cases h4:f.1=4
   .rw[zao h4,zao (show f.1=h.1/\(f.1=3\/f.1=4)from⟨hk,.inr h4⟩),h4]
    cases j with
    |false=>rw[c.2 rfl,zao rfl,zao rfl]
    |true=>rw[c.1 rfl,zaj (by decide),zaj (by decide)]
   .rw[zaj h4,zaj (fun q=>q.2.elim h3 h4)]
 .rw[zao (.inr hk),zaj (fun q=>hk q.1)]
theorem qj7 {lo:Nat} {w:World} {K:Int} {A:Option Addr} {c:Nat} {L:List Int} (e:lo<=w.heap.size) (h:w.ownsRow lo 3 1 (.slice A L.length c) L.length (ints L)) (b:InR K) (d:∀v∈L,InR v):
  qj.own w [.int .i64 K,.slice none 0 0,.slice none 0 0,.slice A L.length c] (K,([], []),L) (obl (.slice A L.length c))/\Iv lo w.heap.size (obl (.slice A L.length c)):=by
 refine⟨⟨[_], [_,_,_], [],_,rfl,rfl,⟨_,rfl,⟨rfl,b.1,b.2⟩,rfl⟩,⟨[_,_], [_], [],_,rfl,rfl,⟨[_], [_], [], [],rfl,rfl,⟨_,rfl,⟨rfl,.inl ⟨rfl,rfl⟩⟩,fun v a=>by simp at a,rfl⟩,⟨_,rfl,⟨rfl,.inl ⟨rfl,rfl⟩⟩,fun v a=>by simp at a,rfl⟩⟩,⟨_,rfl,qh h (zah _),d,rfl⟩⟩⟩,q76 h⟩
theorem q1y {w:World} {lo c n:Nat} {e t:TypeId} {v:Value} {xs:List Value} (h:w.ownsRow lo e c v n xs) {g:Nat} {cs:Array Value} (d:Blk w g t cs) (a:e≠t) (k:Nat) (u:Value):(w.setCell ⟨g,k,none⟩ u).ownsRow lo e c v n xs:=
 q2f h fun b f=>zal w ⟨g,k,none⟩ u b fun e=>q1q h d a (by rw[f,<-show b=g from e])
theorem qns {x:qi} {j:Bool} {f h:q12} (e:AlgP x) (d:q1l x f=true) (k:q1l x h=true) (n:f.1=h.1) (c:f.1=3\/f.1=4):∀v∈twoL x j f h,InR v:=fun v a=>by
 have m:=e.2.1;have l:=e.1;have b:∀ {v:Int},(0<=v/\v<=(x.1.toNat:Int) - 1)->InR v:=fun h=>⟨by omega,by omega⟩
 unfold twoL at a
 rcases c with g|i
 .rw[zao g]at a
  cases j with
  |false=>exact b ((q4s d).1 v (qjx a))
  |true=>exact b (q4h v a)
 .rw[zaj (by omega)]at a
  have P:=q4m d i;have Q:=q4m k (by omega);cases j with
  | false =>
    have : q48 f.2.2 h.2.2 = _ := qce (q := h.2.2) P;rw [zao rfl, this] at a;exact b (qjl (qaa _ _ _) v a)
  | true =>
    exact qnj (q7u P Q) (by omega) v a
theorem qlm (B:Nat) (x:LabM) (j:Bool) (kd:Int) (hkd:(j=true->kd=4)/\(j=false->kd=3)) (a b:Nat) (w:World) (g:Nat) (v u:Value) (hB:B<=w.heap.size) (hg:B<=g) (hBl:Blk w g 27 #[.bool x.1,.int .i64 x.2.1.1,v,u,.int .i64 x.2.2.2]) (hD:LabD B w x v u) (hx:AlgP x.2.1) (hln:x.2.2.1.length<=12) (hr:0<=x.2.2.2/\x.2.2.2<=9999) (htr:∀f∈x.2.2.1,q1l x.2.1 f=true):
  Calls Tryz.prog 84 #[.pointer (some ⟨g,0,none⟩),.bool j,.int .i64 (a:Int),.int .i64 (b:Int)] w (MkT B g ((twoF x kd (a:Int) (b:Int)).map (addF x)) w):=by
 have hD0:=hD;obtain⟨css,bls,dss,cls,hPO,hPG,hap⟩:=hD;obtain⟨A1,c1,rfl⟩:=qq hPO.2.1;obtain⟨A2,c2,rfl⟩:=qq hPG.2.1;have hin:InR x.2.1.1:=⟨by have:=hx.1;omega,by have:=hx.2.1;omega⟩;have hin2:InR x.2.2.2:=⟨by omega,by omega⟩;have HIN:=zaa (zap hin hin2);obtain⟨cG0,cG1,cG2,l,cG4⟩:=cl5 hBl;have HBL:=zaa hBl;have HD:=zaa hD0;have HAX:=zaa hx;have HTR:=zaa htr;have HPG:=zaa hPG;have HPO:=zaa hPO;have HAPP:=zaa hap;have hT0:=zab w.heap.size w
 by_cases hno:a=b\/x.2.2.1.length<=a\/x.2.2.1.length<=b
 .have HM:Hid ((twoF x kd (a:Int) (b:Int)).map (addF x)=none):=by show _=_;rw[ql6 hno];rfl
  clear hBl hD0 hx htr hPG hPO hap
  by_cases h1:a=b
  .subst h1
   clear hno
   go_enter Tryz.func84,Tryz.ntmps84
   go_wp2_with fail;go_ret;exact⟨zab _ _,.inl ⟨HM.out,rfl⟩⟩
  .by_cases h2:x.2.2.1.length<=a
   .clear hno
    go_enter Tryz.func84,Tryz.ntmps84
    go_wp2_with fail;go_ret;exact⟨zab _ _,.inl ⟨HM.out,rfl⟩⟩
   .have h3:x.2.2.1.length<=b:=by omega
    clear hno
    go_enter Tryz.func84,Tryz.ntmps84
    go_wp2_with fail;go_ret;exact⟨zab _ _,.inl ⟨HM.out,rfl⟩⟩
 .have hab:a≠b:=fun e=>hno (.inl e)
  have hal:a<x.2.2.1.length:=by omega
  have hbl:b<x.2.2.1.length:=by omega
  have h2:¬x.2.2.1.length<=a:=by omega
  have h3:¬x.2.2.1.length<=b:=by omega
  have ha0:(0:Int)<=(a:Int):=by omega
  have hb0:(0:Int)<=(b:Int):=by omega
  have ha1:(a:Int)<(x.2.2.1.length:Int):=by omega
  have hb1:(b:Int)<(x.2.2.1.length:Int):=by omega
  obtain⟨A',c',e',hrd⟩:=hPG.rd;injection e' with e1 e2 e3
  subst e1;obtain⟨bb,oo,vs,⟨G,⟨Lf,Rf⟩,Y⟩,hAe,-,hc,hrf,-,hfx⟩:=hrd.at hal;obtain⟨bb2,oo2,vs2,⟨kh,⟨Lh,Rh⟩,Vh⟩,hAe2,-,hc2,hrh,-,hhx⟩:=hrd.at hbl;rw[hAe]at hAe2;injection hAe2 with hAe2
  injection hAe2 with q1 q2
  subst q1;subst q2;subst hAe;obtain⟨fL,O,M,fR,T,N,fV,C,H,rfl,fk,pfL,pfR,pfV⟩:=q1u hrf;obtain⟨hL,W,U,hR,X,V,hV,D,J,rfl,hhk,phL,phR,phV⟩:=q1u hrh;have m:w.cell? ⟨bb,oo+a*4,none⟩=some (.int .i64 G):=hc 0 _ rfl;have n:w.cell? ⟨bb,oo+a*4+1,none⟩=some (.slice fL O M):=hc 1 _ rfl;have cf2:w.cell? ⟨bb,oo+a*4+2,none⟩=some (.slice fR T N):=hc 2 _ rfl;have cf3:w.cell? ⟨bb,oo+a*4+3,none⟩=some (.slice fV C H):=hc 3 _ rfl;have o:w.cell? ⟨bb,oo+b*4,none⟩=some (.int .i64 kh):=hc2 0 _ rfl;have r:w.cell? ⟨bb,oo+b*4+1,none⟩=some (.slice hL W U):=hc2 1 _ rfl;have s:w.cell? ⟨bb,oo+b*4+2,none⟩=some (.slice hR X V):=hc2 2 _ rfl;have z:w.cell? ⟨bb,oo+b*4+3,none⟩=some (.slice hV D J):=hc2 3 _ rfl;have HF1:Hid (q1l x.2.1 (G,(Lf,Rf),Y)=true/\q1l x.2.1 (kh,(Lh,Rh),Vh)=true):=⟨htr _ (zaf hfx),htr _ (zaf hhx)⟩;have HTW:Hid (twoF x kd (a:Int) (b:Int)=if G=kh/\(G=3\/G=4)then some (G,([], []),twoL x.2.1 j (G,(Lf,Rf),Y) (kh,(Lh,Rh),Vh))else none):=zaa (ql5 hkd hab hfx hhx);have pfV':RdL RI w fV C Y:=pfV;have phV':RdL RI w hV D Vh:=phV;have HQF:=zaa pfV';have HQH:=zaa phV';have HFK:Hid (InR G/\InR kh):=⟨fk,hhk⟩;have i:=zaa (zap l (zap m (zap n (zap cf2 (zap cf3 (zap o (zap r (zap s z))))))));have h:Below w.heap.size w w:=zab _ _;clear hBl hD0 hx htr hPG hPO hap hno hrd hc hc2 hrf hrh hfx hhx pfL pfR pfV phL phR phV fk hhk pfV' phV' e2 e3 hkd
  go_enter Tryz.func84,Tryz.ntmps84
  go_upto_region 3 with fail
  go_cut [9,10]from 9 to 46 (fun u9 u10 wx=>∃g9 g10,u9=.pointer (some ⟨g9,0,none⟩)/\u10=.pointer (some ⟨g10,0,none⟩)/\Blk wx g9 57 #[.int .i64 G,.slice fL O M,.slice fR T N,.slice fV C H]/\Blk wx g10 57 #[.int .i64 kh,.slice hL W U,.slice hR X V,.slice hV D J]/\w.heap.size<=g9/\w.heap.size<=g10/\g9≠g10/\Below w.heap.size w wx)
  case first=>
   refine zb1 (S:=fun w'=>w'.cell? ⟨g,3,none⟩=some (.slice (some ⟨bb,oo,none⟩) x.2.2.1.length c2)/\w'.cell? ⟨bb,oo+a*4,none⟩=some (.int .i64 G)/\w'.cell? ⟨bb,oo+a*4+1,none⟩=some (.slice fL O M)/\w'.cell? ⟨bb,oo+a*4+2,none⟩=some (.slice fR T N)/\w'.cell? ⟨bb,oo+a*4+3,none⟩=some (.slice fV C H)/\w'.cell? ⟨bb,oo+b*4,none⟩=some (.int .i64 kh)/\w'.cell? ⟨bb,oo+b*4+1,none⟩=some (.slice hL W U)/\w'.cell? ⟨bb,oo+b*4+2,none⟩=some (.slice hR X V)/\w'.cell? ⟨bb,oo+b*4+3,none⟩=some (.slice hV D J)) (by kernel_rfl) ⟨l,m,n,cf2,cf3,o,r,s,z⟩ (fun hHeld0=>?_);obtain⟨d,Hwt1⟩:∃x,Hid (x=World.drew w):=⟨_,rfl⟩;have hbwt1:Below w.heap.size w d:=by rw[Hwt1.out];exact(zab _ _).drew
   rw[<-Hwt1.out]at hHeld0⊢;have ywt1:=hbwt1.size;replace h:=q9 h hbwt1 rfl;have zkk:=kk9 hbwt1 l m n cf2 cf3 o r s z;clear l m n cf2 cf3 o r s z;obtain⟨l,m,n,cf2,cf3,o,r,s,z⟩:=zkk;refine tp 0 (.pointer (some ⟨g,0,none⟩)) rfl ?_;refine tp 1 (.pointer (some ⟨g,0,none⟩)) rfl ?_;refine tp 2 (.pointer (some ⟨g,3,none⟩)) rfl ?_;refine tk 3 (.slice (some ⟨bb,oo,none⟩) x.2.2.1.length c2) rfl (.inl ⟨by kernel_rfl,fun wv hSw=>by(obtain⟨hS0,hS1,hS2,hS3,hS4,hS5,hS6,hS7,hS8⟩:=hSw);go_simp⟩) ?_;refine tp 4 (.int .i64 (a:Int)) rfl ?_;refine tp 5 (.pointer (some ⟨bb,oo+a*4,none⟩)) rfl ?_;refine tk 6 (.agg #[.int .i64 G,.slice fL O M,.slice fR T N,.slice fV C H]) rfl (.inl ⟨by kernel_rfl,fun wv hSw=>by(obtain⟨hS0,hS1,hS2,hS3,hS4,hS5,hS6,hS7,hS8⟩:=hSw);go_simp⟩) ?_;refine tp 7 (.pointer (some ⟨g,0,none⟩)) rfl ?_;refine tp 8 (.pointer (some ⟨g,0,none⟩)) rfl ?_;refine tp 9 (.pointer (some ⟨g,3,none⟩)) rfl ?_;refine tk 10 (.slice (some ⟨bb,oo,none⟩) x.2.2.1.length c2) rfl (.inl ⟨by kernel_rfl,fun wv hSw=>by(obtain⟨hS0,hS1,hS2,hS3,hS4,hS5,hS6,hS7,hS8⟩:=hSw);go_simp⟩) ?_;refine tp 11 (.int .i64 (b:Int)) rfl ?_;refine tp 12 (.pointer (some ⟨bb,oo+b*4,none⟩)) rfl ?_;refine tk 13 (.agg #[.int .i64 kh,.slice hL W U,.slice hR X V,.slice hV D J]) rfl (.inl ⟨by kernel_rfl,fun wv hSw=>by(obtain⟨hS0,hS1,hS2,hS3,hS4,hS5,hS6,hS7,hS8⟩:=hSw);go_simp⟩) ?_
   (try simp only[Act.put,zA,zB,zC,zD,zE,zF])
   refine r2 14 15 rfl (fun K hK=>?_) rfl (fun K hK=>?_)
   .go_simp
    obtain⟨E,Hwt2,hbwt2,Bwt2,zwt2⟩:=al d #[.int .i64 0,.slice none 0 0,.slice none 0 0,.slice none 0 0] 57;rw[<-Hwt2.out];have ywt2:=hbwt2.size;replace h:=q9 h hbwt2 rfl;have zkk:=kk9 hbwt2 l m n cf2 cf3 o r s z;clear l m n cf2 cf3 o r s z;obtain⟨l,m,n,cf2,cf3,o,r,s,z⟩:=zkk;refine hK.out _ _ ⟨l,m,n,cf2,cf3,o,r,s,z⟩ (fun hHeld1=>?_);clear hK K hHeld0
    (try simp only[Act.put,zA,zB,zC,zD,zE,zF])
    refine r1 15 rfl (fun K hK=>?_);go_simp;obtain⟨wt3,Hwt3,hbwt3,Bwt3,zwt3⟩:=al E #[.int .i64 0,.slice none 0 0,.slice none 0 0,.slice none 0 0] 57;rw[<-Hwt3.out];have ywt3:=hbwt3.size;replace h:=q9 h hbwt3 rfl;replace Bwt2:=Bwt2.next hbwt3;have zkk:=kk9 hbwt3 l m n cf2 cf3 o r s z;clear l m n cf2 cf3 o r s z;obtain⟨l,m,n,cf2,cf3,o,r,s,z⟩:=zkk;refine hK.out _ _ ⟨l,m,n,cf2,cf3,o,r,s,z⟩ (fun hHeld2=>?_);clear hK K hHeld1
    (try simp only[Act.put,zA,zB,zC,zD,zE,zF])
    refine r1 16 rfl (fun K hK=>?_);obtain⟨gC14_0,gC14_1,gC14_2,gC14_3,gF14_0,gF14_1,gF14_2,gF14_3⟩:=cf4 Bwt2;go_simp;obtain⟨wt4,Hwt4⟩:∃wq,Hid (wq=((((wt3.setCell ⟨d.heap.size,0,none⟩ (.int .i64 G)).setCell ⟨d.heap.size,1,none⟩ (.slice fL O M)).setCell ⟨d.heap.size,2,none⟩ (.slice fR T N)).setCell ⟨d.heap.size,3,none⟩ (.slice fV C H))):=⟨_,zaa rfl⟩;rw[<-Hwt4.out];have BFa:Blk wt4 d.heap.size 57 #[.int .i64 G,.slice fL O M,.slice fR T N,.slice fV C H]:=by rw[Hwt4.out];simpa using((((Bwt2.set_ 0 (.int .i64 G)).set_ 1 (.slice fL O M)).set_ 2 (.slice fR T N)).set_ 3 (.slice fV C H))
    have B2Bwt3:Blk wt4 E.heap.size 57 #[.int .i64 0,.slice none 0 0,.slice none 0 0,.slice none 0 0]:=by rw[Hwt4.out];exact((((Bwt3.far (p:=⟨d.heap.size,0,none⟩) (by show _≠d.heap.size;omega) (.int .i64 G)).far (p:=⟨d.heap.size,1,none⟩) (by show _≠d.heap.size;omega) (.slice fL O M)).far (p:=⟨d.heap.size,2,none⟩) (by show _≠d.heap.size;omega) (.slice fR T N)).far (p:=⟨d.heap.size,3,none⟩) (by show _≠d.heap.size;omega) (.slice fV C H))
    have Twt4:Below w.heap.size w wt4:=by rw[Hwt4.out];exact((((h.setCell (p:=⟨d.heap.size,0,none⟩) (by show _<=d.heap.size;omega) (.int .i64 G)).setCell (p:=⟨d.heap.size,1,none⟩) (by show _<=d.heap.size;omega) (.slice fL O M)).setCell (p:=⟨d.heap.size,2,none⟩) (by show _<=d.heap.size;omega) (.slice fR T N)).setCell (p:=⟨d.heap.size,3,none⟩) (by show _<=d.heap.size;omega) (.slice fV C H))
    replace h:=Twt4;replace l:=qe h i.out.1;replace m:=qe h i.out.2.1;replace n:=qe h i.out.2.2.1;replace cf2:=qe h i.out.2.2.2.1;replace cf3:=qe h i.out.2.2.2.2.1;replace o:=qe h i.out.2.2.2.2.2.1;replace r:=qe h i.out.2.2.2.2.2.2.1;replace s:=qe h i.out.2.2.2.2.2.2.2.1;replace z:=qe h i.out.2.2.2.2.2.2.2.2;refine hK.out _ _ ⟨l,m,n,cf2,cf3,o,r,s,z⟩ (fun hHeld3=>?_);clear hK K hHeld2
    (try simp only[Act.put,zA,zB,zC,zD,zE,zF])
    refine r1 17 rfl (fun K hK=>?_);obtain⟨gC15_0,gC15_1,gC15_2,gC15_3,gF15_0,gF15_1,gF15_2,gF15_3⟩:=cf4 B2Bwt3;go_simp;obtain⟨wt5,Hwt5⟩:∃wq,Hid (wq=((((wt4.setCell ⟨E.heap.size,0,none⟩ (.int .i64 kh)).setCell ⟨E.heap.size,1,none⟩ (.slice hL W U)).setCell ⟨E.heap.size,2,none⟩ (.slice hR X V)).setCell ⟨E.heap.size,3,none⟩ (.slice hV D J))):=⟨_,zaa rfl⟩;rw[<-Hwt5.out];have BHb:Blk wt5 E.heap.size 57 #[.int .i64 kh,.slice hL W U,.slice hR X V,.slice hV D J]:=by rw[Hwt5.out];simpa using((((B2Bwt3.set_ 0 (.int .i64 kh)).set_ 1 (.slice hL W U)).set_ 2 (.slice hR X V)).set_ 3 (.slice hV D J))
    have B2BFa:Blk wt5 d.heap.size 57 #[.int .i64 G,.slice fL O M,.slice fR T N,.slice fV C H]:=by rw[Hwt5.out];exact((((BFa.far (p:=⟨E.heap.size,0,none⟩) (by show _≠E.heap.size;omega) (.int .i64 kh)).far (p:=⟨E.heap.size,1,none⟩) (by show _≠E.heap.size;omega) (.slice hL W U)).far (p:=⟨E.heap.size,2,none⟩) (by show _≠E.heap.size;omega) (.slice hR X V)).far (p:=⟨E.heap.size,3,none⟩) (by show _≠E.heap.size;omega) (.slice hV D J))
    have Twt5:Below w.heap.size w wt5:=by rw[Hwt5.out];exact((((h.setCell (p:=⟨E.heap.size,0,none⟩) (by show _<=E.heap.size;omega) (.int .i64 kh)).setCell (p:=⟨E.heap.size,1,none⟩) (by show _<=E.heap.size;omega) (.slice hL W U)).setCell (p:=⟨E.heap.size,2,none⟩) (by show _<=E.heap.size;omega) (.slice hR X V)).setCell (p:=⟨E.heap.size,3,none⟩) (by show _<=E.heap.size;omega) (.slice hV D J))
    replace h:=Twt5;replace l:=qe h i.out.1;replace m:=qe h i.out.2.1;replace n:=qe h i.out.2.2.1;replace cf2:=qe h i.out.2.2.2.1;replace cf3:=qe h i.out.2.2.2.2.1;replace o:=qe h i.out.2.2.2.2.2.1;replace r:=qe h i.out.2.2.2.2.2.2.1;replace s:=qe h i.out.2.2.2.2.2.2.2.1;replace z:=qe h i.out.2.2.2.2.2.2.2.2;refine hK.out _ _ ⟨l,m,n,cf2,cf3,o,r,s,z⟩ (fun hHeld4=>?_);clear hK K hHeld3
    (try simp only[Act.put,zA,zB,zC,zD,zE,zF])
    refine zbg (by kernel_rfl) ?_ _;go_wp2_with fail;go_meet;exact⟨_,_,rfl,rfl,B2BFa,BHb,by omega,by omega,by omega,h⟩
   .go_simp
    obtain⟨F,Hwt6,hbwt6,Bwt6,zwt6⟩:=al d #[.int .i64 0,.slice none 0 0,.slice none 0 0,.slice none 0 0] 57;rw[<-Hwt6.out];have ywt6:=hbwt6.size;replace h:=q9 h hbwt6 rfl;have zkk:=kk9 hbwt6 l m n cf2 cf3 o r s z;clear l m n cf2 cf3 o r s z;obtain⟨l,m,n,cf2,cf3,o,r,s,z⟩:=zkk;refine hK.out _ _ ⟨l,m,n,cf2,cf3,o,r,s,z⟩ (fun hHeld1=>?_);clear hK K hHeld0
    (try simp only[Act.put,zA,zB,zC,zD,zE,zF])
    refine r1 14 rfl (fun K hK=>?_);go_simp;obtain⟨wt7,Hwt7,hbwt7,Bwt7,zwt7⟩:=al F #[.int .i64 0,.slice none 0 0,.slice none 0 0,.slice none 0 0] 57;rw[<-Hwt7.out];have ywt7:=hbwt7.size;replace h:=q9 h hbwt7 rfl;replace Bwt6:=Bwt6.next hbwt7;have zkk:=kk9 hbwt7 l m n cf2 cf3 o r s z;clear l m n cf2 cf3 o r s z;obtain⟨l,m,n,cf2,cf3,o,r,s,z⟩:=zkk;refine hK.out _ _ ⟨l,m,n,cf2,cf3,o,r,s,z⟩ (fun hHeld2=>?_);clear hK K hHeld1
    (try simp only[Act.put,zA,zB,zC,zD,zE,zF])
    refine r1 16 rfl (fun K hK=>?_);obtain⟨gC14_0,gC14_1,gC14_2,gC14_3,gF14_0,gF14_1,gF14_2,gF14_3⟩:=cf4 Bwt7;go_simp;obtain⟨wt8,Hwt8⟩:∃wq,Hid (wq=((((wt7.setCell ⟨F.heap.size,0,none⟩ (.int .i64 G)).setCell ⟨F.heap.size,1,none⟩ (.slice fL O M)).setCell ⟨F.heap.size,2,none⟩ (.slice fR T N)).setCell ⟨F.heap.size,3,none⟩ (.slice fV C H))):=⟨_,zaa rfl⟩;rw[<-Hwt8.out];have BFa:Blk wt8 F.heap.size 57 #[.int .i64 G,.slice fL O M,.slice fR T N,.slice fV C H]:=by rw[Hwt8.out];simpa using((((Bwt7.set_ 0 (.int .i64 G)).set_ 1 (.slice fL O M)).set_ 2 (.slice fR T N)).set_ 3 (.slice fV C H))
    have B2Bwt6:Blk wt8 d.heap.size 57 #[.int .i64 0,.slice none 0 0,.slice none 0 0,.slice none 0 0]:=by rw[Hwt8.out];exact((((Bwt6.far (p:=⟨F.heap.size,0,none⟩) (by show _≠F.heap.size;omega) (.int .i64 G)).far (p:=⟨F.heap.size,1,none⟩) (by show _≠F.heap.size;omega) (.slice fL O M)).far (p:=⟨F.heap.size,2,none⟩) (by show _≠F.heap.size;omega) (.slice fR T N)).far (p:=⟨F.heap.size,3,none⟩) (by show _≠F.heap.size;omega) (.slice fV C H))
    have Twt8:Below w.heap.size w wt8:=by rw[Hwt8.out];exact((((h.setCell (p:=⟨F.heap.size,0,none⟩) (by show _<=F.heap.size;omega) (.int .i64 G)).setCell (p:=⟨F.heap.size,1,none⟩) (by show _<=F.heap.size;omega) (.slice fL O M)).setCell (p:=⟨F.heap.size,2,none⟩) (by show _<=F.heap.size;omega) (.slice fR T N)).setCell (p:=⟨F.heap.size,3,none⟩) (by show _<=F.heap.size;omega) (.slice fV C H))
    replace h:=Twt8;replace l:=qe h i.out.1;replace m:=qe h i.out.2.1;replace n:=qe h i.out.2.2.1;replace cf2:=qe h i.out.2.2.2.1;replace cf3:=qe h i.out.2.2.2.2.1;replace o:=qe h i.out.2.2.2.2.2.1;replace r:=qe h i.out.2.2.2.2.2.2.1;replace s:=qe h i.out.2.2.2.2.2.2.2.1;replace z:=qe h i.out.2.2.2.2.2.2.2.2;refine hK.out _ _ ⟨l,m,n,cf2,cf3,o,r,s,z⟩ (fun hHeld3=>?_);clear hK K hHeld2
    (try simp only[Act.put,zA,zB,zC,zD,zE,zF])
    refine r1 17 rfl (fun K hK=>?_);obtain⟨gC15_0,gC15_1,gC15_2,gC15_3,gF15_0,gF15_1,gF15_2,gF15_3⟩:=cf4 B2Bwt6;go_simp;obtain⟨wt9,Hwt9⟩:∃wq,Hid (wq=((((wt8.setCell ⟨d.heap.size,0,none⟩ (.int .i64 kh)).setCell ⟨d.heap.size,1,none⟩ (.slice hL W U)).setCell ⟨d.heap.size,2,none⟩ (.slice hR X V)).setCell ⟨d.heap.size,3,none⟩ (.slice hV D J))):=⟨_,zaa rfl⟩;rw[<-Hwt9.out];have BHb:Blk wt9 d.heap.size 57 #[.int .i64 kh,.slice hL W U,.slice hR X V,.slice hV D J]:=by rw[Hwt9.out];simpa using((((B2Bwt6.set_ 0 (.int .i64 kh)).set_ 1 (.slice hL W U)).set_ 2 (.slice hR X V)).set_ 3 (.slice hV D J))
    have B2BFa:Blk wt9 F.heap.size 57 #[.int .i64 G,.slice fL O M,.slice fR T N,.slice fV C H]:=by rw[Hwt9.out];exact((((BFa.far (p:=⟨d.heap.size,0,none⟩) (by show _≠d.heap.size;omega) (.int .i64 kh)).far (p:=⟨d.heap.size,1,none⟩) (by show _≠d.heap.size;omega) (.slice hL W U)).far (p:=⟨d.heap.size,2,none⟩) (by show _≠d.heap.size;omega) (.slice hR X V)).far (p:=⟨d.heap.size,3,none⟩) (by show _≠d.heap.size;omega) (.slice hV D J))
    have Twt9:Below w.heap.size w wt9:=by rw[Hwt9.out];exact((((h.setCell (p:=⟨d.heap.size,0,none⟩) (by show _<=d.heap.size;omega) (.int .i64 kh)).setCell (p:=⟨d.heap.size,1,none⟩) (by show _<=d.heap.size;omega) (.slice hL W U)).setCell (p:=⟨d.heap.size,2,none⟩) (by show _<=d.heap.size;omega) (.slice hR X V)).setCell (p:=⟨d.heap.size,3,none⟩) (by show _<=d.heap.size;omega) (.slice hV D J))
    replace h:=Twt9;replace l:=qe h i.out.1;replace m:=qe h i.out.2.1;replace n:=qe h i.out.2.2.1;replace cf2:=qe h i.out.2.2.2.1;replace cf3:=qe h i.out.2.2.2.2.1;replace o:=qe h i.out.2.2.2.2.2.1;replace r:=qe h i.out.2.2.2.2.2.2.1;replace s:=qe h i.out.2.2.2.2.2.2.2.1;replace z:=qe h i.out.2.2.2.2.2.2.2.2;refine hK.out _ _ ⟨l,m,n,cf2,cf3,o,r,s,z⟩ (fun hHeld4=>?_);clear hK K hHeld3
    (try simp only[Act.put,zA,zB,zC,zD,zE,zF])
    refine zbg (by kernel_rfl) ?_ _;go_wp2_with fail;go_meet;exact⟨_,_,rfl,rfl,B2BFa,BHb,by omega,by omega,by omega,h⟩
  case rest=>
   obtain⟨g9,g10,rfl,rfl,BFa,BHb,hg9,hg10,hgn,T1⟩:=hcut;obtain⟨w1,HWC⟩:∃wq:World,wq=wc:=⟨_,rfl⟩;subst HWC;have cF0:=BFa.cell 0;have cH0:=BHb.cell 0;simp at cF0 cH0;clear l m n cf2 cf3 o r s z h
   by_cases hkk:G=kh
   rotate_left
   .have HM:Hid ((twoF x kd (a:Int) (b:Int)).map (addF x)=none):=by show _=_;rw[HTW.out,zaj (fun hc=>hkk hc.1)];rfl
    have hq:(G !=kh)=true:=by simp[hkk]
    have T1':=T1.mono hB;go_wp2_with fail;go_ret;exact⟨T1',.inl ⟨HM.out,rfl⟩⟩
   .subst hkk
    obtain⟨w2,HW2⟩:∃wb,Hid (wb=w1.alloc (.cells #[.int .i64 G,.slice none 0 0,.slice none 0 0,.slice none 0 0] 57)):=⟨_,zaa rfl⟩;have hb2:Below w1.heap.size w1 w2:=by rw[HW2.out];exact qm _ _
    have BX2:Blk w2 w1.heap.size 57 #[.int .i64 G,.slice none 0 0,.slice none 0 0,.slice none 0 0]:=by rw[HW2.out];exact Blk.new _ _ _
    have T2:=q9 T1 hb2 rfl;have hz1:=T1.size;have hz2:w1.heap.size<w2.heap.size:=BX2.lt;have cF0':=(BFa.next hb2).cell 0;have cF3:=(BFa.next hb2).cell 3;have cH3:=(BHb.next hb2).cell 3;have cX3:=BX2.cell 3;have fX3:=BX2.frozen 3;have cX0:=BX2.cell 0;have BG2:=HBL.out.next T2;have cG1:=BG2.cell 1;have cG2:=BG2.cell 2;simp at cF0' cF3 cH3 cX3 cX0 cG1 cG2
    go_upto_block 0 with fail
    rw[<-HW2.out];clear cF0 cH0
    by_cases h34:G=3\/G=4
    rotate_left
    .have HM:Hid ((twoF x kd (a:Int) (b:Int)).map (addF x)=none):=by show _=_;rw[HTW.out,zaj (fun hc=>h34 hc.2)];rfl
     have q3:(G==3)=false:=by simp;exact fun e=>h34 (.inl e)
     have q4:(G==4)=false:=by simp;exact fun e=>h34 (.inr e)
     have T2':=T2.mono hB;clear h34;go_wp2_with fail;go_ret;exact⟨T2',.inl ⟨HM.out,rfl⟩⟩
    .obtain⟨L,HL⟩:∃L,Hid (twoL x.2.1 j (G,(Lf,Rf),Y) (G,(Lh,Rh),Vh)=L):=⟨_,zaa rfl⟩
     have HLB:Hid (∀v∈L,InR v):=by show ∀v∈L,_;rw[<-HL.out];exact qns HAX.out HF1.out.1 HF1.out.2 rfl h34
     have HM:Hid ((twoF x kd (a:Int) (b:Int)).map (addF x)=some (addF x (G,([], []),L))):=by show _=_;rw[HTW.out,zao ⟨rfl,h34⟩,HL.out];rfl
     have Z:=zaa T2
     go_cut []from 55 to 106 (fun wx=>∃A c,Blk wx w1.heap.size 57 #[.int .i64 G,.slice none 0 0,.slice none 0 0,.slice A L.length c]/\wx.ownsRow w.heap.size 3 1 (.slice A L.length c) L.length (ints L)/\Below w.heap.size w wx)
     case first=>
      have h:Below w2.heap.size w2 w2:=zab _ _;have hti:=q4s HF1.out.1;have hti2:=q4s HF1.out.2;have hx1:=HAX.out.1;have hx8:=HAX.out.2.1;have hnf:Y.length=C:=HQF.out.len;have hnh:Vh.length=D:=HQH.out.len;have hlf:Y.length<=1000:=q4l HAX.out HF1.out.1;have hlh:Vh.length<=1000:=q4l HAX.out HF1.out.2
      rcases h34 with rfl|rfl
      .cases j with
       | true =>
         have hLe : genL x.2.1.1.toNat x.2.1.2 (Y ++ Vh) = L := HL.out;subst hLe;have HLN := zaa (rfl : (genL x.2.1.1.toNat x.2.1.2 (Y ++ Vh)).length = (genL x.2.1.1.toNat x.2.1.2 (Y ++ Vh)).length);have HAL : Hid (∀ wz, Below w2.heap.size w2 wz -> qf.rd wz [.int .i64 x.2.1.1, .slice A1 x.2.1.2.length c1] x.2.1) := fun wz hz => qf.ord (((HPO.out.next Z.out).next hz).algO HIN.out.1)
         have HCL : Hid (∀ wz, Below w2.heap.size w2 wz -> Calls Tryz.prog 137 #[.slice fV C H] wz fun e w' => ∃ A' c', e = .returned (.slice A' C c') /\ w'.ownsRow wz.heap.size 3 1 (.slice A' C c') C (ints Y) /\ Below wz.heap.size wz w') := fun wz hz => q43 fV C H Y wz ((HQF.out.next qd Z.out).next qd hz) (by omega)
         have HVH : Hid (∀ wz, Below w2.heap.size w2 wz -> RdL RI wz hV D Vh) := fun wz hz => (HQH.out.next qd Z.out).next qd hz
         have HBB : Hid (∀ v ∈ Y ++ Vh, 0 <= v /\ v <= x.2.1.1 - 1) := fun v hv => by
           rcases zat.1 hv with hv | hv
           . have := hti.1 v hv; omega
           . have := hti2.1 v hv; omega
         have HBD : Hid (∀ v ∈ Y ++ Vh, -9223372036854775808 <= v /\ v <= 9223372036854775807) := fun v hv => by
           have h1 := HBB.out v hv;omega
         have BXh := zaa BX2;clear hti hti2;go_upto_region 9 with fail
         first | (go_region_law (first
           | (refine q1b (R := RI) _ rfl (.tmp 68) (.tmp 70) 43 3 rfl (.int .i64 0) 8 zax q15 rfl (by decide) w2.heap.size C c5 A5 (ints Y) (by rfl) (by exact ho5) hV D J Vh (fun y => .int .i64 y) (fun _ => rfl) (by rfl) (HVH.out _ h) (fun _ _ _ hr => hr.1) (by omega) (by exact h.size) ?_; intro A6 c6 w6 hown6 hg6 hb6; have T6 : Below w2.heap.size w2 w6 := h.trans hb6; have hown7 : w6.ownsRow w2.heap.size 3 1 (.slice A6 (C + D) c6) (C + D) (ints (Y ++ Vh)) := (by simpa [ints] using hown6); have q1 := qe T6 cG1; have q2 := qe T6 cG2)
           | (go_simp; go_at_call 137; (with_reducible refine (HCL.out _ ?_).mono ?_); (first | exact h | exact zai h); rintro e w5 ⟨A5, c5, rfl, ho5, hb5⟩; replace h := q9 (by first | exact h | exact zai h) hb5 rfl; have x1 := qe h cG1; have x2 := qe h cG2; have x3 := qe h cH3)
           | (go_simp; go_at_call 132; refine (q66 _ x.2.1 A6 (C + D) c6 (Y ++ Vh) _ (HAL.out _ T6) HAX.out (q14 (R := RI) hown7 (q1o HBD.out)) HBB.out).mono ?_; rintro e w7 ⟨A7, c7, rfl, ho7, hb7⟩; have T7 := q9 T6 hb7 rfl; have I := BXh.out.next T7; have r3 := I.cell 3; have s3 := I.frozen 3; simp at r3))) | fail
         all_goals
           go_wp2_with fail;go_meet;have BX8 := I.set_ 3 (.slice A7 (genL x.2.1.1.toNat x.2.1.2 (Y ++ Vh)).length c7);simp at BX8;exact ⟨A7, c7, BX8, q1y (qh ho7 (by have := T6.size; omega)) I (by decide) _ _, (q9 Z.out T7 rfl).setCell (p := ⟨w1.heap.size, 3, none⟩) (by exact hz1) _⟩
       | false =>
         have hLe : q29 Vh Y = L := HL.out;subst hLe;clear hti hti2;go_wp2_with fail;refine (qcd fV hV C D H J Y Vh w2 (HQF.out.next qd Z.out) (HQH.out.next qd Z.out) (by omega)).mono ?_;rintro e w7 ⟨A7, n7, c7, rfl, ho7, hb7⟩;have hn7 : (q29 Vh Y).length = n7 := by have := ho7.1; simpa [ints] using this
         subst hn7;have T7 := q9 Z.out hb7 rfl;have I := BX2.next hb7;have r3 := I.cell 3;have s3 := I.frozen 3;simp at r3;go_wp2_with fail;go_meet;have BX8 := I.set_ 3 (.slice A7 (q29 Vh Y).length c7);simp at BX8;exact ⟨A7, c7, BX8, q1y (qh ho7 (by have := T2.size; omega)) I (by decide) _ _, T7.setCell (p := ⟨w1.heap.size, 3, none⟩) (by exact hz1) _⟩
      .have P:ParP x.2.1.1.toNat Y:=q4m HF1.out.1 rfl
       have Q:ParP x.2.1.1.toNat Vh:=q4m HF1.out.2 rfl;have hf2:=P.1;have hh2:=Q.1;have hnn:D=C:=by omega
       subst hnn;have hnx:x.2.1.1.toNat=D:=by omega
       rw[hnx]at P Q;cases j with
       | true =>
         have hLe : q67 Y Vh = L := HL.out;subst hLe;clear hti hti2;go_wp2_with fail;refine (qm0 fV hV D H J Y Vh w2 (HQF.out.next qd Z.out) (HQH.out.next qd Z.out) P Q (by omega) (by omega)).mono ?_;rintro e w7 ⟨A7, c7, rfl, ho7, hb7⟩;have T7 := q9 Z.out hb7 rfl;have I := BX2.next hb7;have r3 := I.cell 3;have s3 := I.frozen 3;simp at r3;go_wp2_with fail;go_meet;have BX8 := I.set_ 3 (.slice A7 (q67 Y Vh).length c7);simp at BX8;exact ⟨A7, c7, BX8, q1y (qh ho7 (by have := T2.size; omega)) I (by decide) _ _, T7.setCell (p := ⟨w1.heap.size, 3, none⟩) (by exact hz1) _⟩
       | false =>
         have hLe : q48 Y Vh = L := HL.out;subst hLe;clear hti hti2;go_wp2_with fail;refine (qmd fV hV D H J Y Vh w2 (HQF.out.next qd Z.out) (HQH.out.next qd Z.out) P Q (by omega) (by omega)).mono ?_;rintro e w7 ⟨A7, c7, rfl, ho7, hb7⟩;have T7 := q9 Z.out hb7 rfl;have I := BX2.next hb7;have r3 := I.cell 3;have s3 := I.frozen 3;simp at r3;go_wp2_with fail;go_meet;have BX8 := I.set_ 3 (.slice A7 (q48 Y Vh).length c7);simp at BX8;exact ⟨A7, c7, BX8, q1y (qh ho7 (by have := T2.size; omega)) I (by decide) _ _, T7.setCell (p := ⟨w1.heap.size, 3, none⟩) (by exact hz1) _⟩
     case rest=>
      obtain⟨A7,c7,BX3,ho3,T3⟩:=hcut;obtain⟨w3,HWC⟩:∃wq:World,wq=wc:=⟨_,rfl⟩;subst HWC;have hz3:=T3.size;obtain⟨HO3,HI3⟩:=qj7 (K:=G) hz3 ho3 HFK.out.1 HLB.out;have HR3:=zaa (qj.ord HO3);have BG3:=HBL.out.next T3;obtain⟨p,HP⟩:∃p,Hid (posF x.2.2.1 (G,([], []),L)=p):=⟨_,zaa rfl⟩;have HX:Hid (∀wz,Below w3.heap.size w3 wz->Calls Tryz.prog 76 #[.slice (some ⟨bb,oo,none⟩) x.2.2.1.length c2,.agg #[.int .i64 G,.slice none 0 0,.slice none 0 0,.slice A7 L.length c7]] wz (Bl wz (.int .i64 p))):=fun wz hz=>by
       obtain⟨A',c',e,hrd⟩:=(HPG.out.next (q9 T3 hz rfl)).rd;injection e with e1 e2 e3
       have:=q5e (some ⟨bb,oo,none⟩) x.2.2.1.length c2 _ x.2.2.1 _ wz (by rw[e1];exact hrd) (q13 HR3.out hz)
       rwa [HP.out]at this
      have l:=BG3.cell 3;have cX0:=BX3.cell 0;have cX1:=BX3.cell 1;have cX2:=BX3.cell 2;have cX3:=BX3.cell 3;simp at l cX0 cX1 cX2 cX3;have h:Below w3.heap.size w3 w3:=zab _ _;have HO3:=zaa HO3;have HI3:=zaa HI3;have HT3:=zaa T3;clear ho3 T3 T1 T2 BX2 BG2 cF0' cF3 cH3 fX3 cG1 cG2 BFa BHb;go_upto_region 16 with fail
      go_cut [113] (fun t wx=>t=.bool (decide (p<0))/\Below w3.heap.size w3 wx)
      case first=>
       first|(go_region_law (first
        |(go_simp;go_at_call 76;(with_reducible refine(HX.out _ ?_).mono ?_);(first|exact h|exact zai h);rintro e1 wn ⟨rfl,hbn⟩;replace h:=q9 (by first|exact h|exact zai h) hbn rfl)))|fail
       all_goals
        go_wp2_with fail;go_meet;exact⟨rfl,by first|exact h|exact zai h⟩
      case rest=>
       obtain⟨rfl,hb4⟩:=hcut;obtain⟨w4,HWC⟩:∃wq:World,wq=wc:=⟨_,rfl⟩;subst HWC;have BG4:=BG3.next hb4;have zkk:=kk5 hb4 l cX0 cX1 cX2 cX3;clear l cX0 cX1 cX2 cX3;obtain⟨l,cX0,cX1,cX2,cX3⟩:=zkk;have fG3:=BG4.frozen 3;have T4:=q9 HT3.out hb4 rfl
       by_cases hp:p<0
       .have hd:decide (p<0)=true:=zbm hp
        have HM2:Hid ((twoF x kd (a:Int) (b:Int)).map (addF x)=some (x.1,x.2.1,x.2.2.1++ [(G,([], []),L)],x.2.2.2)):=by show _=_;rw[HM.out];unfold addF;rw[HP.out,zao hp]
        have T4d:Below w.heap.size w w4.drew:=zai T4;have HO4:qj.own w4.drew [.int .i64 G,.slice none 0 0,.slice none 0 0,.slice A7 L.length c7] (G,([], []),L) (obl (.slice A7 L.length c7)):=Sh.onext HO3.out (zai hb4);have HI4:Iv w.heap.size w4.drew.heap.size (obl (.slice A7 L.length c7)):=HI3.out.mono (zad _) hb4.size;obtain⟨hvs,HPU⟩:=HPG.out.push q4i rfl T4d hB HO4 HI4;have BG6:Blk w4.drew g 27 _:=BG4.next (zai (zab _ _));have hz4:=T4.size;have HD4:LabD B w4.drew x _ _:=HD.out.next T4d;have HPO4:=HPO.out.next T4d;have cO6a:=(BG4.alloc (.cells #[.int .i64 G,.slice none 0 0,.slice none 0 0,.slice A7 L.length c7] 57)).cell 3;simp at cO6a;go_upto_region 17 with fail
        first|(go_region_law (first
         |(refine q83 (World.drew w4) rfl (.tmp 118) (.tmp 120) 25 57 rfl (.agg #[.int .i64 0,.slice none 0 0,.slice none 0 0,.slice none 0 0]) 4 80 zbz q17 rfl (by decide) (by decide) B x.2.2.1.length c2 (some ⟨bb,oo,none⟩) dss.flatten (by rfl) hvs [.int .i64 G,.slice none 0 0,.slice none 0 0,.slice A7 L.length c7] rfl (by intro q hq;simp at hq;rcases hq with rfl|rfl|rfl|rfl<;>rfl) (by rfl) (by omega) (by show B<=w4.heap.size;omega) ?_;intro A8 c8 w8 hown8 hg8 hb8;have BG8:=BG6.grown hg8 (fun e=>q1q hvs BG6 (by decide) e.symm);have cO8:=BG8.cell 3;have fO8:=BG8.frozen 3;simp at cO8)))|fail
        all_goals
         have PN:=PGf.setB (k:=3) (HPU hown8 hg8) BG8 (by decide) (by decide) (.slice A8 (x.2.2.1.length+1) c8);have T8:Below B w (w8.setCell ⟨g,3,none⟩ (.slice A8 (x.2.2.1.length+1) c8)):=((T4d.mono hB).trans hb8).setCell (p:=⟨g,3,none⟩) (by exact hg) _;have BG9:Blk (w8.setCell ⟨g,3,none⟩ (.slice A8 (x.2.2.1.length+1) c8)) g 27 #[.bool x.1,.int .i64 x.2.1.1,.slice A1 x.2.1.2.length c1,.slice A8 (x.2.2.1.length+1) c8,.int .i64 x.2.2.2]:=by simpa using BG8.set_ 3 (.slice A8 (x.2.2.1.length+1) c8)
         have hPO8:PO B w8 (.slice A1 x.2.1.2.length c1) x.2.1.2 css bls:=HPO4.same hg8.size fun b hb'=>hg8.block b (HPO4.2.2.2 b hb').2 fun e=>HAPP.out b hb' (zba _ (q1h.2 e.symm))
         have hPO9:=PO.setB (k:=3) hPO8 BG8 (by decide) (by decide) (.slice A8 (x.2.2.1.length+1) c8);have APN:∀b∈obl (.slice A1 x.2.1.2.length c1)++bls.flatten,b∉obl (.slice A8 (x.2.2.1.length+1) c8)++(cls++ [obl (.slice A7 L.length c7)]).flatten:=fun b hb' hm=>by
          rcases zat.1 hm with hm|hm
          .exact q5p hPO8 hown8 b hb' hm
          .rw[zbv,zat]at hm
           rcases hm with hm|hm
           .exact HAPP.out b hb' (zay _ hm)
           .have h1:=(HI4.2 b (by simpa using hm)).1
            have h2:=(HPO.out.2.2.2 b hb').2;omega
         have HLD:Hid (LabD B (w8.setCell ⟨g,3,none⟩ (.slice A8 (x.2.2.1.length+1) c8)) (x.1,x.2.1,x.2.2.1++ [(G,([], []),L)],x.2.2.2) (.slice A1 x.2.1.2.length c1) (.slice A8 (x.2.2.1.length+1) c8)):=⟨css,bls,_,_,hPO9,PN,APN⟩;have HFIN:=zaa (zap T8 BG9);clear T8 BG9 PN hPO9 hPO8 APN hown8 hb8 hvs HPU;go_wp2_with fail;go_ret;exact⟨HFIN.out.1,.inr ⟨(x.1,x.2.1,x.2.2.1++ [(G,([], []),L)],x.2.2.2),_,_,HM2.out,rfl,HFIN.out.2,HLD.out.w,HIN.out.1,HIN.out.2⟩⟩
       .have hd:decide (p<0)=false:=zbn hp
        have HM2:Hid ((twoF x kd (a:Int) (b:Int)).map (addF x)=some x):=by show _=_;rw[HM.out];unfold addF;rw[HP.out,zaj hp]
        have HFIN:=zaa (zap (T4.mono hB) (zap BG4 ((HD.out.next T4).w)));clear T4 BG4;go_wp2_with fail;go_ret;exact⟨HFIN.out.1,.inr ⟨x,_,_,HM2.out,rfl,HFIN.out.2.1,HFIN.out.2.2,HIN.out.1,HIN.out.2⟩⟩
theorem qbd (b:List Int) (x:Int):∀l:List Int,q29 b (l++ [x])=q29 b l++(if hasI x b=true then[x]else[])
 | [] => by
   show q29 b [x] = _
   unfold q29
   split <;> rename_i h
   . rfl
   . rfl
 | a :: l => by
   show q29 b (a :: (l ++ [x])) = _
   rw [q29, q29, qbd b x l]
   split <;> rfl
theorem qe3 (cs:List Value) (x:qi) (A U:Option Addr) (n c m d:Nat) (S T:List Int) (w:World) (h:qf.rd w cs x) (hx:AlgP x) (hS:RdL RI w A n S) (hT:RdL RI w U m T) (sS:subB x.1.toNat x.2 S=true) (sT:subB x.1.toNat x.2 T=true) (hn:n<=1000):
  Calls Tryz.prog 111 #[.agg cs.toArray,.slice A n c,.slice U m d] w (fun e w'=>∃A1 c1,e=.returned (.tuple #[.slice A1 (q29 T S).length c1,.bool true])/\w'.ownsRow w.heap.size 3 1 (.slice A1 (q29 T S).length c1) (q29 T S).length (ints (q29 T S))/\Below w.heap.size w w'):=by
 have O:=h;obtain⟨B,k,e,rfl,-,-⟩:=qv h;obtain⟨H,Q,T0,P,BP⟩:=q16 w #[.int .i64 x.1,.slice B k e] 24;have aa:=zaa Q;obtain⟨V,E⟩:∃wb,Hid (wb=H.alloc (.cells #[] 3)):=⟨_,zaa rfl⟩;have F:Below H.heap.size H V:=by rw[E.out];exact qm _ _
 have T1:=q9 T0 F rfl;have hz0:=T0.size;have hO:V.ownsRow w.heap.size 3 1 (.slice (some ⟨H.heap.size,0,none⟩) 0 0) 0 []:=by rw[E.out];exact qh (zby (base:=H.heap.size) (e:=3) (size:=1) H #[] 0 (zad _) (zah _) rfl) hz0
 have t:=(BP.next F).cell 0;have y:=(BP.next F).cell 1;simp at t y;have W:Hid (∀wz,Below V.heap.size V wz->qf.rd wz [.int .i64 x.1,.slice B k e] x):=fun wz hz=>q13 (q13 O T1) hz
 have X:Hid (algB x=true):=q40.2 hx;have M:=zaa hx;have J:=zaa hS;have K:=zaa hT;have ab:=zaa sS;have ac:=zaa sT;have D:=zaa T1;clear Q P h O sS sT
 go_enter Tryz.func111,Tryz.ntmps111
 go_upto_region 1 with fail;rw[<-aa.out];go_upto_region 2 with fail;rw[<-E.out];go_wp2_with fail;refine(q4x _ x _ (W.out _ (zab _ _))).mono ?_;rintro e w2 ⟨rfl,p⟩;rw[X.out];have k0:=qe p t;have k1:=qe p y;go_wp2_with fail;refine(q7v _ x A n c S _ (W.out _ p) M.out (J.out.next qd (q9 D.out p rfl))).mono ?_;rintro e w3 ⟨rfl,ad⟩;rw[ab.out];have a:=q9 p ad rfl;have j0:=qe a t;have j1:=qe a y;go_wp2_with fail;refine(q7v _ x U m d T _ (W.out _ a) M.out (K.out.next qd (q9 D.out a rfl))).mono ?_;rintro e w4 ⟨rfl,ae⟩;rw[ac.out];have z:=q9 a ae rfl;have T4:=q9 D.out z rfl;have N:=ql hO z;clear hO k0 k1 j0 j1 t y;have HL:=zaa hS.len;go_wp2_with fail
 go_loopw [8,9] (fun s i wr=>∃(j:Nat) (A1:Option Addr) (c1:Nat),j<=n/\i=.int .i64 j/\s=.slice A1 (q29 T (S.take j)).length c1/\wr.ownsRow w.heap.size 3 1 (.slice A1 (q29 T (S.take j)).length c1) (q29 T (S.take j)).length (ints (q29 T (S.take j)))/\Below w.heap.size w wr) (fun _ i _=>n - (intOf i).toNat)
 case atStart=>exact⟨0,_,_,zah _,rfl,rfl,N,T4⟩
 case round=>
  clear N T4 hS hT;obtain⟨j,A1,c1,hj,rfl,rfl,f,g⟩:=hrel;have hz:=g.size
  by_cases hlt:j<n
  .have hj0:(0:Int)<=(j:Int):=by omega
   have ag:(j:Int)<(n:Int):=by omega
   obtain⟨b,o,u,v,rfl,hc,⟨rfl,-,-⟩,-,R⟩:=(J.out.next qd g).at hlt;have Z:Hid (S.take (j+1)=S.take j++ [v]):=q3i R;have HQ:=zaa (qjm U m d T v wr (K.out.next qd g));obtain⟨qb,I⟩:∃q,Hid (hasI v T=q):=⟨_,zaa rfl⟩;have C:Hid (q29 T (S.take (j+1))=q29 T (S.take j)++(if qb=true then[v]else[])):=by show _=_;rw[Z.out,qbd,I.out]
   rw[I.out]at HQ;obtain⟨L,r⟩:∃L,Hid (q29 T (S.take j)=L):=⟨_,zaa rfl⟩;have Y:Hid (L.length<=n):=by show _<=_;rw[<-r.out];exact zbb (qe1 T (S.take j)) (by rw[za8];omega)
   rw[r.out]at f C;have hll:=Y.out;clear R;go_wp2_with fail;refine HQ.out.mono ?_;rintro e w5 ⟨rfl,rfl⟩
   rcases qb with _|_
   .have l:Hid (q29 T (S.take (j+1))=L):=by show _=_;rw[C.out];simp
    go_wp2_with fail
    go_roundw
    case rel=>exact⟨j+1,A1,c1,by omega,by go_num,by rw[l.out,<-r.out],by rw[l.out];exact f,g⟩
    case measure=>simp[intOf];try omega
   .have l:Hid (q29 T (S.take (j+1))=L++ [v]):=by show _=_;rw[C.out];simp
    go_wp2_with (at_builtin;refine app1 _ rfl _ _ 43 3 rfl (.int .i64 0) 8 zax q15 rfl (by decide) w.heap.size L.length c1 A1 (ints L) (by first|rfl|(rw[r.out];rfl)) f (.int .i64 v) rfl rfl (by omega) hz ?_;intro A3 c3 w6 G hg3 af)
    go_roundw
    case rel=>exact⟨j+1,A3,c3,by omega,by go_num,by rw[l.out];simp,by rw[l.out,q2y];simpa[ints]using G,g.trans af⟩
    case measure=>simp[intOf];try omega
  .obtain rfl:j=n:=by omega
   have ag:¬(j:Int)<(j:Int):=by omega
   have HE:Hid (S.take j=S):=zaq (by rw[HL.out];exact zad _);rw[HE.out]at f;go_wp2_with fail
   go_ret2
   exact⟨A1,c1,by first|rfl|(rw[HE.out];rfl),f,g⟩
theorem qdm (cs:List Value) (x:qi) (A u:Option Addr) (n c m d:Nat) (S T:List Int) (w:World) (h:qf.rd w cs x) (hx:AlgP x) (hS:RdL RI w A n S) (hT:RdL RI w u m T) (sS:subB x.1.toNat x.2 S=true) (sT:subB x.1.toNat x.2 T=true) (hn:n<=1000) (hm:m<=1000) (bS:∀v∈S,0<=v/\v<=x.1 - 1) (bT:∀v∈T,0<=v/\v<=x.1 - 1):
  Calls Tryz.prog 112 #[.agg cs.toArray,.slice A n c,.slice u m d] w (fun e w'=>∃A1 c1,e=.returned (.tuple #[.slice A1 (genL x.1.toNat x.2 (S++T)).length c1,.bool true])/\w'.ownsRow w.heap.size 3 1 (.slice A1 (genL x.1.toNat x.2 (S++T)).length c1) (genL x.1.toNat x.2 (S++T)).length (ints (genL x.1.toNat x.2 (S++T)))/\Below w.heap.size w w'):=by
 have I:=h;obtain⟨B,k,e,rfl,-,-⟩:=qv h;obtain⟨w0,K,T0,J,BP⟩:=q16 w #[.int .i64 x.1,.slice B k e] 24;have V:=zaa K;obtain⟨L,W⟩:∃wb,wb=w0:=⟨_,rfl⟩;subst W;have H:Below L.heap.size L L:=zab _ _;have T1:=T0;have hz0:=T0.size;have i:=(BP.next H).cell 0;have j:=(BP.next H).cell 1;simp at i j;have M:Hid (∀a,Below L.heap.size L a->qf.rd a [.int .i64 x.1,.slice B k e] x):=fun a t=>q13 (q13 I T1) t
 have O:Hid (algB x=true):=q40.2 hx;have p:=zaa hx;have C:=zaa hS;have E:=zaa hT;have X:=zaa sS;have Y:=zaa sT;have q:=zaa T1;clear K J h I sS sT
 go_enter Tryz.func112,Tryz.ntmps112
 go_upto_region 1 with fail;rw[<-V.out];go_wp2_with fail;refine(q4x _ x _ (M.out _ (zab _ _))).mono ?_;rintro e w2 ⟨rfl,l⟩;rw[O.out];have k0:=qe l i;have k1:=qe l j;go_wp2_with fail;refine(q7v _ x A n c S _ (M.out _ l) p.out (C.out.next qd (q9 q.out l rfl))).mono ?_;rintro e w3 ⟨rfl,Z⟩;rw[X.out];have b:=q9 l Z rfl;have j0:=qe b i;have j1:=qe b j;go_wp2_with fail;refine(q7v _ x u m d T _ (M.out _ b) p.out (E.out.next qd (q9 q.out b rfl))).mono ?_;rintro e g ⟨rfl,aa⟩;rw[Y.out];have f:=q9 b aa rfl;have F:=q9 q.out f rfl;have k4:=qe f i;have k5:=qe f j;have Q:Hid (∀a,Below g.heap.size g a->Calls Tryz.prog 110 #[.slice A n c] a fun e w'=>∃A' c',e=.returned (.slice A' n c')/\w'.ownsRow a.heap.size 3 1 (.slice A' n c') n (ints S)/\Below a.heap.size a w'):=fun a t=>q2h A n c S a ((C.out.next qd F).next qd t) (by omega)
 have U:Hid (∀a,Below g.heap.size g a->RdL RI a u m T):=fun a t=>(E.out.next qd F).next qd t
 have N:Hid (∀a,Below g.heap.size g a->qf.rd a [.int .i64 x.1,.slice B k e] x):=fun a t=>M.out _ (q9 f t rfl)
 have z:Hid (∀v∈S++T,0<=v/\v<=x.1 - 1):=fun v hv=>(zat.1 hv).elim (bS v) (bT v)
 have P:Hid (∀v∈S++T, -9223372036854775808<=v/\v<=9223372036854775807):=fun v hv=>by
  have h1:=z.out v hv;have h2:=p.out.2.1;omega
 have D:=zaa F;have hz4:=F.size;have o:Below g.heap.size g g:=zab _ _;clear k0 k1 j0 j1 i j F bS bT hS hT;go_upto_region 3 with fail
 first|(go_region_law (first
  |(refine q1b (R:=RI) _ rfl (.tmp 26) (.tmp 27) 43 3 rfl (.int .i64 0) 8 zax q15 rfl (by decide) g.heap.size n c5 A5 (ints S) (by rfl) (by exact ae) u m d T (fun y=>.int .i64 y) (fun _=>rfl) (by rfl) (U.out _ o) (fun _ _ _ hr=>hr.1) (by omega) (by exact o.size) ?_;intro A6 c6 w6 r hg6 ac;have G:Below g.heap.size g w6:=o.trans ac;have s:w6.ownsRow g.heap.size 3 1 (.slice A6 (n+m) c6) (n+m) (ints (S++T)):=(by simpa[ints]using r);have q0:=qe G k4;have q1:=qe G k5)
  |(go_simp;go_at_call 110;(with_reducible refine(Q.out _ ?_).mono ?_);(first|exact o|exact zai o);rintro e w5 ⟨A5,c5,rfl,ae,ab⟩;replace o:=q9 (by first|exact o|exact zai o) ab rfl;have x0:=qe o k4;have x1:=qe o k5)
  |(go_simp;go_at_call 106;refine(q7d _ x A6 (n+m) c6 (S++T) _ (N.out _ G) p.out (q14 (R:=RI) s (q1o P.out)) z.out).mono ?_;rintro e w7 ⟨A7,c7,rfl,af,ad⟩)))|fail
 all_goals
  go_wp2_with fail
  go_ret2
  exact⟨A7,c7,rfl,qh af (by have:=G.size;omega),q9 D.out (q9 G ad rfl) rfl⟩
def TwE (w:World) (o:Option q12) (e:Ending) (w':World):Prop:=Below w.heap.size w w'/\((o=none/\e=.returned (.tuple #[.agg #[.int .i64 0,.slice none 0 0,.slice none 0 0,.slice none 0 0],.bool false]))\/∃(k:Int) (L:List Int) (A:Option Addr) (c:Nat),o=some (k,([], []),L)/\e=.returned (.tuple #[.agg #[.int .i64 k,.slice none 0 0,.slice none 0 0,.slice A L.length c],.bool true])/\qj.own w' [.int .i64 k,.slice none 0 0,.slice none 0 0,.slice A L.length c] (k,([], []),L) (obl (.slice A L.length c))/\Iv w.heap.size w'.heap.size (obl (.slice A L.length c)))
theorem qmm {w:World} {lo j n:Nat} {e:TypeId} {v:Value} {xs:List Value} (h:w.ownsRow lo e j v n xs) {g:Nat} {k l m o:Value} (i:Blk w g 57 #[k,l,m,o]) (f:e≠57) (a b c d:Value):((((w.setCell ⟨g,0,none⟩ a).setCell ⟨g,1,none⟩ b).setCell ⟨g,2,none⟩ c).setCell ⟨g,3,none⟩ d).ownsRow lo e j v n xs:=
 q1y (q1y (q1y (q1y h i f 0 a) (i.set_ 0 a) f 1 b) ((i.set_ 0 a).set_ 1 b) f 2 c) (((i.set_ 0 a).set_ 1 b).set_ 2 c) f 3 d
theorem qi4 (B:Nat) (ds:List Value) (x:LabM) (s:qw) (j:Bool) (kd:Int) (hkd:(j=true->kd=4)/\(j=false->kd=3)) (a b:Nat) (w:World) (A1 A2:Option Addr) (c1 Y:Nat) (hD:LabD B w x (.slice A1 x.2.1.2.length c1) (.slice A2 x.2.2.1.length Y)) (h':qn.rd w ds s) (hx:AlgP x.2.1) (hln:x.2.2.1.length<=12) (htr:∀f∈x.2.2.1,q1l x.2.1 f=true) (hj:s.1=kd) (hsa:s.2.2.2.2.1=(a:Int)) (hsb:s.2.2.2.2.2=(b:Int)):
  Calls Tryz.prog 62 #[.agg #[.bool x.1,.int .i64 x.2.1.1,.slice A1 x.2.1.2.length c1,.slice A2 x.2.2.1.length Y,.int .i64 x.2.2.2],.agg ds.toArray] w (TwE w (twoF x kd (a:Int) (b:Int))):=by
 obtain⟨AL,nL,cL,AR,nR,cR,AV,nV,cV,AS,nS,cS,rfl,-,-,-,-,-,-,-,-,-⟩:=q1f h';obtain⟨css,bls,dss,cls,hPO,hPG,hap⟩:=hD;have hin:InR x.2.1.1:=⟨by have:=hx.1;omega,by have:=hx.2.1;omega⟩;rw[hsa,hsb,hj];obtain⟨D,hw0,T0,hsz0,BP,BQ,BZ⟩:=q41 w #[.bool x.1,.int .i64 x.2.1.1,.slice A1 x.2.1.2.length c1,.slice A2 x.2.2.1.length Y,.int .i64 x.2.2.2] #[.int .i64 kd,.string s.2.1,.int .i64 s.2.2.1.1,.slice AL nL cL,.slice AR nR cR,.slice AV nV cV,.slice AS nS cS,.int .i64 (a:Int),.int .i64 (b:Int)] #[.int .i64 0,.slice none 0 0,.slice none 0 0,.slice none 0 0] 27 59 57;have HW0:=zaa hw0;have HT0:=zaa T0;have hs0:D.heap.size=w.heap.size+3:=hsz0;have HP0:=zaa (hPO.next T0);have cP1:=BP.cell 1;have cP2:=BP.cell 2;have m:=BP.cell 3;have cQ0:=BQ.cell 0;have n:=BQ.cell 7;have o:=BQ.cell 8;simp at cP1 cP2 m cQ0 n o;obtain⟨M,N,O,R,fZ0,fZ1,fZ2,fZ3⟩:=cf4 BZ;have Tk:Below D.heap.size D D:=zab _ _
 by_cases hno:a=b\/x.2.2.1.length<=a\/x.2.2.1.length<=b
 .have HM:Hid (twoF x kd (a:Int) (b:Int)=none):=by show _=_;exact ql6 hno
  by_cases h1:x.2.2.1.length<=a
  .have h1':decide (x.2.2.1.length<=a)=true:=zbm h1
   clear hno;clear hPO hPG hap HP0 BP BQ
   go_enter Tryz.func62,Tryz.ntmps62
   go_upto_region 1 with fail;rw[<-HW0.out]
   go_cut [46] (fun t wx=>t=.bool true/\Below D.heap.size D wx)
   case first=>
    refine zb1 (S:=fun w'=>w'.cell? ⟨w.heap.size,3,none⟩=some (.slice A2 x.2.2.1.length Y)/\w'.cell? ⟨w.heap.size+1,7,none⟩=some (.int .i64 (a:Int))/\w'.cell? ⟨w.heap.size+1,8,none⟩=some (.int .i64 (b:Int))) (by kernel_rfl) ⟨m,n,o⟩ (fun hHeld0=>?_);obtain⟨ae,u⟩:∃x,Hid (x=World.drew D):=⟨_,rfl⟩;have h:Below D.heap.size D ae:=by rw[u.out];exact(zab _ _).drew
    rw[<-u.out]at hHeld0⊢;have ywt1:=h.size;replace Tk:=q9 Tk h rfl;have z:=kk3 h m n o;clear m n o;obtain⟨m,n,o⟩:=z;refine tp 0 (.pointer (some ⟨w.heap.size+1,7,none⟩)) rfl ?_;refine tk 1 (.int .i64 (a:Int)) rfl (.inl ⟨by kernel_rfl,fun C d=>by(obtain⟨i,k,l⟩:=d);go_simp⟩) ?_;refine tp 2 (.pointer (some ⟨w.heap.size,3,none⟩)) rfl ?_;refine tk 3 (.slice A2 x.2.2.1.length Y) rfl (.inl ⟨by kernel_rfl,fun C d=>by(obtain⟨i,k,l⟩:=d);go_simp⟩) ?_;refine tp 4 (.int .i64 (x.2.2.1.length:Int)) rfl ?_;refine tp 5 (.bool true) rfl ?_;refine tp 6 (.bool true) rfl ?_;refine tu 7 rfl ?_;refine tu 8 rfl ?_;refine tu 9 rfl ?_;refine tu 10 rfl ?_;refine tu 11 rfl ?_;refine tu 12 rfl ?_;refine tp 13 (.bool true) rfl ?_;refine tp 14 (.bool true) rfl ?_;refine tu 15 rfl ?_;refine tu 16 rfl ?_;refine tu 17 rfl ?_;refine tu 18 rfl ?_;refine tu 19 rfl ?_;refine tp 20 (.bool true) rfl ?_;refine tp 21 (.bool true) rfl ?_;refine tu 22 rfl ?_;refine tu 23 rfl ?_;refine tu 24 rfl ?_;refine tu 25 rfl ?_;refine tu 26 rfl ?_;refine tu 27 rfl ?_;refine tu 28 rfl ?_;refine tu 29 rfl ?_;refine tu 30 rfl ?_;refine tu 31 rfl ?_;refine tu 32 rfl ?_;refine tu 33 rfl ?_;refine tu 34 rfl ?_;refine tu 35 rfl ?_;refine tu 36 rfl ?_;refine tp 37 (.bool true) rfl ?_
    (try simp only[Act.put,zA,zB,zC,zD,zE,zF])
    refine zbg (by kernel_rfl) ?_ _;go_wp2_with fail;go_meet;exact⟨rfl,Tk⟩
   case rest=>
    obtain⟨rfl,F⟩:=hcut;obtain⟨w1,V⟩:∃wq:World,wq=wc:=⟨_,rfl⟩;subst V;have HT1:=zaa (q9 HT0.out F rfl);have y:=BZ.next F;have aa:=zaa (q6m y (.int .i64 0) (.slice none 0 0) (.slice none 0 0) (.slice none 0 0));have X:=zaa (q3w HT1.out (g:=w.heap.size+1+1) (by omega) (.int .i64 0) (.slice none 0 0) (.slice none 0 0) (.slice none 0 0));have z:=kk4 F M N O R;clear M N O R;obtain⟨M,N,O,R⟩:=z;replace fZ0:=y.frozen 0;replace fZ1:=y.frozen 1;replace fZ2:=y.frozen 2;replace fZ3:=y.frozen 3;go_wp2_with fail
    (try simp only[Exit.inBlock,Exit.then])
    refine zas (v:=.tuple #[.agg #[.int .i64 0,.slice none 0 0,.slice none 0 0,.slice none 0 0],.bool false]) ?hr rfl ?_
    case hr=>exact qp rfl _ _ (w.heap.size+1+1) 57 #[.int .i64 0,.slice none 0 0,.slice none 0 0,.slice none 0 0] (0,0) _ _ rfl aa.out zcr rfl (by kernel_rfl) rfl
    exact⟨X.out,.inl ⟨HM.out,rfl⟩⟩
  .by_cases h2:x.2.2.1.length<=b
   .have h1':decide (x.2.2.1.length<=a)=false:=zbn h1
    have h2':decide (x.2.2.1.length<=b)=true:=zbm h2;clear hno;clear hPO hPG hap HP0 BP BQ
    go_enter Tryz.func62,Tryz.ntmps62
    go_upto_region 1 with fail;rw[<-HW0.out]
    go_cut [46] (fun t wx=>t=.bool true/\Below D.heap.size D wx)
    case first=>
     refine zb1 (S:=fun w'=>w'.cell? ⟨w.heap.size,3,none⟩=some (.slice A2 x.2.2.1.length Y)/\w'.cell? ⟨w.heap.size+1,7,none⟩=some (.int .i64 (a:Int))/\w'.cell? ⟨w.heap.size+1,8,none⟩=some (.int .i64 (b:Int))) (by kernel_rfl) ⟨m,n,o⟩ (fun hHeld0=>?_);obtain⟨ae,u⟩:∃x,Hid (x=World.drew D):=⟨_,rfl⟩;have h:Below D.heap.size D ae:=by rw[u.out];exact(zab _ _).drew
     rw[<-u.out]at hHeld0⊢;have ywt1:=h.size;replace Tk:=q9 Tk h rfl;have z:=kk3 h m n o;clear m n o;obtain⟨m,n,o⟩:=z;refine tp 0 (.pointer (some ⟨w.heap.size+1,7,none⟩)) rfl ?_;refine tk 1 (.int .i64 (a:Int)) rfl (.inl ⟨by kernel_rfl,fun C d=>by(obtain⟨i,k,l⟩:=d);go_simp⟩) ?_;refine tp 2 (.pointer (some ⟨w.heap.size,3,none⟩)) rfl ?_;refine tk 3 (.slice A2 x.2.2.1.length Y) rfl (.inl ⟨by kernel_rfl,fun C d=>by(obtain⟨i,k,l⟩:=d);go_simp⟩) ?_;refine tp 4 (.int .i64 (x.2.2.1.length:Int)) rfl ?_;refine tp 5 (.bool false) rfl ?_;refine tp 6 (.bool false) rfl ?_;refine tp 7 (.pointer (some ⟨w.heap.size+1,8,none⟩)) rfl ?_;refine tk 8 (.int .i64 (b:Int)) rfl (.inl ⟨by kernel_rfl,fun C d=>by(obtain⟨i,k,l⟩:=d);go_simp⟩) ?_;refine tp 9 (.pointer (some ⟨w.heap.size,3,none⟩)) rfl ?_;refine tk 10 (.slice A2 x.2.2.1.length Y) rfl (.inl ⟨by kernel_rfl,fun C d=>by(obtain⟨i,k,l⟩:=d);go_simp⟩) ?_;refine tp 11 (.int .i64 (x.2.2.1.length:Int)) rfl ?_;refine tp 12 (.bool true) rfl ?_;refine tp 13 (.bool true) rfl ?_;refine tp 14 (.bool true) rfl ?_;refine tu 15 rfl ?_;refine tu 16 rfl ?_;refine tu 17 rfl ?_;refine tu 18 rfl ?_;refine tu 19 rfl ?_;refine tp 20 (.bool true) rfl ?_;refine tp 21 (.bool true) rfl ?_;refine tu 22 rfl ?_;refine tu 23 rfl ?_;refine tu 24 rfl ?_;refine tu 25 rfl ?_;refine tu 26 rfl ?_;refine tu 27 rfl ?_;refine tu 28 rfl ?_;refine tu 29 rfl ?_;refine tu 30 rfl ?_;refine tu 31 rfl ?_;refine tu 32 rfl ?_;refine tu 33 rfl ?_;refine tu 34 rfl ?_;refine tu 35 rfl ?_;refine tu 36 rfl ?_;refine tp 37 (.bool true) rfl ?_
     (try simp only[Act.put,zA,zB,zC,zD,zE,zF])
     refine zbg (by kernel_rfl) ?_ _;go_wp2_with fail;go_meet;exact⟨rfl,Tk⟩
    case rest=>
     obtain⟨rfl,F⟩:=hcut;obtain⟨w1,V⟩:∃wq:World,wq=wc:=⟨_,rfl⟩;subst V;have HT1:=zaa (q9 HT0.out F rfl);have y:=BZ.next F;have aa:=zaa (q6m y (.int .i64 0) (.slice none 0 0) (.slice none 0 0) (.slice none 0 0));have X:=zaa (q3w HT1.out (g:=w.heap.size+1+1) (by omega) (.int .i64 0) (.slice none 0 0) (.slice none 0 0) (.slice none 0 0));have z:=kk4 F M N O R;clear M N O R;obtain⟨M,N,O,R⟩:=z;replace fZ0:=y.frozen 0;replace fZ1:=y.frozen 1;replace fZ2:=y.frozen 2;replace fZ3:=y.frozen 3;go_wp2_with fail
     (try simp only[Exit.inBlock,Exit.then])
     refine zas (v:=.tuple #[.agg #[.int .i64 0,.slice none 0 0,.slice none 0 0,.slice none 0 0],.bool false]) ?hr rfl ?_
     case hr=>exact qp rfl _ _ (w.heap.size+1+1) 57 #[.int .i64 0,.slice none 0 0,.slice none 0 0,.slice none 0 0] (0,0) _ _ rfl aa.out zcr rfl (by kernel_rfl) rfl
     exact⟨X.out,.inl ⟨HM.out,rfl⟩⟩
   .have h3:a=b:=by omega
    subst h3;have h1':decide (x.2.2.1.length<=a)=false:=zbn h1;clear hno;clear hPO hPG hap HP0 BP BQ
    go_enter Tryz.func62,Tryz.ntmps62
    go_upto_region 1 with fail;rw[<-HW0.out]
    go_cut [46] (fun t wx=>t=.bool true/\Below D.heap.size D wx)
    case first=>
     refine zb1 (S:=fun w'=>w'.cell? ⟨w.heap.size,3,none⟩=some (.slice A2 x.2.2.1.length Y)/\w'.cell? ⟨w.heap.size+1,7,none⟩=some (.int .i64 (a:Int))/\w'.cell? ⟨w.heap.size+1,8,none⟩=some (.int .i64 (a:Int))) (by kernel_rfl) ⟨m,n,o⟩ (fun hHeld0=>?_);obtain⟨ae,u⟩:∃x,Hid (x=World.drew D):=⟨_,rfl⟩;have h:Below D.heap.size D ae:=by rw[u.out];exact(zab _ _).drew
     rw[<-u.out]at hHeld0⊢;have ywt1:=h.size;replace Tk:=q9 Tk h rfl;have z:=kk3 h m n o;clear m n o;obtain⟨m,n,o⟩:=z;refine tp 0 (.pointer (some ⟨w.heap.size+1,7,none⟩)) rfl ?_;refine tk 1 (.int .i64 (a:Int)) rfl (.inl ⟨by kernel_rfl,fun C d=>by(obtain⟨i,k,l⟩:=d);go_simp⟩) ?_;refine tp 2 (.pointer (some ⟨w.heap.size,3,none⟩)) rfl ?_;refine tk 3 (.slice A2 x.2.2.1.length Y) rfl (.inl ⟨by kernel_rfl,fun C d=>by(obtain⟨i,k,l⟩:=d);go_simp⟩) ?_;refine tp 4 (.int .i64 (x.2.2.1.length:Int)) rfl ?_;refine tp 5 (.bool false) rfl ?_;refine tp 6 (.bool false) rfl ?_;refine tp 7 (.pointer (some ⟨w.heap.size+1,8,none⟩)) rfl ?_;refine tk 8 (.int .i64 (a:Int)) rfl (.inl ⟨by kernel_rfl,fun C d=>by(obtain⟨i,k,l⟩:=d);go_simp⟩) ?_;refine tp 9 (.pointer (some ⟨w.heap.size,3,none⟩)) rfl ?_;refine tk 10 (.slice A2 x.2.2.1.length Y) rfl (.inl ⟨by kernel_rfl,fun C d=>by(obtain⟨i,k,l⟩:=d);go_simp⟩) ?_;refine tp 11 (.int .i64 (x.2.2.1.length:Int)) rfl ?_;refine tp 12 (.bool false) rfl ?_;refine tp 13 (.bool false) rfl ?_;refine tp 14 (.bool false) rfl ?_;refine tp 15 (.pointer (some ⟨w.heap.size+1,7,none⟩)) rfl ?_;refine tk 16 (.int .i64 (a:Int)) rfl (.inl ⟨by kernel_rfl,fun C d=>by(obtain⟨i,k,l⟩:=d);go_simp⟩) ?_;refine tp 17 (.pointer (some ⟨w.heap.size+1,8,none⟩)) rfl ?_;refine tk 18 (.int .i64 (a:Int)) rfl (.inl ⟨by kernel_rfl,fun C d=>by(obtain⟨i,k,l⟩:=d);go_simp⟩) ?_;refine tp 19 (.bool true) rfl ?_;refine tp 20 (.bool true) rfl ?_;refine tp 21 (.bool true) rfl ?_;refine tu 22 rfl ?_;refine tu 23 rfl ?_;refine tu 24 rfl ?_;refine tu 25 rfl ?_;refine tu 26 rfl ?_;refine tu 27 rfl ?_;refine tu 28 rfl ?_;refine tu 29 rfl ?_;refine tu 30 rfl ?_;refine tu 31 rfl ?_;refine tu 32 rfl ?_;refine tu 33 rfl ?_;refine tu 34 rfl ?_;refine tu 35 rfl ?_;refine tu 36 rfl ?_;refine tp 37 (.bool true) rfl ?_
     (try simp only[Act.put,zA,zB,zC,zD,zE,zF])
     refine zbg (by kernel_rfl) ?_ _;go_wp2_with fail;go_meet;exact⟨rfl,Tk⟩
    case rest=>
     obtain⟨rfl,F⟩:=hcut;obtain⟨w1,V⟩:∃wq:World,wq=wc:=⟨_,rfl⟩;subst V;have HT1:=zaa (q9 HT0.out F rfl);have y:=BZ.next F;have aa:=zaa (q6m y (.int .i64 0) (.slice none 0 0) (.slice none 0 0) (.slice none 0 0));have X:=zaa (q3w HT1.out (g:=w.heap.size+1+1) (by omega) (.int .i64 0) (.slice none 0 0) (.slice none 0 0) (.slice none 0 0));have z:=kk4 F M N O R;clear M N O R;obtain⟨M,N,O,R⟩:=z;replace fZ0:=y.frozen 0;replace fZ1:=y.frozen 1;replace fZ2:=y.frozen 2;replace fZ3:=y.frozen 3;go_wp2_with fail
     (try simp only[Exit.inBlock,Exit.then])
     refine zas (v:=.tuple #[.agg #[.int .i64 0,.slice none 0 0,.slice none 0 0,.slice none 0 0],.bool false]) ?hr rfl ?_
     case hr=>exact qp rfl _ _ (w.heap.size+1+1) 57 #[.int .i64 0,.slice none 0 0,.slice none 0 0,.slice none 0 0] (0,0) _ _ rfl aa.out zcr rfl (by kernel_rfl) rfl
     exact⟨X.out,.inl ⟨HM.out,rfl⟩⟩
 .have hab:a≠b:=fun e=>hno (.inl e)
  have hal:a<x.2.2.1.length:=by omega
  have hbl:b<x.2.2.1.length:=by omega
  have h2:¬x.2.2.1.length<=a:=by omega
  have h3:¬x.2.2.1.length<=b:=by omega
  have h4:¬(a:Int)=(b:Int):=by omega
  have h5:((a:Int)==(b:Int))=false:=by simp;omega
  have ha0:(0:Int)<=(a:Int):=by omega
  have hb0:(0:Int)<=(b:Int):=by omega
  have ha1:(a:Int)<(x.2.2.1.length:Int):=by omega
  have F:(b:Int)<(x.2.2.1.length:Int):=by omega
  obtain⟨A',c',e',hrd⟩:=(hPG.next T0).rd;injection e' with e1 e2 e3
  subst e1;obtain⟨H,J,vs,⟨I,⟨Lf,Rf⟩,Vf⟩,hAe,-,hc,hrf,-,hfx⟩:=hrd.at hal;obtain⟨bb2,oo2,vs2,⟨kh,⟨Lh,Rh⟩,Vh⟩,hAe2,-,hc2,hrh,-,hhx⟩:=hrd.at hbl;rw[hAe]at hAe2;injection hAe2 with hAe2
  injection hAe2 with q1 q2
  subst q1;subst q2;subst hAe;obtain⟨fL,nfL,cfL,fR,nfR,cfR,fV,nfV,cfV,rfl,fk,pfL,pfR,pfV⟩:=q1u hrf;obtain⟨hL,nhL,chL,hR,nhR,chR,hV,W,chV,rfl,hhk,phL,phR,phV⟩:=q1u hrh;have T:D.cell? ⟨H,J+a*4,none⟩=some (.int .i64 I):=hc 0 _ rfl;have cf3:D.cell? ⟨H,J+a*4+3,none⟩=some (.slice fV nfV cfV):=hc 3 _ rfl;have U:D.cell? ⟨H,J+b*4,none⟩=some (.int .i64 kh):=hc2 0 _ rfl;have ab:D.cell? ⟨H,J+b*4+3,none⟩=some (.slice hV W chV):=hc2 3 _ rfl;have af:Hid (q1l x.2.1 (I,(Lf,Rf),Vf)=true/\q1l x.2.1 (kh,(Lh,Rh),Vh)=true):=⟨htr _ (zaf hfx),htr _ (zaf hhx)⟩;have HTW:Hid (twoF x kd (a:Int) (b:Int)=if I=kh/\(I=3\/I=4)then some (I,([], []),twoL x.2.1 j (I,(Lf,Rf),Vf) (kh,(Lh,Rh),Vh))else none):=zaa (ql5 hkd hab hfx hhx);have pfV':RdL RI D fV nfV Vf:=pfV;have phV':RdL RI D hV W Vh:=phV;have HQF:=zaa pfV';have HQH:=zaa phV';have HFK:Hid (InR I/\InR kh):=⟨fk,hhk⟩;have HAX:=zaa hx
  by_cases hkk:I=kh
  rotate_left
  .have HM:Hid (twoF x kd (a:Int) (b:Int)=none):=by show _=_;rw[HTW.out,zaj fun hc=>hkk hc.1]
   have hkn:(I !=kh)=true:=by simp[hkk]
   clear hno hrd hc hc2 hrf hrh hfx hhx pfL pfR pfV phL phR phV pfV' phV' htr fk hhk e2 e3;clear hPO hPG hap HP0 BP BQ
   go_enter Tryz.func62,Tryz.ntmps62
   go_upto_region 1 with fail;rw[<-HW0.out]
   go_cut [46] (fun t wx=>t=.bool true/\Below D.heap.size D wx)
   case first=>
    refine zb1 (S:=fun w'=>w'.cell? ⟨w.heap.size,3,none⟩=some (.slice (some ⟨H,J,none⟩) x.2.2.1.length Y)/\w'.cell? ⟨w.heap.size+1,7,none⟩=some (.int .i64 (a:Int))/\w'.cell? ⟨w.heap.size+1,8,none⟩=some (.int .i64 (b:Int))/\w'.cell? ⟨H,J+a*4,none⟩=some (.int .i64 I)/\w'.cell? ⟨H,J+b*4,none⟩=some (.int .i64 kh)) (by kernel_rfl) ⟨m,n,o,T,U⟩ (fun hHeld0=>?_);obtain⟨ae,u⟩:∃x,Hid (x=World.drew D):=⟨_,rfl⟩;have h:Below D.heap.size D ae:=by rw[u.out];exact(zab _ _).drew
    rw[<-u.out]at hHeld0⊢;have ywt1:=h.size;replace Tk:=q9 Tk h rfl;have z:=kk5 h m n o T U;clear m n o T U;obtain⟨m,n,o,T,U⟩:=z;refine tp 0 (.pointer (some ⟨w.heap.size+1,7,none⟩)) rfl ?_;refine tk 1 (.int .i64 (a:Int)) rfl (.inl ⟨by kernel_rfl,fun C d=>by(obtain⟨i,k,l,q,r⟩:=d);go_simp⟩) ?_;refine tp 2 (.pointer (some ⟨w.heap.size,3,none⟩)) rfl ?_;refine tk 3 (.slice (some ⟨H,J,none⟩) x.2.2.1.length Y) rfl (.inl ⟨by kernel_rfl,fun C d=>by(obtain⟨i,k,l,q,r⟩:=d);go_simp⟩) ?_;refine tp 4 (.int .i64 (x.2.2.1.length:Int)) rfl ?_;refine tp 5 (.bool false) rfl ?_;refine tp 6 (.bool false) rfl ?_;refine tp 7 (.pointer (some ⟨w.heap.size+1,8,none⟩)) rfl ?_;refine tk 8 (.int .i64 (b:Int)) rfl (.inl ⟨by kernel_rfl,fun C d=>by(obtain⟨i,k,l,q,r⟩:=d);go_simp⟩) ?_;refine tp 9 (.pointer (some ⟨w.heap.size,3,none⟩)) rfl ?_;refine tk 10 (.slice (some ⟨H,J,none⟩) x.2.2.1.length Y) rfl (.inl ⟨by kernel_rfl,fun C d=>by(obtain⟨i,k,l,q,r⟩:=d);go_simp⟩) ?_;refine tp 11 (.int .i64 (x.2.2.1.length:Int)) rfl ?_;refine tp 12 (.bool false) rfl ?_;refine tp 13 (.bool false) rfl ?_;refine tp 14 (.bool false) rfl ?_;refine tp 15 (.pointer (some ⟨w.heap.size+1,7,none⟩)) rfl ?_;refine tk 16 (.int .i64 (a:Int)) rfl (.inl ⟨by kernel_rfl,fun C d=>by(obtain⟨i,k,l,q,r⟩:=d);go_simp⟩) ?_;refine tp 17 (.pointer (some ⟨w.heap.size+1,8,none⟩)) rfl ?_;refine tk 18 (.int .i64 (b:Int)) rfl (.inl ⟨by kernel_rfl,fun C d=>by(obtain⟨i,k,l,q,r⟩:=d);go_simp⟩) ?_;refine tp 19 (.bool false) rfl ?_;refine tp 20 (.bool false) rfl ?_;refine tp 21 (.bool false) rfl ?_;refine tp 22 (.pointer (some ⟨w.heap.size,3,none⟩)) rfl ?_;refine tk 23 (.slice (some ⟨H,J,none⟩) x.2.2.1.length Y) rfl (.inl ⟨by kernel_rfl,fun C d=>by(obtain⟨i,k,l,q,r⟩:=d);go_simp⟩) ?_;refine tp 24 (.pointer (some ⟨w.heap.size+1,7,none⟩)) rfl ?_;refine tk 25 (.int .i64 (a:Int)) rfl (.inl ⟨by kernel_rfl,fun C d=>by(obtain⟨i,k,l,q,r⟩:=d);go_simp⟩) ?_;refine tp 26 (.pointer (some ⟨H,J+a*4,none⟩)) rfl ?_;refine tp 27 (.pointer (some ⟨H,J+a*4,none⟩)) rfl ?_;refine tk 28 (.int .i64 I) rfl (.inl ⟨by kernel_rfl,fun C d=>by(obtain⟨i,k,l,q,r⟩:=d);go_simp⟩) ?_;refine tp 29 (.pointer (some ⟨w.heap.size,3,none⟩)) rfl ?_;refine tk 30 (.slice (some ⟨H,J,none⟩) x.2.2.1.length Y) rfl (.inl ⟨by kernel_rfl,fun C d=>by(obtain⟨i,k,l,q,r⟩:=d);go_simp⟩) ?_;refine tp 31 (.pointer (some ⟨w.heap.size+1,8,none⟩)) rfl ?_;refine tk 32 (.int .i64 (b:Int)) rfl (.inl ⟨by kernel_rfl,fun C d=>by(obtain⟨i,k,l,q,r⟩:=d);go_simp⟩) ?_;refine tp 33 (.pointer (some ⟨H,J+b*4,none⟩)) rfl ?_;refine tp 34 (.pointer (some ⟨H,J+b*4,none⟩)) rfl ?_;refine tk 35 (.int .i64 kh) rfl (.inl ⟨by kernel_rfl,fun C d=>by(obtain⟨i,k,l,q,r⟩:=d);go_simp⟩) ?_;refine tp 36 (.bool true) rfl ?_;refine tp 37 (.bool true) rfl ?_
    (try simp only[Act.put,zA,zB,zC,zD,zE,zF])
    refine zbg (by kernel_rfl) ?_ _;go_wp2_with fail;go_meet;exact⟨rfl,Tk⟩
   case rest=>
    obtain⟨rfl,F⟩:=hcut;obtain⟨w1,V⟩:∃wq:World,wq=wc:=⟨_,rfl⟩;subst V;have HT1:=zaa (q9 HT0.out F rfl);have y:=BZ.next F;have aa:=zaa (q6m y (.int .i64 0) (.slice none 0 0) (.slice none 0 0) (.slice none 0 0));have X:=zaa (q3w HT1.out (g:=w.heap.size+1+1) (by omega) (.int .i64 0) (.slice none 0 0) (.slice none 0 0) (.slice none 0 0));have z:=kk4 F M N O R;clear M N O R;obtain⟨M,N,O,R⟩:=z;replace fZ0:=y.frozen 0;replace fZ1:=y.frozen 1;replace fZ2:=y.frozen 2;replace fZ3:=y.frozen 3;go_wp2_with fail
    (try simp only[Exit.inBlock,Exit.then])
    refine zas (v:=.tuple #[.agg #[.int .i64 0,.slice none 0 0,.slice none 0 0,.slice none 0 0],.bool false]) ?hr rfl ?_
    case hr=>exact qp rfl _ _ (w.heap.size+1+1) 57 #[.int .i64 0,.slice none 0 0,.slice none 0 0,.slice none 0 0] (0,0) _ _ rfl aa.out zcr rfl (by kernel_rfl) rfl
    exact⟨X.out,.inl ⟨HM.out,rfl⟩⟩
  .subst hkk
   have hkn:(I !=I)=false:=by simp
   have hb00:=hrd;clear hno hrd hc hc2 hrf hrh hfx hhx pfL pfR pfV phL phR phV pfV' phV' htr fk hhk e2 e3 hb00 hPO hPG hap
   go_enter Tryz.func62,Tryz.ntmps62
   go_upto_region 1 with fail;rw[<-HW0.out]
   go_cut [46] (fun t wx=>t=.bool false/\Below D.heap.size D wx)
   case first=>
    refine zb1 (S:=fun w'=>w'.cell? ⟨w.heap.size,3,none⟩=some (.slice (some ⟨H,J,none⟩) x.2.2.1.length Y)/\w'.cell? ⟨w.heap.size+1,7,none⟩=some (.int .i64 (a:Int))/\w'.cell? ⟨w.heap.size+1,8,none⟩=some (.int .i64 (b:Int))/\w'.cell? ⟨H,J+a*4,none⟩=some (.int .i64 I)/\w'.cell? ⟨H,J+b*4,none⟩=some (.int .i64 I)) (by kernel_rfl) ⟨m,n,o,T,U⟩ (fun hHeld0=>?_);obtain⟨ae,u⟩:∃x,Hid (x=World.drew D):=⟨_,rfl⟩;have h:Below D.heap.size D ae:=by rw[u.out];exact(zab _ _).drew
    rw[<-u.out]at hHeld0⊢;have ywt1:=h.size;replace Tk:=q9 Tk h rfl;have z:=kk5 h m n o T U;clear m n o T U;obtain⟨m,n,o,T,U⟩:=z;refine tp 0 (.pointer (some ⟨w.heap.size+1,7,none⟩)) rfl ?_;refine tk 1 (.int .i64 (a:Int)) rfl (.inl ⟨by kernel_rfl,fun C d=>by(obtain⟨i,k,l,q,r⟩:=d);go_simp⟩) ?_;refine tp 2 (.pointer (some ⟨w.heap.size,3,none⟩)) rfl ?_;refine tk 3 (.slice (some ⟨H,J,none⟩) x.2.2.1.length Y) rfl (.inl ⟨by kernel_rfl,fun C d=>by(obtain⟨i,k,l,q,r⟩:=d);go_simp⟩) ?_;refine tp 4 (.int .i64 (x.2.2.1.length:Int)) rfl ?_;refine tp 5 (.bool false) rfl ?_;refine tp 6 (.bool false) rfl ?_;refine tp 7 (.pointer (some ⟨w.heap.size+1,8,none⟩)) rfl ?_;refine tk 8 (.int .i64 (b:Int)) rfl (.inl ⟨by kernel_rfl,fun C d=>by(obtain⟨i,k,l,q,r⟩:=d);go_simp⟩) ?_;refine tp 9 (.pointer (some ⟨w.heap.size,3,none⟩)) rfl ?_;refine tk 10 (.slice (some ⟨H,J,none⟩) x.2.2.1.length Y) rfl (.inl ⟨by kernel_rfl,fun C d=>by(obtain⟨i,k,l,q,r⟩:=d);go_simp⟩) ?_;refine tp 11 (.int .i64 (x.2.2.1.length:Int)) rfl ?_;refine tp 12 (.bool false) rfl ?_;refine tp 13 (.bool false) rfl ?_;refine tp 14 (.bool false) rfl ?_;refine tp 15 (.pointer (some ⟨w.heap.size+1,7,none⟩)) rfl ?_;refine tk 16 (.int .i64 (a:Int)) rfl (.inl ⟨by kernel_rfl,fun C d=>by(obtain⟨i,k,l,q,r⟩:=d);go_simp⟩) ?_;refine tp 17 (.pointer (some ⟨w.heap.size+1,8,none⟩)) rfl ?_;refine tk 18 (.int .i64 (b:Int)) rfl (.inl ⟨by kernel_rfl,fun C d=>by(obtain⟨i,k,l,q,r⟩:=d);go_simp⟩) ?_;refine tp 19 (.bool false) rfl ?_;refine tp 20 (.bool false) rfl ?_;refine tp 21 (.bool false) rfl ?_;refine tp 22 (.pointer (some ⟨w.heap.size,3,none⟩)) rfl ?_;refine tk 23 (.slice (some ⟨H,J,none⟩) x.2.2.1.length Y) rfl (.inl ⟨by kernel_rfl,fun C d=>by(obtain⟨i,k,l,q,r⟩:=d);go_simp⟩) ?_;refine tp 24 (.pointer (some ⟨w.heap.size+1,7,none⟩)) rfl ?_;refine tk 25 (.int .i64 (a:Int)) rfl (.inl ⟨by kernel_rfl,fun C d=>by(obtain⟨i,k,l,q,r⟩:=d);go_simp⟩) ?_;refine tp 26 (.pointer (some ⟨H,J+a*4,none⟩)) rfl ?_;refine tp 27 (.pointer (some ⟨H,J+a*4,none⟩)) rfl ?_;refine tk 28 (.int .i64 I) rfl (.inl ⟨by kernel_rfl,fun C d=>by(obtain⟨i,k,l,q,r⟩:=d);go_simp⟩) ?_;refine tp 29 (.pointer (some ⟨w.heap.size,3,none⟩)) rfl ?_;refine tk 30 (.slice (some ⟨H,J,none⟩) x.2.2.1.length Y) rfl (.inl ⟨by kernel_rfl,fun C d=>by(obtain⟨i,k,l,q,r⟩:=d);go_simp⟩) ?_;refine tp 31 (.pointer (some ⟨w.heap.size+1,8,none⟩)) rfl ?_;refine tk 32 (.int .i64 (b:Int)) rfl (.inl ⟨by kernel_rfl,fun C d=>by(obtain⟨i,k,l,q,r⟩:=d);go_simp⟩) ?_;refine tp 33 (.pointer (some ⟨H,J+b*4,none⟩)) rfl ?_;refine tp 34 (.pointer (some ⟨H,J+b*4,none⟩)) rfl ?_;refine tk 35 (.int .i64 I) rfl (.inl ⟨by kernel_rfl,fun C d=>by(obtain⟨i,k,l,q,r⟩:=d);go_simp⟩) ?_;refine tp 36 (.bool false) rfl ?_;refine tp 37 (.bool false) rfl ?_
    (try simp only[Act.put,zA,zB,zC,zD,zE,zF])
    refine zbg (by kernel_rfl) ?_ _;go_wp2_with fail;go_meet;exact⟨rfl,Tk⟩
   case rest=>
    obtain⟨rfl,F⟩:=hcut;obtain⟨w1,V⟩:∃wq:World,wq=wc:=⟨_,rfl⟩;subst V;have z:=kk10 F cP1 cP2 m cQ0 n o T cf3 U ab;clear cP1 cP2 m cQ0 n o T cf3 U ab;obtain⟨cP1,cP2,m,cQ0,n,o,T,cf3,U,ab⟩:=z;replace Tk:Below w1.heap.size w1 w1:=zab _ _;go_upto_region 3 with fail
    go_cut [6,7] (fun u6 u7 wx=>u6=.slice fV nfV cfV/\u7=.slice hV W chV/\Below w1.heap.size w1 wx)
    case first=>
     refine zb1 (S:=fun w'=>w'.cell? ⟨w.heap.size,3,none⟩=some (.slice (some ⟨H,J,none⟩) x.2.2.1.length Y)/\w'.cell? ⟨w.heap.size+1,7,none⟩=some (.int .i64 (a:Int))/\w'.cell? ⟨w.heap.size+1,8,none⟩=some (.int .i64 (b:Int))/\w'.cell? ⟨H,J+a*4+3,none⟩=some (.slice fV nfV cfV)/\w'.cell? ⟨H,J+b*4+3,none⟩=some (.slice hV W chV)) (by kernel_rfl) ⟨m,n,o,cf3,ab⟩ (fun hHeld0=>?_);obtain⟨ae,u⟩:∃x,Hid (x=World.drew w1):=⟨_,rfl⟩;have h:Below w1.heap.size w1 ae:=by rw[u.out];exact(zab _ _).drew
     rw[<-u.out]at hHeld0⊢;have ywt1:=h.size;replace Tk:=q9 Tk h rfl;have z:=kk5 h m n o cf3 ab;clear m n o cf3 ab;obtain⟨m,n,o,cf3,ab⟩:=z;refine tp 0 (.pointer (some ⟨w.heap.size,3,none⟩)) rfl ?_;refine tk 1 (.slice (some ⟨H,J,none⟩) x.2.2.1.length Y) rfl (.inl ⟨by kernel_rfl,fun C d=>by(obtain⟨i,k,l,q,r⟩:=d);go_simp⟩) ?_;refine tp 2 (.pointer (some ⟨w.heap.size+1,7,none⟩)) rfl ?_;refine tk 3 (.int .i64 (a:Int)) rfl (.inl ⟨by kernel_rfl,fun C d=>by(obtain⟨i,k,l,q,r⟩:=d);go_simp⟩) ?_;refine tp 4 (.pointer (some ⟨H,J+a*4,none⟩)) rfl ?_;refine tp 5 (.pointer (some ⟨H,J+a*4+3,none⟩)) rfl ?_;refine tk 6 (.slice fV nfV cfV) rfl (.inl ⟨by kernel_rfl,fun C d=>by(obtain⟨i,k,l,q,r⟩:=d);go_simp⟩) ?_;refine tp 7 (.pointer (some ⟨w.heap.size,3,none⟩)) rfl ?_;refine tk 8 (.slice (some ⟨H,J,none⟩) x.2.2.1.length Y) rfl (.inl ⟨by kernel_rfl,fun C d=>by(obtain⟨i,k,l,q,r⟩:=d);go_simp⟩) ?_;refine tp 9 (.pointer (some ⟨w.heap.size+1,8,none⟩)) rfl ?_;refine tk 10 (.int .i64 (b:Int)) rfl (.inl ⟨by kernel_rfl,fun C d=>by(obtain⟨i,k,l,q,r⟩:=d);go_simp⟩) ?_;refine tp 11 (.pointer (some ⟨H,J+b*4,none⟩)) rfl ?_;refine tp 12 (.pointer (some ⟨H,J+b*4+3,none⟩)) rfl ?_;refine tk 13 (.slice hV W chV) rfl (.inl ⟨by kernel_rfl,fun C d=>by(obtain⟨i,k,l,q,r⟩:=d);go_simp⟩) ?_;refine tp 14 (.slice fV nfV cfV) rfl ?_;refine tp 15 (.slice hV W chV) rfl ?_
     (try simp only[Act.put,zA,zB,zC,zD,zE,zF])
     refine zbg (by kernel_rfl) ?_ _;go_wp2_with fail;go_meet;exact⟨rfl,rfl,Tk⟩
    case rest=>
     obtain⟨rfl,rfl,hb2⟩:=hcut;obtain⟨w2,V⟩:∃wq:World,wq=wc:=⟨_,rfl⟩;subst V;have z:=kk10 hb2 cP1 cP2 m cQ0 n o T cf3 U ab;clear cP1 cP2 m cQ0 n o T cf3 U ab;obtain⟨cP1,cP2,m,cQ0,n,o,T,cf3,U,ab⟩:=z;have hb12:=q9 F hb2 rfl;obtain⟨w3,HW3⟩:∃wb,Hid (wb=w2.alloc (.cells #[.int .i64 I,.slice none 0 0,.slice none 0 0,.slice none 0 0] 57)):=⟨_,zaa rfl⟩;have hb3:Below w2.heap.size w2 w3:=by rw[HW3.out];exact qm _ _
     have BX3:Blk w3 w2.heap.size 57 #[.int .i64 I,.slice none 0 0,.slice none 0 0,.slice none 0 0]:=by rw[HW3.out];exact Blk.new _ _ _
     have G:=q9 hb12 hb3 rfl;have BZ3:=BZ.next G;have hz2:D.heap.size<=w2.heap.size:=hb12.size;have hz3:w2.heap.size<w3.heap.size:=BX3.lt;have cX3:=BX3.cell 3;have fX3:=BX3.frozen 3;have cX0:=BX3.cell 0;simp at cX0 cX3;have xP1:=qe hb3 cP1;have xP2:=qe hb3 cP2;have xQ0:=qe hb3 cQ0;have HZ3:=zaa BZ3;have HT3:=zaa (q9 HT0.out G rfl);clear M N O R fZ0 fZ1 fZ2 fZ3
     go_upto_block 0 with fail
     rw[<-HW3.out];clear cP1 cP2 m n o cf3 ab cQ0 T U Tk
     by_cases h34:I=3\/I=4
     rotate_left
     .have HM:Hid (twoF x kd (a:Int) (b:Int)=none):=by show _=_;rw[HTW.out,zaj fun hc=>h34 hc.2]
      have q3:(I==3)=false:=by simp;exact fun e=>h34 (.inl e)
      have q4:(I==4)=false:=by simp;exact fun e=>h34 (.inr e)
      have aa:=zaa (q6m BZ3 (.int .i64 0) (.slice none 0 0) (.slice none 0 0) (.slice none 0 0));have X:=zaa (q3w HT3.out (g:=w.heap.size+1+1) (by omega) (.int .i64 0) (.slice none 0 0) (.slice none 0 0) (.slice none 0 0));obtain⟨M,N,O,R,fZ0,fZ1,fZ2,fZ3⟩:=cf4 BZ3;clear h34 BX3 BZ3;go_wp2_with fail
      (try simp only[Exit.inBlock,Exit.then])
      refine zas (v:=.tuple #[.agg #[.int .i64 0,.slice none 0 0,.slice none 0 0,.slice none 0 0],.bool false]) ?hr rfl ?_
      case hr=>exact qp rfl _ _ (w.heap.size+1+1) 57 #[.int .i64 0,.slice none 0 0,.slice none 0 0,.slice none 0 0] (0,0) _ _ rfl aa.out zcr rfl (by kernel_rfl) rfl
      exact⟨X.out,.inl ⟨HM.out,rfl⟩⟩
     .obtain⟨L,HL⟩:∃L,Hid (twoL x.2.1 j (I,(Lf,Rf),Vf) (I,(Lh,Rh),Vh)=L):=⟨_,zaa rfl⟩
      have HLB:Hid (∀v∈L,InR v):=by show ∀v∈L,_;rw[<-HL.out];exact qns HAX.out af.out.1 af.out.2 rfl h34
      have HM:Hid (twoF x kd (a:Int) (b:Int)=some (I,([], []),L)):=by show _=_;rw[HTW.out,zao ⟨rfl,h34⟩,HL.out]
      have HB13:=zaa G
      go_cut []from 71 to 122 (fun wx=>∃A c,Blk wx w2.heap.size 57 #[.int .i64 I,.slice none 0 0,.slice none 0 0,.slice A L.length c]/\wx.ownsRow D.heap.size 3 1 (.slice A L.length c) L.length (ints L)/\Below D.heap.size D wx)
      case first=>
       have hti:=q4s af.out.1;have hti2:=q4s af.out.2;have hx1:=HAX.out.1;have hx8:=HAX.out.2.1;have hnf:Vf.length=nfV:=HQF.out.len;have hnh:Vh.length=W:=HQH.out.len;have hlf:Vf.length<=1000:=q4l HAX.out af.out.1;have hlh:Vh.length<=1000:=q4l HAX.out af.out.2;have HAL:Hid (qf.rd w3 [.int .i64 x.2.1.1,.slice A1 x.2.1.2.length c1] x.2.1):=qf.ord ((HP0.out.next G).algO hin)
       rcases h34 with rfl|rfl
       .have sF:subB x.2.1.1.toNat x.2.1.2 Vf=true:=qhh af.out.1 rfl
        have sH:subB x.2.1.1.toNat x.2.1.2 Vh=true:=qhh af.out.2 rfl;have bF:∀v∈Vf,0<=v/\v<=x.2.1.1 - 1:=fun v hv=>by have:=hti.1 v hv;omega
        have bH:∀v∈Vh,0<=v/\v<=x.2.1.1 - 1:=fun v hv=>by have:=hti2.1 v hv;omega
        cases j with
        | true =>
          obtain rfl := hkd.1 rfl;have hLe : genL x.2.1.1.toNat x.2.1.2 (Vf ++ Vh) = L := HL.out;subst hLe;have HC := zaa (qdm _ x.2.1 fV hV nfV cfV W chV Vf Vh w3 HAL.out HAX.out (HQF.out.next qd G) (HQH.out.next qd G) sF sH (by omega) (by omega) bF bH);clear hti hti2 sF sH bF bH hkd;go_wp2_with fail;refine HC.out.mono ?_;rintro e w7 ⟨A7, c7, rfl, ho7, ad⟩;have ac := q9 HB13.out ad rfl;have E := BX3.next ad;have r3 := E.cell 3;have s3 := E.frozen 3;simp at r3;go_wp2_with fail;go_meet;have Z := E.set_ 3 (.slice A7 (genL x.2.1.1.toNat x.2.1.2 (Vf ++ Vh)).length c7);simp at Z;exact ⟨A7, c7, Z, q1y (qh ho7 (by omega)) E (by decide) _ _, ac.setCell (p := ⟨w2.heap.size, 3, none⟩) (by exact hz2) _⟩
        | false =>
          obtain rfl := hkd.2 rfl;have hLe : q29 Vh Vf = L := HL.out;subst hLe;have HC := zaa (qe3 _ x.2.1 fV hV nfV cfV W chV Vf Vh w3 HAL.out HAX.out (HQF.out.next qd G) (HQH.out.next qd G) sF sH (by omega));clear hti hti2 sF sH bF bH hkd;go_wp2_with fail;refine HC.out.mono ?_;rintro e w7 ⟨A7, c7, rfl, ho7, ad⟩;have ac := q9 HB13.out ad rfl;have E := BX3.next ad;have r3 := E.cell 3;have s3 := E.frozen 3;simp at r3;go_wp2_with fail;go_meet;have Z := E.set_ 3 (.slice A7 (q29 Vh Vf).length c7);simp at Z;exact ⟨A7, c7, Z, q1y (qh ho7 (by omega)) E (by decide) _ _, ac.setCell (p := ⟨w2.heap.size, 3, none⟩) (by exact hz2) _⟩
       .have P:ParP x.2.1.1.toNat Vf:=q4m af.out.1 rfl
        have Q:ParP x.2.1.1.toNat Vh:=q4m af.out.2 rfl;have hf2:=P.1;have hh2:=Q.1;have hnn:W=nfV:=by omega
        subst hnn;have hnx:x.2.1.1.toNat=W:=by omega
        rw[hnx]at P Q;cases j with
        | true =>
          obtain rfl := hkd.1 rfl;have hLe : q67 Vf Vh = L := HL.out;subst hLe;have HC := zaa (qi7 fV hV W cfV chV Vf Vh w3 (HQF.out.next qd G) (HQH.out.next qd G) P Q (by omega) (by omega));clear hti hti2 hkd;go_wp2_with fail;refine HC.out.mono ?_;rintro e w7 ⟨A7, c7, rfl, ho7, ad⟩;have ac := q9 HB13.out ad rfl;have E := BX3.next ad;have r3 := E.cell 3;have s3 := E.frozen 3;simp at r3;go_wp2_with fail;go_meet;have Z := E.set_ 3 (.slice A7 (q67 Vf Vh).length c7);simp at Z;exact ⟨A7, c7, Z, q1y (qh ho7 (by omega)) E (by decide) _ _, ac.setCell (p := ⟨w2.heap.size, 3, none⟩) (by exact hz2) _⟩
        | false =>
          obtain rfl := hkd.2 rfl;have hLe : q48 Vf Vh = L := HL.out;subst hLe;have HC := zaa (qi8 fV hV W cfV chV Vf Vh w3 (HQF.out.next qd G) (HQH.out.next qd G) P Q (by omega) (by omega));clear hti hti2 hkd;go_wp2_with fail;refine HC.out.mono ?_;rintro e w7 ⟨A7, c7, rfl, ho7, ad⟩;have ac := q9 HB13.out ad rfl;have E := BX3.next ad;have r3 := E.cell 3;have s3 := E.frozen 3;simp at r3;go_wp2_with fail;go_meet;have Z := E.set_ 3 (.slice A7 (q48 Vf Vh).length c7);simp at Z;exact ⟨A7, c7, Z, q1y (qh ho7 (by omega)) E (by decide) _ _, ac.setCell (p := ⟨w2.heap.size, 3, none⟩) (by exact hz2) _⟩
      case rest=>
       obtain⟨A7,c7,BX4,ho4,hb4⟩:=hcut;obtain⟨w4,V⟩:∃wq:World,wq=wc:=⟨_,rfl⟩;subst V;have BZ4:=BZ.next hb4;obtain⟨cX0,cX1,cX2,cX3⟩:=cl4 BX4;obtain⟨M,N,O,R,fZ0,fZ1,fZ2,fZ3⟩:=cf4 BZ4;have ho5:=qmm (qh ho4 (by omega:w.heap.size<=D.heap.size)) BZ4 (by decide) (.int .i64 I) (.slice none 0 0) (.slice none 0 0) (.slice A7 L.length c7);have aa:=zaa (q6m BZ4 (.int .i64 I) (.slice none 0 0) (.slice none 0 0) (.slice A7 L.length c7));have X:=zaa (q3w (q9 HT0.out hb4 rfl) (g:=w.heap.size+1+1) (by omega) (.int .i64 I) (.slice none 0 0) (.slice none 0 0) (.slice A7 L.length c7));have HFO:=zaa (qj7 (K:=I) X.out.size ho5 HFK.out.1 HLB.out);clear ho4 ho5 BX4 BZ4;go_wp2_with fail
       (try simp only[Exit.inBlock,Exit.then])
       refine zas (v:=.tuple #[.agg #[.int .i64 I,.slice none 0 0,.slice none 0 0,.slice A7 L.length c7],.bool true]) ?hr rfl ?_
       case hr=>exact qp rfl _ _ (w.heap.size+1+1) 57 #[.int .i64 I,.slice none 0 0,.slice none 0 0,.slice A7 L.length c7] (0,0) _ _ rfl aa.out zcr rfl (by kernel_rfl) rfl
       exact⟨X.out,.inr ⟨I,L,A7,c7,HM.out,rfl,HFO.out.1,HFO.out.2⟩⟩
theorem qdu (B:Nat) (ds:List Value) (x:LabM) (s:qw) (w:World) (v u:Value) (hB:B<=w.heap.size) (hD:LabD B w x v u) (h':qn.rd w ds s) (c:x.1=true) (hx:AlgP x.2.1) (hln:x.2.2.1.length<=12) (hr:0<=x.2.2.2/\x.2.2.2<=9999) (htr:∀f∈x.2.2.1,q1l x.2.1 f=true) (a b:Nat) (S:s.2.2.2.2.1=(a:Int)) (T:s.2.2.2.2.2=(b:Int)) (C:s.1=3\/s.1=4):
  Calls Tryz.prog 28 #[.agg #[.bool x.1,.int .i64 x.2.1.1,v,u,.int .i64 x.2.2.2],.agg ds.toArray] w (LmE B u w x s):=by
 obtain⟨j,kd,A,hkk⟩:∃(j:Bool) (kd:Int),s.1=kd/\((kd=3/\j=false)\/(kd=4/\j=true)):=C.elim (fun h=>⟨false,3,h,.inl ⟨rfl,rfl⟩⟩) fun h=>⟨true,4,h,.inr ⟨rfl,rfl⟩⟩
 have ae:=fun(F:World) (ds:List Value) (k q:Option Addr) (n y:Nat) (h1:LabD B F x (.slice k x.2.1.2.length n) (.slice q x.2.2.1.length y)) (h2:qn.rd F ds s)=>qi4 B ds x s j kd (by rcases hkk with⟨rfl,rfl⟩|⟨rfl,rfl⟩<;>decide) a b F k q n y h1 h2 hx hln htr A S T
 rcases hkk with⟨rfl,rfl⟩|⟨rfl,rfl⟩
 all_goals
  have D:=h';have hD0:=hD;obtain⟨AL,nL,cL,AR,nR,cR,AV,nV,cV,AS,nS,cS,rfl,pK,pT,pF,pL,pR,pV,pS,pA,pB⟩:=q1f h';obtain⟨css,bls,dss,cls,hPO,O,hap⟩:=hD;obtain⟨k,n,rfl⟩:=qq hPO.2.1;obtain⟨q,y,rfl⟩:=qq O.2.1;have hin:InR x.2.1.1:=⟨by have:=hx.1;omega,by have:=hx.2.1;omega⟩;obtain⟨F,hw0,T0,E,BP,BQ,BZ⟩:=q41 w #[.bool x.1,.int .i64 x.2.1.1,.slice k x.2.1.2.length n,.slice q x.2.2.1.length y,.int .i64 x.2.2.2] #[.int .i64 s.1,.string s.2.1,.int .i64 s.2.2.1.1,.slice AL nL cL,.slice AR nR cR,.slice AV nV cV,.slice AS nS cS,.int .i64 s.2.2.2.2.1,.int .i64 s.2.2.2.2.2] #[.bool false,.int .i64 0,.slice none 0 0,.slice none 0 0,.int .i64 0] 27 59 27;have HW0:=zaa hw0;have HT0:=zaa T0;have hs0:F.heap.size=w.heap.size+3:=E;have HOP:=zaa c;have HAX:=zaa hx;have ac:Hid (LabD B F x (.slice k x.2.1.2.length n) (.slice q x.2.2.1.length y)):=hD0.next T0;have HNG:Hid (w.heap.size+1+1∉obl (.slice q x.2.2.1.length y)):=fun h=>by have:=(O.2.2.2 _ (zba _ h)).2;omega
  obtain⟨z,J,K,M,N⟩:=cl5 BP;obtain⟨ag,cQ1,cQ2,cQ3,cQ4,cQ5,cQ6,cQ7,cQ8⟩:=cl9 BQ;rw[c]at z;have H:Hid (makM x s=(twoF x s.1 (a:Int) (b:Int)).map (addF x)):=by
   show _=_
   unfold makM;rw[zaj (by rw[A];decide),zao (by rw[A];decide),S,T]
  have af:=zaa (ae F _ k q n y ac.out (qn.stab D T0.block));rw[A]at H;rw[c,A]at af;rw[A]at ag;have HK:=zaa A;clear A S T ae C;clear hw0 E h' D hPO O hap T0 pK pT pF pL pR pV pS pA pB htr hD0 c
  go_enter Tryz.func28,zf8
  go_upto_region 1 with fail;rw[<-HW0.out];go_wp2_with fail;refine af.out.mono ?_;rintro e V ⟨Q,R⟩;have T1:=q9 HT0.out Q rfl;have r:=BZ.next Q
  rcases R with⟨hn,rfl⟩|⟨kf,L,A7,c7,hs,rfl,hof,hif⟩
  .have HM:Hid (makM x s=none):=H.out.trans (by rw[hn];rfl)
   obtain⟨Z,m⟩:∃wb,Hid (wb=V.alloc (.cells #[.int .i64 0,.slice none 0 0,.slice none 0 0,.slice none 0 0] 57)):=⟨_,zaa rfl⟩;have d:Below V.heap.size V Z:=by rw[m.out];exact qm _ _
   have T2:=q9 T1 d rfl;have l:=r.next d;clear hn r T1;go_upto_region 19 with fail;rw[<-m.out];have G:=zaa (q18 l (.bool false) (.int .i64 0) (.slice none 0 0) (.slice none 0 0) (.int .i64 0));have I:=zaa (BelO.of (u:=.slice q x.2.2.1.length y) (q10 (T2) (g:=w.heap.size+1+1) (by omega) (.bool false) (.int .i64 0) (.slice none 0 0) (.slice none 0 0) (.int .i64 0)) hB);obtain⟨cZ0,cZ1,cZ2,cZ3,cZ4,fZ0,fZ1,fZ2,fZ3,fZ4⟩:=cf5 l;go_wp2_with fail
   (try simp only[Exit.inBlock,Exit.then])
   refine zas (v:=.tuple #[.agg #[.bool false,.int .i64 0,.slice none 0 0,.slice none 0 0,.int .i64 0],.bool false]) ?hr rfl ?_
   case hr=>exact qp rfl _ _ (w.heap.size+1+1) 27 #[.bool false,.int .i64 0,.slice none 0 0,.slice none 0 0,.int .i64 0] (0,0) _ _ rfl G.out zbk rfl (by kernel_rfl) rfl
   exact⟨I.out,Or.inl ⟨HM.out,rfl⟩⟩
  .obtain⟨Z,m⟩:∃wb,Hid (wb=V.alloc (.cells #[.int .i64 kf,.slice none 0 0,.slice none 0 0,.slice A7 L.length c7] 57)):=⟨_,zaa rfl⟩
   have d:Below V.heap.size V Z:=by rw[m.out];exact qm _ _
   have aa:Blk Z V.heap.size 57 #[.int .i64 kf,.slice none 0 0,.slice none 0 0,.slice A7 L.length c7]:=by rw[m.out];exact Blk.new _ _ _
   have T2:=q9 T1 d rfl;have p:=q9 Q d rfl;have hz12:=p.size;have l:=r.next d;obtain⟨Y,HY⟩:∃Y,Hid (addF x (kf,([], []),L)=Y):=⟨_,zaa rfl⟩;have i:=qb7 B F Z x (.slice k x.2.1.2.length n) (.slice q x.2.2.1.length y) (kf,([], []),L) none none A7 0 0 0 0 L.length c7 _ (by omega) ac.out p (Sh.onext hof d) (hif.mono (zad _) d.size) (by omega);rw[HY.out,HOP.out]at i;have i:=zaa i;have HM2:Hid (makM x s=some Y):=H.out.trans (by rw[hs];show some (addF x _)=_;rw[HY.out]);have U:=(qiu x (kf,([], []),L) (.bool true)).2.2;rw[HY.out]at U;have HOK:Hid ((decide ((Y.2.2.1.length:Int)<=12) &&decide (Y.2.2.2<=9999))=decide ((Y.2.2.1.length:Int)<=12)):=by show _=_;rw[U,zbm hr.2,Bool.and_true]
   obtain⟨cY0,cY1,cY2,cY3⟩:=cl4 aa;have zkk:=kk5 p z J K M N;clear z J K M N;obtain⟨z,J,K,M,N⟩:=zkk;have hzz:w.heap.size+1+1<Z.heap.size:=l.lt;have ab:=zaa l;have ad:=zaa T2;clear hs hof hif r T1 U aa l T2 ag cQ1 cQ2 cQ3 cQ4 cQ5 cQ6 cQ7 cQ8;go_upto_region 19 with fail;rw[<-m.out];go_wp2_with fail;refine i.out.mono ?_;rintro e w7 ⟨u7,rfl,o,hB7,P⟩;obtain⟨A9,c9,W,X,-,rfl,-⟩:=o.w.slices;have t:Blk w7 (w.heap.size+1+1) 27 #[.bool false,.int .i64 0,.slice none 0 0,.slice none 0 0,.int .i64 0]:=(P _ hzz HNG.out).trans ab.out;have HLX:=zaa (o.set5 t (.bool Y.1) (.int .i64 Y.2.1.1) (.slice k x.2.1.2.length n) (.slice W Y.2.2.1.length X) (.int .i64 Y.2.2.2));have G:=zaa (q18 t (.bool Y.1) (.int .i64 Y.2.1.1) (.slice k x.2.1.2.length n) (.slice W Y.2.2.1.length X) (.int .i64 Y.2.2.2));have I:=zaa (BelO.set5 (BelO.step (BelO.of ad.out hB) hB7 ad.out.size P) (g:=w.heap.size+1+1) (by omega) hB (.bool Y.1) (.int .i64 Y.2.1.1) (.slice k x.2.1.2.length n) (.slice W Y.2.2.1.length X) (.int .i64 Y.2.2.2));obtain⟨cZ0,cZ1,cZ2,cZ3,cZ4,fZ0,fZ1,fZ2,fZ3,fZ4⟩:=cf5 t;clear t o hB7 P;go_wp2_with fail
   (try simp only[Exit.inBlock,Exit.then])
   refine zas (v:=.tuple #[.agg #[.bool Y.1,.int .i64 Y.2.1.1,.slice k x.2.1.2.length n,.slice W Y.2.2.1.length X,.int .i64 Y.2.2.2],.bool (decide ((Y.2.2.1.length:Int)<=12))]) ?hr rfl ?_
   case hr=>exact qp rfl _ _ (w.heap.size+1+1) 27 #[.bool Y.1,.int .i64 Y.2.1.1,.slice k x.2.1.2.length n,.slice W Y.2.2.1.length X,.int .i64 Y.2.2.2] (0,0) _ _ rfl G.out zbk rfl (by kernel_rfl) rfl
   exact⟨I.out,ze1 ⟨Y,.slice k x.2.1.2.length n,.slice W Y.2.2.1.length X,HM2.out,by show _=Ending.returned (.tuple #[_,.bool (decide ((Y.2.2.1.length:Int)<=12) &&decide (Y.2.2.2<=9999))]);rw[HOK.out],HLX.out⟩⟩
theorem q1z {P:Program} (w:World) {ops:Array Oper} {o:Oper} {a:Act} {K:Act->World->Prop} {Q:Exit->Act->World->Prop} {E:Prop} (C:o.guard=none) (s x:Operand) (t e:TypeId)
  (J:o.op=.call { callee:=.builtin .append,args:= #[s,x],argTypes:= #[t,t] }) (z:Value) (size bytes:Nat)
  (M:P.underlying t=some (.slice e)) (hi:(P.info? e).map (fun i=>(i.zero,i.size,i.bytes))=some (some z,size,bytes)) (F:z.cells.size=size) (y:bytes<=128) (D:0<size)
  (base n c:Nat) (A:Option Addr) (xs:List Value) (L:a.eval s=.slice A n c) (p:w.ownsRow base e size (.slice A n c) n xs)
  (v:Addr) (m d:Nat) (b:List Value) (O:a.eval x=.slice (some v) m d) (I:b.length=m*size) (q:∀j u,b[j]?=some u->w.cell? (v.add j)=some u) (G:∀u∈b,u.oneCell'=true) (S:n+m<=1099511627) (f:base<=w.heap.size)
  (hK:∀A' c' w',w'.ownsRow base e size (.slice A' (n+m) c') (n+m) (xs++b)->w.grownBy w' (Value.slice A n c).ownBlock->Below base w w'->K (a.put o.dst (.slice A' (n+m) c')) w'):
  if Region.wanted o (yielded ops a.tmps)=true then Oper.wp P o a w K Q else E:=by
 have N:Region.wanted o (yielded ops a.tmps)=true:=by simp[Region.wanted,C]
 rw[zao N];obtain⟨i,hi,R,r,B⟩:=info_parts hi;have l:(n+m)*bytes<=140737488355328:=zbb (zep (n+m) y) (by omega);refine wp_append_own w s x t J base e i z size bytes M hi R r B F D (.slice A n c) n xs L p v m d b O I q G (by unfold maxLen;omega) l f ?_;intro T w' h g _;obtain⟨A',c',rfl⟩:=qq h;exact hK A' c' w' h g ((zab base w).grown g f (fun k H=>(p.lt k H).1))
theorem qes {P:Program} (w:World) {ops:Array Oper} {o:Oper} {a:Act} {K:Act->World->Prop} {Q:Exit->Act->World->Prop} {E:Prop} (y:o.guard=none) (s x:Operand) (t e:TypeId)
  (L:o.op=.call { callee:=.builtin .append,args:= #[s,x],argTypes:= #[t,t] }) (z:Value) (bytes size:Nat)
  (O:P.underlying t=some (.slice e)) (hi:(P.info? e).map (fun i=>(i.zero,i.size,i.bytes))=some (some z,size,bytes)) (C:z.cells.size=size) (q:bytes<=128)
  (A:Option Addr) (n c:Nat) (g:List Value) (N:a.eval s=.slice A n c) (B:g.length=n*size) (G:(A=none/\n=0/\c=0)\/∃b,A=some b/\∀j v,g[j]?=some v->w.cell? (b.add j)=some v)
  (p:Addr) (m d:Nat) (f:List Value) (S:a.eval x=.slice (some p) m d) (I:f.length=m*size) (k:∀j u,f[j]?=some u->w.cell? (p.add j)=some u) (J:0<m) (H:c<n+m) (U:n+m<=1099511627776)
  (hK:∀A' c' w',w'.ownsRow w.heap.size e size (.slice A' (n+m) c') (n+m) (g++f)->Below w.heap.size w w'->K (a.put o.dst (.slice A' (n+m) c')) w'):
  if Region.wanted o (yielded ops a.tmps)=true then Oper.wp P o a w K Q else E:=by
 have R:Region.wanted o (yielded ops a.tmps)=true:=by simp[Region.wanted,y]
 rw[zao R];obtain⟨i,hi,T,l,r⟩:=info_parts hi;have h:(n+m)*bytes<=140737488355328:=zbb (zep (n+m) q) (by omega);obtain⟨V,w',M,D,F⟩:=qaw (P:=P) w t o.type e i z size bytes O hi T l r C A n c g B G p m d f I k J H (by unfold maxLen;omega) h;obtain⟨A',c',rfl⟩:=qq D;unfold Oper.wp execOp;simp only[L,resolve,invoke,builtin,Sem.run_bind,Sem.run_pure,Result.andThen_ok,List.map_toArray,zcy,List.map_nil,N,S,M];exact hK A' c' w' D F
theorem qeq {P:Program} (w:World) {ops:Array Oper} {o:Oper} {a:Act} {K:Act->World->Prop} {Q:Exit->Act->World->Prop} {E:Prop} (f:o.guard=none) (s x:Operand) (t e:TypeId)
  (p:o.op=.call { callee:=.builtin .append,args:= #[s,x],argTypes:= #[t,t] }) (z:Value) (bytes size:Nat)
  (l:P.underlying t=some (.slice e)) (hi:(P.info? e).map (fun i=>(i.zero,i.size,i.bytes))=some (some z,size,bytes))
  (A:Option Addr) (n c:Nat) (g:n<=c) (r:a.eval s=.slice A n c) (b:Addr) (d:Nat) (y:a.eval x=.slice (some b) 0 d)
  (hK:K (a.put o.dst (.slice A n c)) w):
  if Region.wanted o (yielded ops a.tmps)=true then Oper.wp P o a w K Q else E:=by
 have v:Region.wanted o (yielded ops a.tmps)=true:=by simp[Region.wanted,f]
 rw[zao v];obtain⟨i,hi,B,k,m⟩:=info_parts hi;have q:=run_append_nothing (P:=P) w t t o.type e i l hi A n c g (.slice (some b) 0 d) (Src.ofSlice w l b 0 d [] (by simp) (fun j u h=>by simp at h) (fun u h=>by cases h));unfold Oper.wp execOp;simp only[p,resolve,invoke,builtin,Sem.run_bind,Sem.run_pure,Result.andThen_ok,List.map_toArray,zcy,List.map_nil,r,y,q];exact hK
theorem qi1 (cs:List Value) (x:OpM) (w:World) (h:shOp.rd w cs x) (hn:x.2.length<=1048576):
  Calls Tryz.prog 123 #[.agg cs.toArray] w (ToE shOp w x):=by
 obtain⟨B,m,d,rfl,L,F⟩:=rdOp h;have Y:=F.len;obtain⟨q,k,t,j,H,I⟩:=q1p w #[.int .i64 x.1,.slice B m d] #[.int .i64 0,.slice none 0 0] 122 122;have s:=zaa k;have M:=zaa F.bounds;have n:=F.next qd t;have l:q.heap.size=w.heap.size+2:=j;have N:=zaa l;clear k j l;obtain⟨P,Q⟩:=cl2 H;obtain⟨R,S,T,U⟩:=cf2 I
 go_enter Tryz.func123,Tryz.ntmps123
 go_upto_region 1 with fail;rw[<-s.out]
 go_region_with (go_at_call 110;refine(q2h _ _ _ x.2 _ (by first|exact n|exact n.drew qd) (by omega)).mono ?_;rintro e G ⟨a,c,rfl,K,D⟩;have o:=q9 (zai (zab q.heap.size q)) D rfl;have f:=H.next o;have b:=I.next o;have u:=f.cell 0;have y:=f.cell 1;have z:=b.cell 0;have A:=b.cell 1;have V:=b.frozen 0;have W:=b.frozen 1;simp at u y z A)
 all_goals
  have O:=q9 t o rfl;have Z:=o.size;have i:=q1q K b (by decide);have J:=q5n (q5n K (p:=⟨w.heap.size+1,0,none⟩) i (.int .i64 x.1)) (p:=⟨w.heap.size+1,1,none⟩) i (.slice a m c);have r:Blk ((G.setCell ⟨w.heap.size+1,0,none⟩ (.int .i64 x.1)).setCell ⟨w.heap.size+1,1,none⟩ (.slice a m c)) (w.heap.size+1) 122 #[.int .i64 x.1,.slice a m c]:=by simpa using((b.set_ 0 (.int .i64 x.1)).set_ 1 (.slice a m c))
  have E:=q76 J;have C:((G.setCell ⟨w.heap.size+1,0,none⟩ (.int .i64 x.1)).setCell ⟨w.heap.size+1,1,none⟩ (.slice a m c)).ownsRow 0 3 1 (.slice a m c) x.2.length (ints x.2):=by rw[Y];exact qh J (zah _)
  have X:Below w.heap.size w ((G.setCell ⟨w.heap.size+1,0,none⟩ (.int .i64 x.1)).setCell ⟨w.heap.size+1,1,none⟩ (.slice a m c)):=(O.setCell (by show _<=_;simp) _).setCell (by show _<=_;simp) _;have g:w.heap.size<=q.drew.heap.size:=t.size
  go_wp2
  (try simp only[Exit.inBlock,Exit.then])
  refine zas (v:=.agg #[.int .i64 x.1,.slice a m c]) (zb3 rfl _ _ (w.heap.size+1) 122 #[.int .i64 x.1,.slice a m c] (0,0) _ (by simp) r Tryz.underlying122 rfl (by kernel_rfl)) rfl ?_;exact⟨[.int .i64 x.1,.slice a m c],obl (.slice a m c),rfl,⟨[.int .i64 x.1], [.slice a m c], [],obl (.slice a m c),rfl,rfl,⟨_,rfl,⟨rfl,L.1,L.2⟩,rfl⟩,⟨_,rfl,C,M.out,rfl⟩⟩,E.mono g (zad _),X⟩
theorem qjn (cs:List Value) (x:qi) (w:World) (h:qf.rd w cs x) (hn:qf.cnt x<=1048576):
  Calls Tryz.prog 71 #[.agg cs.toArray] w (AlgE w x):=by
 obtain⟨B,m,d,rfl,qs,qo⟩:=qv h;have hm:=qo.len;have hcn:0+(x.2.length+cntS shOp.cnt x.2)<=1048576:=hn;have HCN:=zaa hcn;have hle:m<=1048576:=by omega
 obtain⟨u,N,T0,hs0,BP,D,O⟩:=q7k w #[.int .i64 x.1,.slice B m d] #[.int .i64 0,.slice none 0 0] #[.int .i64 x.1,.slice none 0 0] 24 24;have HW0:Hid (_=u):=N.symm;have l:=zaa hs0;have ab:=((Blk.new w 24 #[.int .i64 x.1,.slice B m d]).alloc (.cells #[.int .i64 0,.slice none 0 0] 24)).cell 0;have n:=BP.cell 1;simp at ab n;rw[N]at n;have hP0:PO u.heap.size u (.slice none 0 0) (x.2.take 0) [] []:=PO.nil _ _;clear N hs0 hcn
 go_enter Tryz.func71,Tryz.ntmps71
 go_wp2_with fail;clear ab n
 go_loopw [4] (fun i wr=>∃(k:Nat) (v:Value) (q:List (List Value)) (bls:List (List Nat)),k<=m/\i=.int .i64 k/\Blk wr w.heap.size 24 #[.int .i64 x.1,.slice B m d]/\Blk wr (w.heap.size+1+1) 24 #[.int .i64 x.1,v]/\Blk wr (w.heap.size+1) 24 #[.int .i64 0,.slice none 0 0]/\PO u.heap.size wr v (x.2.take k) q bls/\Below w.heap.size w wr) (fun i _=>m - (intOf i).toNat)
 case atStart=>
  rw[HW0.out];exact⟨0,_,_,_,zah _,rfl,BP,O,D,hP0,T0⟩
 case round=>
  clear hP0 O D BP;obtain⟨k,v,q,bls,hk,rfl,T,O,D,a,hT⟩:=hrel;have n:=T.cell 1;simp at n
  by_cases hlt:k<m
  .have hk0:(0:Int)<=(k:Int):=by omega
   have hk1:(k:Int)<(m:Int):=by omega
   obtain⟨b,o,vs,y,rfl,-,hc,hr,-,hx⟩:=(qo.next hT).at hlt;obtain⟨B',m',d',rfl,qa,qt⟩:=rdOp hr;have cc0:wr.cell? ⟨b,o+k*2,none⟩=some (.int .i64 y.1):=hc 0 _ rfl;have cc1:wr.cell? ⟨b,o+k*2+1,none⟩=some (.slice B' m' d'):=hc 1 _ rfl;have HTS:Hid (x.2.take (k+1)=x.2.take k++ [y]):=q3i hx;have hcy:y.2.length<=1048576:=by
    have h1:=q4e (f:=shOp.cnt) (zaf hx);have h2:=HCN.out;have h3:shOp.cnt y=0+y.2.length:=rfl;omega
   obtain⟨L,HL⟩:∃L,Hid (x.2.take k=L):=⟨_,rfl⟩;have HLK:Hid (L.length=k):=by show _=_;rw[<-HL.out,za8];omega
   rw[HL.out]at a;have X:Hid (x.2.take (k+1)=L++ [y]):=by show _=_;rw[HTS.out,HL.out]
   obtain⟨A,c,rfl⟩:=qq a.2.1;obtain⟨P,hw5⟩:∃P:World,P=wr:=⟨_,rfl⟩;subst hw5;have J:=a;have hr5:=hr;have z:=O;have BR5:=D;have hT5:=hT;have cO5:=z.cell 1;have fO5:=z.frozen 1;simp at cO5;have hwz0:u.heap.size<=P.heap.size:=by
    rcases J.2.1.2 with⟨h1,h2⟩|⟨g9,_,_,h1,h2,_⟩
    .have:=hT5.size
     have h9:=z.lt;have h8:=l.out;omega
    .injection h1 with h1
     have:=J.2.2.2 g9 (zba _ (by rw[h1];simp[obl,Value.ownBlock]));omega
   clear hc hx hr a;go_upto_region 5 with fail
   go_region_law (first
    |(refine qer w6 rfl (.tmp 16) (.tmp 23) 22 122 rfl (.agg #[.int .i64 0,.slice none 0 0]) 32 ze4 q6q rfl (by decide) u.heap.size L.length c A q.flatten (by rfl) t (.int .i64 y.1) (.slice B6 m6 d6) rfl rfl (by rfl) (by have:=HLK.out;omega) (by omega) ?_;intro F I w8 s r hb8;have C:=j.grown r (fun e=>q1q t j (by decide) e.symm);have U:=H.grown r (fun e=>q1q t H (by decide) e.symm);have R:=G.grown r (fun e=>q1q t G (by decide) e.symm);have aa:=C.cell 1;have fO8:=C.frozen 1;simp at aa)
    |(go_simp;go_at_call 123;refine(qi1 [.int .i64 y.1,.slice B' m' d'] y _ (by first|exact hr5|exact shOp.stab hr5 (fun _ _=>rfl)) hcy).mono ?_;rintro e w6 ⟨ds,bk,rfl,M,hiv,hbn⟩;obtain⟨B6,m6,d6,rfl,-,-⟩:=rdOp (shOp.ord M);have K:=q9 (zai (zab P.heap.size P)) hbn rfl;have hiv6:Iv P.heap.size w6.heap.size bk:=hiv;obtain⟨t,W⟩:=J.push K hwz0 M hiv6;have hsz6:=K.size;have j:=z.next K;have H:=BR5.next K;have G:=T.next K;have Z:=j.cell 1;have fO6:=j.frozen 1;have E:=(j.alloc (.cells #[.int .i64 y.1,.slice B6 m6 d6] 122)).cell 1;simp at Z E))
   all_goals
    have Y:=(W s r).far (p:=⟨w.heap.size+1+1,1,none⟩) (by have:=l.out;show w.heap.size+1+1<u.heap.size;omega) (.slice F (L.length+1) I);have hT8:=((q9 hT5 K rfl).trans (hb8.mono (by have:=l.out;omega))).setCell (p:=⟨w.heap.size+1+1,1,none⟩) (by show _<=_;simp;try omega) (.slice F (L.length+1) I);have Q:Blk (w8.setCell ⟨w.heap.size+1+1,1,none⟩ (.slice F (L.length+1) I)) (w.heap.size+1+1) 24 #[.int .i64 x.1,.slice F (L.length+1) I]:=by simpa using C.set_ 1 (.slice F (L.length+1) I)
    have V:=U.far (p:=⟨w.heap.size+1+1,1,none⟩) (by simp) (.slice F (L.length+1) I);have S:=R.far (p:=⟨w.heap.size+1+1,1,none⟩) (by show w.heap.size≠w.heap.size+1+1;omega) (.slice F (L.length+1) I);have HFP:=zaa S;have g:=zaa (zap Q (zap V (zap Y hT8)));clear S R G Q V Y hT8 Z fO6 E aa fO8 s r hb8 C U j H t W M hbn K;go_wp2_with fail
    go_roundw
    case rel=>exact⟨k+1,_,_,_,by omega,by go_num,HFP.out,g.out.1,g.out.2.1,by rw[X.out];exact g.out.2.2.1,g.out.2.2.2⟩
    case measure=>simp[intOf];omega
  .obtain rfl:k=m:=by omega
   have hlt':¬(k:Int)<(k:Int):=by omega
   have hP:PO u.heap.size wr v x.2 q bls:=by rw[zaq (by omega)]at a;exact a
   obtain⟨A,c,hv⟩:=qq hP.2.1;rw[hm]at hv;subst hv;have hlow:w.heap.size<=u.heap.size:=by have:=l.out;omega
   have hPF:=((hP.far (p:=⟨w.heap.size+1,0,none⟩) (by have:=l.out;show w.heap.size+1<u.heap.size;omega) (.int .i64 x.1)).far (p:=⟨w.heap.size+1,1,none⟩) (by have:=l.out;show w.heap.size+1<u.heap.size;omega) (.slice A k c)).mono hlow;have hTF:=(hT.setCell (p:=⟨w.heap.size+1,0,none⟩) (by show _<=_;simp) (.int .i64 x.1)).setCell (p:=⟨w.heap.size+1,1,none⟩) (by show _<=_;simp) (.slice A k c);have cO0:=O.cell 0;have cO1:=O.cell 1;have cR0:=D.cell 0;have cR1:=D.cell 1;have fR0:=D.frozen 0;have fR1:=D.frozen 1;have BRR:Blk ((wr.setCell ⟨w.heap.size+1,0,none⟩ (.int .i64 x.1)).setCell ⟨w.heap.size+1,1,none⟩ (.slice A k c)) (w.heap.size+1) 24 #[.int .i64 x.1,.slice A k c]:=by simpa using((D.set_ 0 (.int .i64 x.1)).set_ 1 (.slice A k c))
   have HPF:=zaa hPF;simp at cO0 cO1 cR0 cR1;clear hP hPF a;go_wp2_with fail
   (try simp only[Exit.inBlock,Exit.then])
   refine zas (v:=.agg #[.int .i64 x.1,.slice A k c]) (zb3 rfl _ _ (w.heap.size+1) 24 #[.int .i64 x.1,.slice A k c] (0,0) _ (by simp) BRR zb7 rfl (by kernel_rfl)) rfl ?_;exact⟨_,q,bls,rfl,HPF.out,hTF⟩
end Go.Proofs.YtfnmkbpogbekpaaGreatDoor
