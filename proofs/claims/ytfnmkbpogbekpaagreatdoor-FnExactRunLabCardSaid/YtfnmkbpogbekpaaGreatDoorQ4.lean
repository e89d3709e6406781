import Derived.Test.YtfnmkbpogbekpaaGreatDoorQ3
import Derived.Lib.AppendIntMem
import Derived.Deep.RegionWith
import Derived.Deep.DeepFit
import Derived.Lib.ItoaNum
import Derived.Lib.ItoaMem
import Derived.Lib.Strings
import Derived.Sort.Grow
import Derived.IntWalk
import Derived.Laws.Concat
import Derived.Lib.Builder
import Derived.Lib.OthersKept
import Derived.Lib.Split
import Derived.Lib.AtoiAll
import Derived.Laws.OwnMore
set_option linter.unusedVariables false
set_option linter.unusedSimpArgs false
set_option maxRecDepth 100000
set_option maxHeartbeats 32000000
namespace Go.Proofs.YtfnmkbpogbekpaaGreatDoor
open Go.RowKit
def hM (V:List Int) (y:Nat):Bool:=hasI (y:Int) V
theorem q58 {V:List Int} {y:Nat}:hM V y=true↔(y:Int)∈V:=q3m
theorem qa7 {n:Nat} {M:Nat->Bool} {y:Nat}:hM (q1m n M) y=true↔y<n/\M y=true:=by
 rw[q58,q40]
 exact⟨fun⟨z,a,b,e⟩=>by rw[show y=z by omega];exact⟨a,b⟩,fun h=>⟨y,h.1,h.2,rfl⟩⟩
theorem inM {n:Nat} {V:List Int}:LeM n (gB (inL n V)) (hM V):=fun y a h=>by rw[qcn a]at h;exact h
theorem inM' {n:Nat} {V:List Int}:LeM n (hM V) (gB (inL n V)):=fun y a h=>by rw[qcn a];exact h
theorem qp9 {n:Nat} {V W:List Int} (d:InL n V) (e:InL n W) (b:V.Pairwise (· < ·)) (c:W.Pairwise (· < ·)) (h:∀y:Nat,y<n->(hM V y=true↔hM W y=true)):V=W:=by
 refine q9w b c fun v=>?_
 by_cases hv:0<=v/\v<=(n:Int) - 1
 .have:=h v.toNat (by omega)
  rw[q58,q58,zen hv.1]at this;exact this
 .exact⟨fun a=>absurd (d v a) hv,fun a=>absurd (e v a) hv⟩
theorem q8x {n:Nat} {ops:List OpM} {V:List Int} (m:0<n) (c:∀o∈ops,OpP n o):subB n ops V=true↔InL n V/\V.Pairwise (· < ·)/\q9u n ops (hM V):=by
 unfold subB;rw[zal,zal,zax,q3e,q39];constructor
 .rintro⟨⟨a,b⟩,g⟩
  refine⟨a,b,fun o k i l hd=>?_⟩;have e:=(qkr a (q39.2 b)).1 g;have f:∀y,hM V y=true↔y<n/\clB n ops (gB (inL n V)) y=true:=fun y=>by
   conv=>lhs;rw[<-e]
   exact qa7
  exact(f _).2 ⟨(q65 (c o k).2.2.2 m i).1,q6v n ops _ o k i l fun d j=>((f d).1 (hd d j)).2⟩
 .rintro⟨a,b,g⟩
  refine⟨⟨a,b⟩,(qkr a (q39.2 b)).2 (qp9 q3h a (q2t _ _) b fun y p=>⟨fun h=>?_,fun h=>q58.2 (qkt a _ (q58.1 h))⟩)⟩;exact qdu g inM y p (qa7.1 h).2
theorem qf4 {n:Nat} {s V:List Int} (a:PermL n s) (f:InL n V) {x:Nat} (b:x<n):hM (q1m s.length fun y=>hasI (y:Int) (comp V s)) (nmAt s x)=true↔hM V x=true:=by
 rw[qa7,a.1,q3m,q58];constructor
 .rintro⟨-,h⟩
  obtain⟨v,d,e⟩:=zbe.1 h;have c:=f v d;rw[q27 a b]at e;have:=q6f a c.1 c.2 (by omega) (by omega) e;rw[<-this];exact d
 .intro h
  exact⟨q37 a b,zbe.2 ⟨_,h,(q27 a b).symm⟩⟩
theorem qrw {n:Nat} {s V W:List Int} (c:PermL n s) (a:InL n V) (b:InL n W) (e:V.Pairwise (· < ·)) (f:W.Pairwise (· < ·)) (h:(q1m s.length fun y=>hasI (y:Int) (comp V s))=q1m s.length fun y=>hasI (y:Int) (comp W s)):V=W:=
 qp9 a b e f fun y d=>by rw[<-qf4 c a d,<-qf4 c b d,h]
theorem qr6 {n:Nat} {s:List Int} {ops:List OpM} {V:List Int} (e:0<n) (f:PermL n s) (a:∀o∈ops,OpP n o) (h:subB n ops V=true):subB n (ops.map (q2l n s)) (q1m s.length fun y=>hasI (y:Int) (comp V s))=true:=by
 obtain⟨m,x,t⟩:=(q8x e a).1 h;have b:∀o∈ops.map (q2l n s),OpP n o:=fun o g=>by
  obtain⟨w,l,rfl⟩:=zbe.1 g;exact q4m f (a w l)
 refine(q8x e b).2 ⟨by rw[f.1];exact q3h,q2t _ _,fun z k j v hd=>?_⟩;obtain⟨o,g,i,u,q,-,p,r⟩:=qpk e f a k v;rw[r,qf4 f m (q65 (a o g).2.2.2 e i).1];refine t o g i u fun d c=>(qf4 f m (q20 e c)).1 (hd _ ?_)
 rw[q,p];exact zbe.2 ⟨d,c,rfl⟩
theorem qhi {n:Nat} {M:Nat->Bool}:(q1m n M).length=n↔∀y,y<n->M y=true:=by
 unfold q1m;rw[zbz]
 conv=>lhs;rhs;rw[<-List.length_range (n:=n)]
 rw[List.length_filter_eq_length_iff];exact⟨fun h y a=>h y (zdd.2 a),fun h y a=>h y (zdd.1 a)⟩
theorem qqa {n:Nat} {s:List Int} {ops:List OpM} {V:List Int} (c:0<n) (a:PermL n s) (f:∀o∈ops,OpP n o) (h:genB n ops V=true):genB n (ops.map (q2l n s)) (q1m s.length fun y=>hasI (y:Int) (comp V s))=true:=by
 unfold genB at h⊢;rw[zal,zal,zax,q3e,q39]at h⊢;obtain⟨⟨r,C⟩,t⟩:=h;refine⟨⟨by rw[a.1];exact q3h,q2t _ _⟩,qhi.2 fun y B=>q2h.2 fun M hM v=>?_⟩;obtain⟨x,A,rfl⟩:=a.surj B;have u:=qhi.1 t x A;refine q2h.1 u (fun z=>M (nmAt s z)) (fun o p i m hd=>?_) fun z b w=>v _ (q37 a b) (inM' _ (q37 a b) ((qf4 a r b).2 (inM _ b w)))
 have j:=f o p;have k:=qbf c a j (l:=digs n o.1.toNat i) (q1t _ _ _) (fun d hd=>q20 c hd);rw[j.2.2.1]at m;rw[q4r c m]at k;show M (nmAt s (nmAt o.2 i))=true
 rw[<-k];refine hM _ (zbe.2 ⟨o,p,rfl⟩) _ ?_ fun d g=>?_
 .rw[(q4m a j).2.2.1]
  exact qim c a i
 .have q:digs n o.1.toNat (idx n ((digs n o.1.toNat i).map (nmAt s)))=(digs n o.1.toNat i).map (nmAt s):=q4q c _ _ (by rw[zbz,q1t]) fun d hd=>by
   obtain⟨z,b,rfl⟩:=zbe.1 hd;exact q37 a (q20 c b)
  have e:d∈digs n o.1.toNat (idx n ((digs n o.1.toNat i).map (nmAt s))):=g;rw[q]at e;obtain⟨z,b,rfl⟩:=zbe.1 e;exact hd z b
theorem qek (V:List Int):∀(l:List Int) {v:Int},v∈q2d V l↔v∈l/\v∈V
 | [],v=>⟨fun h=>(by cases h),fun h=>(by cases h.1)⟩
 | a :: l, v => by
   have ih := qek V l (v := v);rw [q2d]
   by_cases ha : hasI a V = true
   . rw [zam ha, zbf, zbf, ih]
     exact ⟨fun h => h.elim (fun e => ⟨.inl e, e ▸ q3m.1 ha⟩) fun h => ⟨.inr h.1, h.2⟩, fun h => h.1.elim .inl fun b => .inr ⟨b, h.2⟩⟩
   . rw [zaj ha, zbf, ih]
     exact ⟨fun h => ⟨.inr h.1, h.2⟩, fun h => ⟨h.1.elim (fun e => absurd (q3m.2 (e ▸ h.2)) ha) id, h.2⟩⟩
theorem qo5 {n:Nat} {ops:List OpM} {V W:List Int} (e:0<n) (a:∀o∈ops,OpP n o) (h:subB n ops V=true) (j:subB n ops W=true):subB n ops (q2d V W)=true:=by
 obtain⟨k,r,l⟩:=(q8x e a).1 h;obtain⟨s,p,q⟩:=(q8x e a).1 j;have c:∀ {v:Int},v∈q2d V W↔v∈W/\v∈V:=qek V W;refine(q8x e a).2 ⟨fun v m=>k v (c.1 m).2,p.sublist (qan V W),fun o g i f hd=>q58.2 (c.2 ⟨q58.1 (q o g i f fun d b=>q58.2 (c.1 (q58.1 (hd d b))).1),q58.1 (l o g i f fun d b=>q58.2 (c.1 (q58.1 (hd d b))).2)⟩)⟩
theorem qqb {n:Nat} {ops:List OpM} {S:List Int} (c:0<n) (a:∀o∈ops,OpP n o):subB n ops (genL n ops S)=true:=by
 refine(q8x c a).2 ⟨q3h,q2t _ _,fun o e i f hd=>qa7.2 ⟨(q65 (a o e).2.2.2 c i).1,q6v n ops _ o e i f fun d b=>(qa7.1 (hd d b)).2⟩⟩
theorem qmh {n:Nat} {l:List Nat} (h:∀d∈l,d<n) {x:Nat} (a:x<n) (j:Nat):∀d∈l.set j x,d<n:=fun d hd=>by
 rcases zdk hd with hd|rfl
 .exact h d hd
 .exact a
theorem q67 {n:Nat} {ops:List OpM} {p:List Int} (r:0<n) (b:∀o∈ops,OpP n o) (P:ParP n p):q4h n ops p↔Cpt n ops (rl p):=by
 constructor
 .intro h o f l q hd j m x y A B w
  have g:∀z,z<n->nmAt p (nmAt o.2 (idx n (l.set j z)))=nmAt p (nmAt o.2 (idx n (l.set j (nmAt p z)))):=fun z C=>by
   have c:=qmh hd C j;have s:(l.set j z).length=o.1.toNat:=by rw[zcg];exact q
   have k:=h o f j m (idx n (l.set j z)) (by rw[(b o f).2.2.1];exact q7d _ _ s c);unfold PrE repI at k;rw[q4q r _ _ s c,List.set_set]at k;rw[k,zak,zeu (by omega)];rfl
  show nmAt p _=nmAt p _
  rw[g x A,g y B,show nmAt p x=nmAt p y from w]
 .intro h o f j m i u
  unfold PrE repI;have q:(digs n o.1.toNat i).length=o.1.toNat:=q1t _ _ _;have hd:∀d∈digs n o.1.toNat i,d<n:=fun d hd=>q20 r hd
  have a:j<(digs n o.1.toNat i).length:=by omega
  have t:(digs n o.1.toNat i).getD j 0<n:=by rw[zak,zae a];exact hd _ (zce a)
  have v:=P.at t;have c:=h o f _ q hd j m ((digs n o.1.toNat i).getD j 0) (nmAt p ((digs n o.1.toNat i).getD j 0)) t (by omega) v.2.2.symm;have e:(digs n o.1.toNat i).set j ((digs n o.1.toNat i).getD j 0)=digs n o.1.toNat i:=by
   rw[zak,zae a];exact List.set_getElem_self a
  rw[e]at c;rw[(b o f).2.2.1]at u;unfold rl at c;rw[q4r r u]at c;exact c
theorem qg3 {q:List Int} {n:Nat} (l:q.length=n) {x y:Nat} (j:x<n) (k:y<n):rl (kerL q) x y↔q[x]?=q[y]?:=by
 have e:∀z,z<n->∃v,q[z]?=some v/\nmAt (kerL q) z=posN q v:=fun z m=>by
  have a:z<q.length:=by omega
  refine⟨q[z],zae a,?_⟩;have:(kerL q)[z]?=some (posN q q[z]:Int):=by unfold kerL;rw[za2,zae a];rfl
  rw[q1d this];simp
 obtain⟨v,b,f⟩:=e x j;obtain⟨u,c,g⟩:=e y k;unfold rl;rw[f,g,b,c];constructor
 .intro h
  have d:=q3j (zaf b);have i:=q3j (zaf c);rw[h]at d;rw[<-d,i]
 .intro h
  injection h with h
  rw[h]
theorem qg2 {q:List Int} {n:Nat} (c:q.length=n):ParP n (kerL q):=by
 refine⟨by rw[q9m];exact c,fun i g=>?_⟩;have a:i<q.length:=by omega
 have e:(kerL q)[i]?=some (posN q q[i]:Int):=by unfold kerL;rw[za2,zae a];rfl
 have d:=q1d e;have h:=q8t (zae a);have f:=q3j (zce a);have b:nmAt (kerL q) i=posN q q[i]:=by rw[d];simp
 refine⟨by rw[zak,e];show(0:Int)<=(posN q q[i]:Int);omega,by omega,?_⟩;exact(qg3 c (by omega) g).2 (by rw[b,f,zae a])
theorem qqv {n:Nat} {p q:List Int} (P:ParP n p) (Q:ParP n q) (h:∀x y,x<n->y<n->(rl p x y↔rl q x y)):p=q:=by
 refine qm4 P Q fun i a=>?_
 have b:=P.at a;have c:=Q.at a;have d:=(h i (nmAt p i) a (by omega)).1 b.2.2.symm;have e:=(h i (nmAt q i) a (by omega)).2 c.2.2.symm;unfold rl at d e;have f:=(P.at (i:=nmAt q i) (by omega)).2.1;have g:=(Q.at (i:=nmAt p i) (by omega)).2.1;omega
theorem qi8 {n:Nat} {s p:List Int} (a:PermL n s) (P:ParP n p) {x y:Nat} (d:x<n) (f:y<n):rl (kerL (comp (inv s.length s) p)) (nmAt s x) (nmAt s y)↔rl p x y:=by
 rw[a.1];have i:(comp (inv n s) p).length=n:=by rw[q1y];exact(q1l a).1
 have e:∀z,z<n->(comp (inv n s) p)[nmAt s z]?=some (nmAt p z:Int):=fun z c=>by
  have g:=q37 a c;obtain⟨v,j,k,b⟩:=(q1l a).at g;rw[qrl a c]at b;subst b;unfold comp;rw[za2,j];show some (nmI p (z:Int))=_
  have:=(P.at c).1;rw[q3q (s:=p) (x:=z) this]
 rw[qg3 i (q37 a d) (q37 a f),e x d,e y f];unfold rl;exact⟨fun h=>by injection h with h;omega,fun h=>by rw[h]⟩
theorem qhq (f:Nat->Nat) (l:List Nat) (j x:Nat):(l.set j x).map f=(l.map f).set j (f x):=by rw[List.map_set]
theorem qnb {n:Nat} {s p:List Int} {ops:List OpM} (e:0<n) (b:PermL n s) (a:∀o∈ops,OpP n o) (h:q2k n ops p=true):q2k n (ops.map (q2l n s)) (kerL (comp (inv s.length s) p))=true:=by
 unfold q2k at h⊢;rw[zal,q2h,q2h]at h⊢;obtain⟨P,i⟩:=h;have d:∀o∈ops.map (q2l n s),OpP n o:=fun o f=>by
  obtain⟨D,r,rfl⟩:=zbe.1 f;exact q4m b (a D r)
 have z:ParP n (kerL (comp (inv s.length s) p)):=qg2 (by rw[q1y,b.1];exact(q1l b).1);have i:=(q67 e a P).1 i;refine⟨z,(q67 e d z).2 fun F q E m k j A G H u w C=>?_⟩;obtain⟨o,f,rfl⟩:=zbe.1 q;obtain⟨l,B,hd,rfl⟩:=qd4 b k;obtain⟨x,t,rfl⟩:=b.surj u;obtain⟨y,v,rfl⟩:=b.surj w;have c:l.length=o.1.toNat:=by rw[B];exact m
 have g:=a o f;rw[<-qhq,<-qhq,qbf e b g (by rw[zcg];exact c) (qmh hd t j),qbf e b g (by rw[zcg];exact c) (qmh hd v j),qi8 b P (q65 g.2.2.2 e _).1 (q65 g.2.2.2 e _).1];exact i o f l c hd j A x y t v ((qi8 b P t v).1 C)
theorem qna {n:Nat} {s p q:List Int} (a:PermL n s) (P:ParP n p) (Q:ParP n q) (h:kerL (comp (inv s.length s) p)=kerL (comp (inv s.length s) q)):p=q:=
 qqv P Q fun x y b c=>by rw[<-qi8 a P b c,<-qi8 a Q b c,h]
theorem qll {n:Nat} {p q:List Int} {ops:List OpM} (r:0<n) (f:∀o∈ops,OpP n o) (h:q2k n ops p=true) (A:q2k n ops q=true):q2k n ops (q4k p q)=true:=by
 unfold q2k at*;rw[zal,q2h,q2h]at*;obtain⟨P,s⟩:=h;obtain⟨Q,g⟩:=A;have s:=(q67 r f P).1 s;have g:=(q67 r f Q).1 g;rw[qao P];have t:=q8a n p q;refine⟨qg2 t,(q67 r f (qg2 t)).2 ?_⟩;have e:∀x y,x<n->y<n->(rl (kerL (q5c n p q)) x y↔rl p x y/\rl q x y):=fun x y i k=>by
  have C:=(Q.at i).2.1;have D:=(Q.at k).2.1;rw[qg3 t i k,q6i i,q6i k];unfold rl;rw[<-qm2 (a:=nmAt p x) (b:=nmAt q x) (c:=nmAt p y) (d:=nmAt q y) (n:=n) (by omega) (by omega)];exact⟨fun h=>by injection h with h;omega,fun h=>by rw[h]⟩
 intro o u l m hd j w x y i k B;have z:=f o u;have v:=(e x y i k).1 B;exact(e _ _ (q65 z.2.2.2 r _).1 (q65 z.2.2.2 r _).1).2 ⟨s o u l m hd j w x y i k v.1,g o u l m hd j w x y i k v.2⟩
theorem q94 {n:Nat} {p q:List Int} (P:ParP n p) (Q:ParP n q) {E:Nat->Nat->Prop} (a:EqvN n E) (b:∀x y,x<n->y<n->rl p x y->E x y) (c:∀x y,x<n->y<n->rl q x y->E x y):∀k,k<=n->∀x y,x<n->y<n->rl (q3n p q k) x y->E x y
 |0,_=>b
 | k + 1, h => by
   have h1 := Q.at (i := k) (by omega);exact qfg (q4f P Q k (by omega)) a (q94 P Q a b c k (by omega)) (by omega) (by omega) (c k (nmAt q k) (by omega) (by omega) h1.2.2.symm)
theorem qad {n:Nat} {p q:List Int} (P:ParP n p) (Q:ParP n q):∀k,k<=n->(∀x y,x<n->y<n->rl p x y->rl (q3n p q k) x y)/\∀x,x<k->rl (q3n p q k) x (nmAt q x)
 |0,_=>⟨fun x y _ _ h=>h,fun x h=>absurd h (by omega)⟩
 | k + 1, h => by
   obtain ⟨h1, h2⟩ := qad P Q k (by omega);have f := Q.at (i := k) (by omega);have a := q4f P Q k (by omega);refine ⟨fun x y b c d => q8i a b c (h1 x y b c d), fun x b => ?_⟩
   by_cases e : x = k
   . subst e
     exact qff a (by omega) (by omega)
   . have := (Q.at (i := x) (by omega)).2.1
     exact q8i a (by omega) (by omega) (h2 x (by omega))
theorem ql3 {n:Nat} {p q:List Int} {ops:List OpM} (k:0<n) (a:∀o∈ops,OpP n o) (h:q2k n ops p=true) (A:q2k n ops q=true):q2k n ops (q69 p q)=true:=by
 unfold q2k at*;rw[zal,q2h,q2h]at*;obtain⟨P,m⟩:=h;obtain⟨Q,c⟩:=A;have m:=(q67 k a P).1 m;have c:=(q67 k a Q).1 c;have J:=q81 P Q;refine⟨J,(q67 k a J).2 fun o r l u hd j t x y b d v=>?_⟩;have B:=a o r;have e:∀i,nmAt o.2 i<n:=fun i=>(q65 B.2.2.2 k i).1
 obtain⟨C,w⟩:=qad P Q n (zad _);rw[qcs Q]at v⊢;refine q94 P Q (E:=fun x y=>rl (q3n p q n) (nmAt o.2 (idx n (l.set j x))) (nmAt o.2 (idx n (l.set j y)))) ⟨fun x b=>rfl,fun x y b d h=>Eq.symm h,fun x y z b d D f g=>Eq.trans f g⟩ (fun x y b d h=>C _ _ (e _) (e _) (m o r l u hd j t x y b d h)) (fun x y b d h=>?_) n (zad _) x y b d v;have f:=c o r l u hd j t x y b d h;have g:=w _ (e (idx n (l.set j x)));have s:=w _ (e (idx n (l.set j y)));unfold rl at f g s⊢;rw[g,s,f]
theorem qhn {n:Nat} {s f:List Int} (a:PermL n s) (g:f.length=n) (e:InL n f) {x:Nat} (c:x<n):nmAt (comp (comp (inv s.length s) f) s) (nmAt s x)=nmAt s (nmAt f x):=by
 have d:(comp (inv n s) f).length=n:=by rw[q1y];exact(q1l a).1
 rw[a.1,qkb a (q5m g e (q1l a).2.1) (by rw[d];exact q37 a c)]
 congr 1
 obtain⟨v,h,i,b⟩:=(q1l a).at (q37 a c);rw[qrl a c]at b;subst b;have:(comp (inv n s) f)[nmAt s x]?=some (f.getD x 0):=by
  unfold comp;rw[za2,h];rfl
 rw[q1d this];rfl
theorem qqe {n:Nat} {s f:List Int} {ops:List OpM} (c:0<n) (a:PermL n s) (b:∀o∈ops,OpP n o) (h:homB n ops f=true):homB n (ops.map (q2l n s)) (comp (comp (inv s.length s) f) s)=true:=by
 unfold homB at h⊢;rw[zal,zal,q2h,zax,q3e]at h⊢;obtain⟨⟨k,e⟩,x⟩:=h;refine⟨⟨by rw[q1y,q1y,a.1];exact(q1l a).1,by rw[a.1];exact q44 a (q5m k e (q1l a).2.1)⟩,fun D p j A=>?_⟩;obtain⟨o,q,i,y,C,v,u,w⟩:=qpk c a b p A;have r:=b o q;rw[w,qhn a k e (q65 r.2.2.2 c i).1,x o q i y];have m:∀d∈(digs n o.1.toNat i).map (nmAt f),d<n:=fun d hd=>by
  obtain⟨z,-,rfl⟩:=zbe.1 hd;exact(q65 e c z).1
 have t:=qbf c a r (l:=(digs n o.1.toNat i).map (nmAt f)) (by rw[zbz,q1t]) m;rw[v];show _=nmAt (q2l n s o).2 (toI n o.1.toNat _ j)
 unfold toI;rw[u,zfz,zec (f:=nmAt (comp (comp (inv s.length s) f) s) ∘ nmAt s) (g:=nmAt s ∘ nmAt f) fun z B=>qhn a k e (q20 c B),<-zfz];exact t.symm
theorem qqd {n:Nat} {s f g:List Int} (c:PermL n s) (l:f.length=n) (a:InL n f) (k:g.length=n) (b:InL n g) (h:comp (comp (inv s.length s) f) s=comp (comp (inv s.length s) g) s):f=g:=by
 apply zcl;intro x
 by_cases hx:x<n
 .have j:=qhn c l a hx
  rw[h,qhn c k b hx]at j;have e:nmAt g x=nmAt f x:=qhw c (by by_cases h0:0<n;exact(q65 b h0 x).1;omega) (by by_cases h0:0<n;exact(q65 a h0 x).1;omega) j;have d:=(q65 a (by omega) x).2;have i:=(q65 b (by omega) x).2;rw[zak,zae (by omega)]at d i;rw[zae (by omega),zae (by omega)]
  congr 1
  exact d.trans ((by rw[e]:(nmAt f x:Int)=nmAt g x).trans i.symm)
 .rw[zbl (by omega),zbl (by omega)]
abbrev Bs:=List UInt8
def mk (l:Bs):ByteArray:=⟨l.toArray⟩
theorem q9x (l:Bs):bs (mk l)=l:=rfl
theorem qqo (s:ByteArray):mk (bs s)=s:=qbj rfl
theorem qlo {s:ByteArray} {l:Bs} (h:bs s=l):s=mk l:=qbj h
theorem qh9 (a b:ByteArray):bs (a++b)=bs a++bs b:=by
 unfold bs;rw[ByteArray.data_append,Array.toList_append]
theorem qbi (s:ByteArray) (i j:Nat):bs (s.extract i j)=((bs s).drop i).take (j - i):=Lib.extract_data s i j
theorem qgv (s:ByteArray):s.size=(bs s).length:=rfl
theorem q60 (l:Bs):(mk l).size=l.length:=rfl
theorem cat (a b:ByteArray) (h:a.size+b.size<=1099511627776):∀w,(Op.stringOp .add a b).run Tryz.prog w=.ok (.string (a++b)) w:=fun w=>run_string_add_sum w a b (by omega)
theorem qoo (a b:ByteArray):(a++b).size=a.size+b.size:=by rw[qgv,qh9,zbs];rfl
theorem qqs {u:Nat} (h:u<1000000):Lib.nDigits u<=6:=by
 rcases zc9 u 10 with a|a
 .rw[zfm a];omega
 rw[Lib.nDigits_big (by omega)]
 rcases zc9 (u / 10) 10 with b|b
 .rw[zfm b];omega
 rw[Lib.nDigits_big (by omega)]
 rcases zc9 (u / 10 / 10) 10 with c|c
 .rw[zfm c];omega
 rw[Lib.nDigits_big (by omega)]
 rcases zc9 (u / 10 / 10 / 10) 10 with d|d
 .rw[zfm d];omega
 rw[Lib.nDigits_big (by omega)]
 rcases zc9 (u / 10 / 10 / 10 / 10) 10 with e|e
 .rw[zfm e];omega
 rw[Lib.nDigits_big (by omega),zfm (by omega)];omega
theorem q9y {u:Nat} (h:u<1000000):(Lib.decDigits u).length<=6:=by rw[Lib.decDigits_length];exact qqs h
def Tab (w:World):Prop:=Lib.TabIs Tryz.prog w "internal/strconv.uint64pow10" .u64 Lib.pow10Tab
theorem Tab.next {w w':World} (h:Tab w) (a:Below w.heap.size w w'):Tab w':=(Lib.tabBelow_of_tabIs h) w' a
theorem qiw (w:World) (os:Array Obj) (k:Nat):Below w.heap.size w (Sort.grow (w.drewN k) os):=by
 refine⟨rfl,rfl,rfl,?_,fun i a=>?_⟩
 .show w.heap.size<=(w.heap++os).size
  rw[Array.size_append];omega
 .show(w.heap++os)[i]?=w.heap[i]?
  rw[Array.getElem?_append_left a]
theorem q9z {i:Nat} (h:i<10):((([48,49,50,51,52,53,54,55,56,57]:Bs).drop i).take (i+1 - i))= [UInt8.ofNat (48+i)]:=by
 have:∀i:Fin 10,((([48,49,50,51,52,53,54,55,56,57]:Bs).drop i.val).take (i.val+1 - i.val))= [UInt8.ofNat (48+i.val)]:=by decide
 exact this ⟨i,h⟩
theorem qlu {n:Nat} (h:n<10):(⟨#[48,49,50,51,52,53,54,55,56,57]⟩:ByteArray).extract n (n+1)=mk (Lib.decDigits n):=by
 apply qlo;rw[qbi,Lib.decDigits_one h];exact q9z h
theorem qqt {n:Nat} (h:¬n<10):mk (Lib.decDigits (n / 10))++(⟨#[48,49,50,51,52,53,54,55,56,57]⟩:ByteArray).extract (n % 10) (n % 10+1)=mk (Lib.decDigits n):=by
 apply qlo;rw[qh9,qbi,q9x,Lib.decDigits.eq_def n,dif_neg h]
 congr 1
 exact q9z (zfn _ (by decide))
theorem qe8 (n:Nat):∀(_hn:n<1000000) (w:World),Calls Tryz.prog 156 #[.int .i64 n] w (Qt w (.string (mk (Lib.decDigits n)))):=by
 induction n using Nat.strongRecOn with
 | _ n ih =>
   intro t w
   by_cases h10 : n < 10
   . have b := zaa (qlu h10)
     have c : (0 : Int) <= (n : Int) := by omega
     have h : (n : Int) < 10 := by omega
     clear ih
     go_enter Tryz.func156, Tryz.ntmps156
     go_wp2
     go_ret;exact ⟨qd6 b.out, 0, rfl⟩
   . have b := zaa (qqt h10)
     have i := ih (n / 10) (by omega) (by omega);have c : (10 : Int) <= (n : Int) := by omega
     have p : IntKind.i64.wrap ((n : Int) / 10) = (n : Int) / 10 := zck _ (by omega);have q : (n : Int).tmod 10 = (n : Int) % 10 := rfl;have r : IntKind.i64.wrap ((n : Int) % 10 + 1) = (n : Int) % 10 + 1 := zck _ (by omega);have e : (0 : Int) <= (n : Int) % 10 := by omega
     have d : (n : Int) % 10 + 1 <= 10 := by omega
     have k : (n : Int) % 10 <= 9 := by omega
     have l : (n : Int) % 10 < 10 := by omega
     have m : (0 : Int) <= (n : Int) % 10 + 1 := by omega
     have o : (n : Int) % 10 + 1 <= ((⟨#[48, 49, 50, 51, 52, 53, 54, 55, 56, 57]⟩ : ByteArray).size : Int) := d;have j : ∀ w, (Instr.slice 9 (.string ⟨#[48, 49, 50, 51, 52, 53, 54, 55, 56, 57]⟩) (some (.int .i64 ((n : Int) % 10))) (some (.int .i64 ((n : Int) % 10 + 1))) none).run Tryz.prog w = .ok (.string ((⟨#[48, 49, 50, 51, 52, 53, 54, 55, 56, 57]⟩ : ByteArray).extract (n % 10) (n % 10 + 1))) w := fun w => by
       have := run_slice_string (P := Tryz.prog) (w := w) 9 ⟨#[48, 49, 50, 51, 52, 53, 54, 55, 56, 57]⟩ .i64 .i64 ((n : Int) % 10) ((n : Int) % 10 + 1) zdu e (by omega) d;rw [this];have f : ((n : Int) % 10).toNat = n % 10 := by omega
       have g : ((n : Int) % 10 + 1).toNat = n % 10 + 1 := by omega
       rw [f, g]
     have a : ∀ w, Calls Tryz.prog 156 #[.int .i64 ((n : Int) / 10)] w (Qt w (.string (mk (Lib.decDigits (n / 10))))) := i
     have v := cat (mk (Lib.decDigits (n / 10))) ((⟨#[48, 49, 50, 51, 52, 53, 54, 55, 56, 57]⟩ : ByteArray).extract (n % 10) (n % 10 + 1)) (by
       have s := q9y (u := n / 10) (by omega);rw [q60, qgv, qbi, za9]
       omega)
     clear ih h10
     go_enter Tryz.func156, Tryz.ntmps156
     go_wp2
     go_quiet ((go_at_call 156; (first | exact q1o (a _) | exact q1f (a _))))
     go_wp2
     go_ret;exact ⟨qd6 b.out, (by first | exact Drawn.zero _ | exact Drawn.at_ _ _ | exact (Drawn.at_ _ _).more _ | exact ((Drawn.at_ _ _).more _).more _)⟩
theorem q7h {b:Nat} {w a c:World} (h:Below b w a) (k:Below a.heap.size a c) (d:b<=a.heap.size):Below b w c:=h.trans (k.mono d)
theorem qrm {b:Nat} {w w':World} {p:Addr} {v:Value} (a:Below b w w') (c:p.block<b) (h:w.cell? p=some v):w'.cell? p=some v:=(a.cell c).trans h
def Bd (w:World) (b:Nat) (l:Bs):Prop:=Lib.IsBuilder 166 5 b b (Lib.byteCells l) w
def Kb (b:Nat) (w w':World):Prop:=Below b w w'/\Lib.OthersKept 5 (some b) w w'
theorem Kb.refl (b:Nat) (w:World):Kb b w w:=⟨zac _ _,Lib.OthersKept.refl _ _ _⟩
theorem Kb.trans {b:Nat} {a c d:World} (h:Kb b a c) (k:Kb b c d):Kb b a d:=⟨h.1.trans k.1,h.2.trans k.2⟩
theorem Bd.new (w:World):Bd (w.alloc (.cells #[.pointer none,.slice none 0 0] 166)) w.heap.size []:=
 .inl ⟨zad _,.slice none 0 0,Blk.new w 166 #[.pointer none,.slice none 0 0],World.ownsRow_nil _ _ _ _,by simp[Value.ownBlock]⟩
theorem Bd.lt {w:World} {b:Nat} {l:Bs} (h:Bd w b l):b<w.heap.size:=by
 rcases h with⟨_,v,a,_⟩|⟨_,v,a,_⟩
 .exact(zd8.1 a).1
 .exact(zd8.1 a).1
theorem Bd.next {w w':World} {b:Nat} {l:Bs} (h:Bd w b l) (c:Below w.heap.size w w'):Bd w' b l:=by
 have a:=h.lt
 rcases h with⟨d,v,e,f,g⟩|⟨d,v,e,f,g⟩
 .exact .inl ⟨d,v,(c.block b a).trans e,qp f c,g⟩
 .exact .inr ⟨d,v,(c.block b a).trans e,qp f c,g⟩
theorem ql4 {w w':World} {b:Nat} (d:b<w.heap.size) (a:Below w.heap.size w w'):Kb b w w':=
 ⟨⟨a.os,a.tape,a.output,a.size,fun i e=>a.block i (by omega)⟩,fun k o c _ _=>(a.block k (zd8.1 c).1).trans c⟩
theorem qcc (b:Nat) (l:Bs) (w:World) (h:Bd w b l):
  Calls Tryz.prog 190 #[.pointer (some ⟨b,0,none⟩)] w fun e w'=>e=.returned (.tuple #[])/\Lib.BuilderAt 166 5 b b (.pointer (some ⟨b,0,none⟩)) (Lib.byteCells l) w'/\Kb b w w':=by
 obtain⟨j,c,d⟩:=Option.map_eq_some_iff.1 (show(Tryz.prog.info? 166).map (·.size)=some 2 by kernel_rfl);have m:=h.lt
 rcases h with h|h
 .have i:=h.cell0
  have a:=h.shape;have k:=h.frozen0;have f:=zaa (h.used (.pointer (some ⟨b,0,none⟩)));have g:Kb b w (w.setCell ⟨b,0,none⟩ (.pointer (some ⟨b,0,none⟩))):=⟨(zac b w).setCell (p:=⟨b,0,none⟩) (zad _) _,(Lib.OthersKept.refl _ _ w).setCell ⟨b,0,none⟩ rfl _⟩;clear h
  go_enter Tryz.func190,Tryz.ntmps190
  go_wp2
  rw[Lib.run_to_unsafe w ⟨b,0,none⟩ Tryz.underlying164 Tryz.underlying202 c (by rw[d];decide) a (Nat.zero_lt_succ 1)];simp only[Result.andThen];rw[Oper.upon_value]
  go_wp2
  rw[run_callFunc_extern Tryz.func211 (by kernel_rfl) (by kernel_rfl) (by kernel_rfl) (e:=Extern.AbiNoEscape.same) (by kernel_rfl)];rw[Lib.run_noEscape];simp only[Result.andThen];rw[Oper.upon_value]
  go_wp2
  rw[Lib.run_from_unsafe w ⟨b,0,none⟩ Tryz.underlying202 Tryz.underlying164 c a (by kernel_rfl)];simp only[Result.andThen];rw[Oper.upon_value]
  go_wp2
  go_end0
  exact⟨rfl,f.out,g⟩
 .have i:=h.cell0
  go_enter Tryz.func190,Tryz.ntmps190
  go_wp2
  rw[Lib.run_neq_ptr_same w _ Tryz.underlying164 c]
  go_wp2
  go_end0
  exact⟨rfl,h,Kb.refl _ _⟩
theorem q32 (b:Nat) (l:Bs) (s:ByteArray) (w:World) (h:Bd w b l) (S:l.length+s.size<=1000000000):
  Calls Tryz.prog 142 #[.pointer (some ⟨b,0,none⟩),.string s] w fun e w'=>e=.returned (.tuple #[.int .i64 s.size,.nilIface])/\Bd w' b (l++bs s)/\Kb b w w':=by
 obtain⟨L,I,y,z,A⟩:=info_parts (show(Tryz.prog.info? 5).map (fun i=>(i.zero,i.size,i.bytes))=some (some (.int .u8 0),1,1)by kernel_rfl);have K:=h.lt
 go_enter Tryz.func142,Tryz.ntmps142
 go_wp2_with fail;refine(qcc b l _ h).mono ?_;rintro e r ⟨rfl,H,n⟩;obtain⟨C,v,m,c,u⟩:=H;have N:r.cell? ⟨b,0,none⟩=some (.pointer (some ⟨b,0,none⟩)):=by rw[Lib.cell_of_heap m];rfl
 have O:r.cell? ⟨b,1,none⟩=some v:=by rw[Lib.cell_of_heap m];rfl
 have D:=n.1.size;have o:(Lib.byteCells l).length=l.length:=Lib.byteCells_length l
 go_wp2_with (at_builtin;refine Lib.wpList_append_own_string _ rfl _ _ 130 9 rfl b 5 L zf7 zdu I y z A _ _ _ rfl c s rfl ?c3 ?c4 ?c5 ?_)
 case c3=>unfold maxLen;omega
 case c4=>omega
 case c5=>omega
 intro M t d a _;have q:b<r.heap.size:=by omega
 have f:t.heap[b]?=some (.cells #[.pointer (some ⟨b,0,none⟩),v] 166 (0,0)):=(a.block b q (fun e=>u e.symm)).trans m;have P:t.cell? ⟨b,0,none⟩=some (.pointer (some ⟨b,0,none⟩)):=by rw[Lib.cell_of_heap f];rfl
 have Q:t.cell? ⟨b,1,none⟩=some v:=by rw[Lib.cell_of_heap f];rfl
 have R:t.frozen? ⟨b,1,none⟩=false:=Lib.frozen_of_heap f 1;obtain⟨B,E,j,rfl⟩:∃B E j,M=.slice B E j:=by
  rcases d.2 with⟨x,_⟩|⟨g,j,F,x,_⟩
  .exact⟨_,_,_,x⟩
  .exact⟨_,_,_,x⟩
 go_wp2
 go_ret2
 refine⟨rfl,.inr ?_,n.trans ⟨((zac b r).grown a (by omega) (fun k J=>(c.lt k J).1)).setCell (p:=⟨b,1,none⟩) C _,((Lib.OthersKept.refl _ _ r).grown a (Lib.ownsRowF_kind (World.ownsRowF_of c))).setCell ⟨b,1,none⟩ rfl _⟩⟩;have G:Lib.byteCells (l++bs s)=Lib.byteCells l++Lib.strCells s:=by rw[Lib.strCells_eq];unfold Lib.byteCells bs;rw[zel]
 rw[G];exact Lib.BuilderAt.put (T:=166) (e:=5) C f (bs':=Lib.byteCells l++Lib.strCells s) (by rw[zbs,Lib.strCells_length,o];exact d) (by decide)
theorem qjz (b:Nat) (l:Bs) (w:World) (h:Bd w b l):
  Calls Tryz.prog 145 #[.pointer (some ⟨b,0,none⟩)] w fun e w'=>e=.returned (.string (mk l))/\Below b w w':=
 Tryz.Builder_String_any b b l w h (Nat.le_of_lt h.lt)
theorem Kb.blk {b g:Nat} {w w':World} {a:TypeId} {cs:Array Value} (h:Kb b w w') (d:Blk w g a cs) (f:g≠b) (i:a≠5):Blk w' g a cs:=
 h.2 g _ d (fun e=>f (by injection e)) (fun c j e=>i (by injection e))
def InD (v:Int):Prop:= -999999<=v/\v<=999999
def isDg (c:UInt8):Prop:=48<=c.toNat/\c.toNat<=57
def valD:Nat->Bs->Nat
 |acc, []=>acc
 |acc,c::r=>valD (acc*10+(c.toNat - 48)) r
theorem qdn:∀(a b:Bs) (acc:Nat),valD acc (a++b)=valD (valD acc a) b
 | [],_,_=>rfl
 |c::a,b,acc=>qdn a b _
theorem qce {d:Nat} (h:d<10):(UInt8.ofNat (48+d)).toNat=48+d:=by
 rw[UInt8.toNat_ofNat'];omega
theorem q8z (u:Nat):∀c∈Lib.decDigits u,isDg c:=by
 induction u using Nat.strongRecOn with
 | _ u ih =>
   intro c a
   by_cases h : u < 10
   . rw [Lib.decDigits, dif_pos h] at a
     have a := zb2.1 a;subst a;unfold isDg;rw [qce h];omega
   . rw [Lib.decDigits, dif_neg h, zau] at a
     rcases a with a | a
     . exact ih (u / 10) (by omega) c a
     . have a := zb2.1 a
       subst a;unfold isDg;rw [qce (zfn _ (by decide))];omega
theorem q5n (u:Nat):valD 0 (Lib.decDigits u)=u:=by
 induction u using Nat.strongRecOn with
 | _ u ih =>
   by_cases h : u < 10
   . rw [Lib.decDigits, dif_pos h]
     show 0 * 10 + ((UInt8.ofNat (48 + u)).toNat - 48) = u
     rw [qce h];omega
   . rw [Lib.decDigits, dif_neg h, qdn, ih (u / 10) (by omega)]
     show u / 10 * 10 + ((UInt8.ofNat (48 + u % 10)).toNat - 48) = u
     rw [qce (zfn _ (by decide))];omega
theorem qhc (u:Nat):Lib.decDigits u≠ []:=fun e=>by
 have h:=Lib.decDigits_length u;rw[e]at h;have:=Lib.nDigits_pos u;simp at h;omega
theorem q3y {v:Int} (h:0<=v):Lib.itoa v=Lib.decDigits v.toNat:=by unfold Lib.itoa;rw[zaj (by omega)]
theorem q3x {v:Int} (h:v<0):Lib.itoa v=45::Lib.decDigits v.natAbs:=by unfold Lib.itoa;rw[zam h]
theorem qqf {v:Int}:∀c∈Lib.itoa v,c=45\/isDg c:=by
 intro c a
 by_cases h:v<0
 .rw[q3x h]at a
  rcases zbf.1 a with a|a
  .exact .inl a
  .exact .inr (q8z _ c a)
 .rw[q3y (by omega)]at a
  exact .inr (q8z _ c a)
theorem qg1 {v:Int} {b:UInt8} (a:b≠45) (c:¬isDg b):b∉Lib.itoa v:=fun h=>(qqf b h).elim a c
theorem q80 {v u:Int} (h:Lib.itoa v=Lib.itoa u):v=u:=by
 have b:∀(a:Nat),∀l:Bs,Lib.decDigits a≠45::l:=fun a l e=>by
  have:=q8z a 45 (by rw[e];exact zaq ..);unfold isDg at this;simp at this
 by_cases hv:v<0
 .by_cases hu:u<0
  .rw[q3x hv,q3x hu]at h
   injection h with _ h
   have:=zav (valD 0) h;rw[q5n,q5n]at this;omega
  .rw[q3x hv,q3y (by omega)]at h
   exact absurd h.symm (b _ _)
 .by_cases hu:u<0
  .rw[q3x hu,q3y (by omega)]at h
   exact absurd h (b _ _)
  .rw[q3y (by omega),q3y (by omega)]at h
   have:=zav (valD 0) h;rw[q5n,q5n]at this;omega
theorem qmx:∀(l:Bs) (acc:Nat),acc<=valD acc l
 | [],acc=>zad _
 |c::r,acc=>za7 (by omega) (qmx r (acc*10+(c.toNat - 48)))
theorem qd3:∀(l:Bs) (acc:Nat),(∀c∈l,isDg c)->valD acc l<1844674407370955162->Lib.parseUint10 acc l=.ok (valD acc l)
 | [],acc,_,_=>rfl
 | c :: r, acc, h, hv => by
   have hc := h c (zaq ..);have e := qmx r (acc * 10 + (c.toNat - 48));have b : valD acc (c :: r) = valD (acc * 10 + (c.toNat - 48)) r := rfl;rw [b] at hv;unfold Lib.parseUint10;rw [zam (show 48 <= c.toNat /\ c.toNat <= 57 from hc), zaj (by omega), zaj (by omega), b];exact qd3 r _ (fun d a => h d (zap _ a)) hv
theorem qkc {v:Int} (h:InD v):Lib.atoiAll (Lib.itoa v)=.ok v:=by
 obtain⟨d,f⟩:=h
 by_cases hv:v<0
 .rw[q3x hv]
  have a:Lib.parseUint10 0 (Lib.decDigits v.natAbs)=.ok v.natAbs:=by
   rw[qd3 _ _ (q8z _) (by rw[q5n];omega),q5n]
  unfold Lib.atoiAll Lib.parseMag;simp only[show((45:UInt8).toNat=43\/(45:UInt8).toNat=45)from .inr (by decide),if_true];rw[zaj (qhc _),a];simp only;rw[zaj (by simp),zaj (by simp;omega)];simp;omega
 .rw[q3y (by omega)]
  obtain⟨u,rfl⟩:∃u:Nat,v=u:=⟨v.toNat,by omega⟩;rw[za5];have a:Lib.parseUint10 0 (Lib.decDigits u)=.ok u:=by
   rw[qd3 _ _ (q8z _) (by rw[q5n];omega),q5n]
  obtain⟨c,r,e⟩:∃c r,Lib.decDigits u=c::r:=by
   rcases e:Lib.decDigits u with _|⟨c,r⟩
   .exact absurd e (qhc u)
   .exact⟨c,r,rfl⟩
  have b:=q8z u c (by rw[e];exact zaq ..);unfold isDg at b;rw[e]at a⊢;unfold Lib.atoiAll Lib.parseMag;simp only;rw[zaj (show ¬(c.toNat=43\/c.toNat=45)by omega),zaj (by simp),a];simp only;rw[zaj (by omega),zaj (by omega),zaj (by omega)]
theorem q5u {v:Int} (h:InD v):(Lib.itoa v).length<=7:=by
 obtain⟨a,b⟩:=h
 by_cases hv:v<0
 .rw[q3x hv,za0]
  have:=q9y (u:=v.natAbs) (by omega);omega
 .rw[q3y (by omega)]
  have:=q9y (u:=v.toNat) (by omega);omega
open Classical in
noncomputable def q3l (s:ByteArray):Option Int:=if h:∃v,InD v/\s=mk (Lib.itoa v)then some (Classical.choose h)else none
theorem q87 {a b:Bs} (h:mk a=mk b):a=b:=by
 have:=zav bs h
 rwa [q9x,q9x]at this
theorem q3t {s:ByteArray} {v:Int} (d:InD v) (h:s=mk (Lib.itoa v)):q3l s=some v:=by
 have a:∃v,InD v/\s=mk (Lib.itoa v):=⟨v,d,h⟩;unfold q3l;rw[dif_pos a];have b:=(Classical.choose_spec a).2;have c:mk (Lib.itoa v)=mk (Lib.itoa (Classical.choose a)):=h.symm.trans b;rw[<-q80 (q87 c)]
theorem q74 {s:ByteArray} (h:∀v,InD v->s≠mk (Lib.itoa v)):q3l s=none:=by
 unfold q3l;rw[dif_neg];rintro⟨v,a,b⟩;exact h v a b
theorem q6j {s:ByteArray} {v:Int}:q3l s=some v↔InD v/\s=mk (Lib.itoa v):=by
 constructor
 .intro h
  by_cases he:∃v,InD v/\s=mk (Lib.itoa v)
  .obtain⟨u,a,b⟩:=he
   rw[q3t a b]at h;injection h with h
   subst h;exact⟨a,b⟩
  .rw[q74 fun v a b=>he ⟨v,a,b⟩]at h
   cases h
 .exact fun⟨a,b⟩=>q3t a b
def tl (l:Bs):Bs:=if 1<l.length/\l[0]?=some 45 then l.drop 1 else l
theorem qdi {v:Int}:tl (Lib.itoa v)=Lib.decDigits v.natAbs/\((tl (Lib.itoa v)).length<(Lib.itoa v).length↔v<0):=by
 by_cases hv:v<0
 .have a:=qhc v.natAbs
  have b:0<(Lib.decDigits v.natAbs).length:=List.length_pos_iff.2 a;have e:tl (Lib.itoa v)=Lib.decDigits v.natAbs:=by
   rw[q3x hv];unfold tl;rw[zam ⟨by rw[za0];omega,rfl⟩];rfl
  rw[e,q3x hv,za0];exact⟨rfl,fun _=>hv,fun _=>by omega⟩
 .have e:tl (Lib.itoa v)=Lib.itoa v:=by
   unfold tl;rw[zaj];rintro⟨-,h⟩;rw[q3y (by omega)]at h;have:=q8z v.toNat 45 (zaf h);unfold isDg at this;simp at this
  rw[e,q3y (by omega)];exact⟨by congr 1;omega,fun h=>absurd h (by omega),fun h=>absurd h hv⟩
theorem qmy:∀(l:Bs) (acc:Nat),(∀c∈l,isDg c)->valD acc l<(acc+1)*10 ^ l.length
 | [], acc, _ => by
   show acc < (acc + 1) * 1
   omega
 | c :: r, acc, h => by
   have hc := h c (zaq ..);have e := qmy r (acc * 10 + (c.toNat - 48)) fun b a => h b (zap _ a)
   have d : valD acc (c :: r) = valD (acc * 10 + (c.toNat - 48)) r := rfl;unfold isDg at hc;rw [d, za0, zfi, zfh (10 ^ r.length) 10, <- Nat.mul_assoc];refine zcu e (zd7 _ ?_);omega
theorem qp1 {l:Bs} (h:∀c∈l,isDg c) (a:l.length<=6):valD 0 l<=999999:=by
 have b:=qmy l 0 h;have d:10 ^ l.length<=10 ^ 6:=Nat.pow_le_pow_right (by decide) a;omega
def DvAt (t:Bs) (k n:Nat):Prop:=(∀c∈t.take k,isDg c)/\n=valD 0 (t.take k)
theorem DvAt.start (t:Bs):DvAt t 0 0:=⟨by simp,rfl⟩
theorem DvAt.step {t:Bs} {k n:Nat} {c:UInt8} (h:DvAt t k n) (i:t[k]?=some c) (hd:isDg c):DvAt t (k+1) (10*n+(c.toNat - 48)):=by
 obtain⟨f,g⟩:=h;have e:t.take (k+1)=t.take k++ [c]:=by rw[zbp,i];rfl
 refine⟨fun d a=>?_,?_⟩
 .rw[e,zau]at a
  rcases a with b|b
  .exact f d b
  .rw[zb2.1 b];exact hd
 .rw[e,qdn,<-g]
  show _=n*10+(c.toNat - 48)
  omega
theorem DvAt.bd {t:Bs} {k n:Nat} (h:DvAt t k n) (a:t.length<=6):n<=999999:=by
 rw[h.2];exact qp1 h.1 (by rw[za9];omega)
theorem qgt {s:Bs} (h:∀v,InD v->s=Lib.itoa v->False):q3l (mk s)=none:=q74 fun v a b=>h v a (q87 b)
theorem qm7 {s:Bs} (h:¬(1<=(tl s).length/\(tl s).length<=6)):q3l (mk s)=none:=qgt fun v a e=>h (by
 rw[e,(qdi (v:=v)).1];have b:0<(Lib.decDigits v.natAbs).length:=List.length_pos_iff.2 (qhc _);have c:=q9y (u:=v.natAbs) (by obtain⟨_,_⟩:=a;omega)
 omega)
theorem qm8 {s:Bs} {c:UInt8} (a:c∈tl s) (h:¬isDg c):q3l (mk s)=none:=qgt fun v b e=>h (by
 rw[e,(qdi (v:=v)).1]at a
 exact q8z _ c a)
def sgn (s:Bs) (n:Nat):Int:=if(tl s).length<s.length then -(n:Int)else n
theorem qoj {s:Bs} {n:Nat} (h:DvAt (tl s) (tl s).length n) (b:(tl s).length<=6) (a:Lib.itoa (sgn s n)=s):q3l (mk s)=some (sgn s n):=by
 have c:=h.bd b;exact q3t (by unfold sgn InD;split<;>omega) (by rw[a])
theorem qm9 {s:Bs} {n:Nat} (h:DvAt (tl s) (tl s).length n) (f:Lib.itoa (sgn s n)≠s):q3l (mk s)=none:=qgt fun v i e=>f (by
 obtain⟨g,b⟩:=h;rw[List.take_length]at b;have c:=(qdi (v:=v)).1;have a:=(qdi (v:=v)).2;rw[<-e]at c a;rw[c,q5n]at b;rw[e]
 congr 1
 unfold sgn;rw[<-e]
 split
 .rename_i h5
  have:=a.1 h5;omega
 .rename_i h5
  have:¬v<0:=fun d=>h5 (a.2 d)
  omega)
def q1w (sep:Bs):List Bs->Bs
 | []=> []
 | [t]=>t
 |t::u::l=>t++(sep++q1w sep (u::l))
def sepB (sep:Bs) (l:List Bs):Bs:=(l.map fun t=>sep++t).flatten
theorem q3d (sep t:Bs):∀l:List Bs,q1w sep (t::l)=t++sepB sep l
 | []=>by simp[q1w,sepB]
 | u :: l => by
   rw [q1w, q3d sep u l];simp [sepB]
def splL (b:UInt8):Bs->List Bs
 | []=> [[]]
 | x :: l => if x = b then [] :: splL b l else match splL b l with
   | [] => [[x]]
   | p :: ps => (x :: p) :: ps
theorem qgy {b:UInt8}:∀ {l:Bs},b∉l->splL b l= [l]
 | [],_=>rfl
 | x :: l, h => by
   rw [splL, zaj (fun e => h (by rw [e]; simp)), qgy (fun hm => h (zap _ hm))]
theorem qdc {b:UInt8}:∀ {a x:Bs},b∉a->splL b (a++b::x)=a::splL b x
 | [],x,_=>by rw[zch,splL,zam rfl]
 | d :: a, x, h => by
   rw [List.cons_append, splL, zaj (fun e => h (by rw [e]; simp)), qdc (fun hm => h (zap _ hm))]
theorem qav {b:UInt8}:∀ {l:List Bs},l≠ []->(∀t∈l,b∉t)->splL b (q1w [b] l)=l
 | [],h,_=>absurd rfl h
 | [t],_,h=>qgy (h t (zaq ..))
 | t :: u :: l, _, h => by
   rw [q1w, List.singleton_append, qdc (h t (zaq ..)), qav (by simp) fun t' ht => h t' (zap _ ht)]
theorem qnm {c:UInt8} {r a:Bs} (h:c∉a):Lib.index a (c::r)= -1:=Lib.index_none fun j b=>by
 rcases e:Lib.occAt a (c::r) j with _|_
 .rfl
 .exact absurd (zaf (Lib.occAt_head rfl e)) h
theorem qku {c:UInt8} {r a x:Bs} (h:c∉a):Lib.index (a++((c::r)++x)) (c::r)=a.length:=by
 refine Lib.index_first (by simp) ?_ fun j b=>?_
 .unfold Lib.occAt
  rw[List.drop_left];exact List.isPrefixOf_iff_prefix.2 ⟨x,rfl⟩
 .rcases e:Lib.occAt (a++((c::r)++x)) (c::r) j with _|_
  .rfl
  .have:=Lib.occAt_head rfl e
   rw[zbv b]at this;exact absurd (zaf this) h
theorem qs0 {c:UInt8} {r a:Bs} (h:c∉a):Lib.split a (c::r)= [a]:=by
 unfold Lib.split;rw[Lib.count_miss (qnm h)];rfl
theorem qr3 {c:UInt8} {r a x:Bs} (h:c∉a):Lib.split (a++((c::r)++x)) (c::r)=a::Lib.split x (c::r):=by
 unfold Lib.split;have b:=qku (r:=r) (x:=x) h;have hd:(a++((c::r)++x)).drop (a.length+(c::r).length)=x:=by
  rw[<-zeb,<-zbs,List.drop_left]
 rw[Lib.count_hit (by simp) b,hd,Nat.add_comm 1,Lib.splitK,b];rw[zaj (by simp),za5,Nat.add_zero,List.take_left,hd]
theorem qdd {c:UInt8} {r:Bs}:∀ {l:List Bs},l≠ []->(∀t∈l,c∉t)->Lib.split (q1w (c::r) l) (c::r)=l
 | [],h,_=>absurd rfl h
 | [t],_,h=>qs0 (h t (zaq ..))
 | t :: u :: l, _, h => by
   rw [q1w, qr3 (h t (zaq ..)), qdd (by simp) fun t' ht => h t' (zap _ ht)]
theorem qen {sep:Bs} {c:UInt8}:∀ {l:List Bs},c∈q1w sep l->c∈sep\/∃t∈l,c∈t
 | [],h=>by simp[q1w]at h
 | [t],h=>.inr ⟨t,zaq ..,h⟩
 | t :: u :: l, h => by
   rw [q1w, zau, zau] at h
   rcases h with h | h | h
   . exact .inr ⟨t, zaq .., h⟩
   . exact .inl h
   . rcases qen h with h | ⟨t', h1, h2⟩
     . exact .inl h
     . exact .inr ⟨t', zap _ h1, h2⟩
def wsT (t:List Int):List Bs:=t.map Lib.itoa
def arL (n len:Nat):Int:=if n ^ 0=len then 0 else if n ^ 1=len then 1 else if n ^ 2=len then 2 else if n ^ 3=len then 3 else -1
def ArP (x:qi):Prop:=∀o∈x.2,o.1=arL x.1.toNat o.2.length
def GoodA (x:qi):Prop:=AlgP x/\ArP x
def txA (x:qi):Bs:=Lib.itoa x.1++sepB [59,32] (x.2.map fun o=>q1w [32] (wsT o.2))
def txR (x:qi):Bs:=Lib.itoa x.1++sepB [59] (x.2.map fun o=>sepB [32] (wsT o.2))
theorem q62 (t:List Int):(wsT t).length=t.length:=by simp[wsT]
theorem qdq:∀ {a b:List Int},wsT a=wsT b->a=b
 | [], [],_=>rfl
 | [],_::_,h=>by simp[wsT]at h
 |_::_, [],h=>by simp[wsT]at h
 | v :: a, u :: b, h => by
   simp only [wsT, zcz] at h;injection h with h1 h2
   rw [q80 h1, qdq h2]
theorem qrc {t:List Int} {b:UInt8} (a:b≠45) (c:¬isDg b):∀w∈wsT t,b∉w:=by
 intro w d;obtain⟨v,-,rfl⟩:=zbe.1 d;exact qg1 a c
theorem no32:(32:UInt8)≠45/\¬isDg 32:=by unfold isDg;decide
theorem no59:(59:UInt8)≠45/\¬isDg 59:=by unfold isDg;decide
theorem qf5 (sep t:Bs) (l:List Bs):sepB sep (t::l)=sep++q1w sep (t::l):=by
 rw[q3d];simp[sepB]
theorem qf6 (sep t:Bs) (l:List Bs):sepB sep (l++ [t])=sepB sep l++(sep++t):=by simp[sepB]
theorem qou (x:qi):txA x=q1w [59,32] (Lib.itoa x.1::x.2.map fun o=>q1w [32] (wsT o.2)):=by rw[q3d];rfl
theorem qow (x:qi):txR x=q1w [59] (Lib.itoa x.1::x.2.map fun o=>sepB [32] (wsT o.2)):=by rw[q3d];rfl
theorem qpu (t:List Int):(59:UInt8)∉q1w [32] (wsT t):=fun h=>by
 rcases qen h with h|⟨w,a,h⟩
 .simp at h
 .exact qrc no59.1 no59.2 w a h
theorem qr7 (t:List Int):(59:UInt8)∉sepB [32] (wsT t):=fun h=>by
 rcases ht:wsT t with _|⟨w,l⟩
 .rw[ht]at h;simp[sepB]at h
 .rw[ht,qf5,<-ht,zau]at h
  rcases h with h|h
  .simp at h
  .exact qpu t h
theorem cutA (x:qi):Lib.split (txA x) [59,32]=Lib.itoa x.1::x.2.map fun o=>q1w [32] (wsT o.2):=by
 rw[qou];refine qdd (by simp) fun t a=>?_
 rcases zbf.1 a with rfl|a
 .exact qg1 no59.1 no59.2
 .obtain⟨o,-,rfl⟩:=zbe.1 a
  exact qpu o.2
theorem cutR (x:qi):splL 59 (txR x)=Lib.itoa x.1::x.2.map fun o=>sepB [32] (wsT o.2):=by
 rw[qow];refine qav (by simp) fun t a=>?_
 rcases zbf.1 a with rfl|a
 .exact qg1 no59.1 no59.2
 .obtain⟨o,-,rfl⟩:=zbe.1 a
  exact qr7 o.2
theorem cutW {t:List Int} (h:t≠ []):Lib.split (q1w [32] (wsT t)) [32]=wsT t:=
 qdd (by unfold wsT;simpa using h) (qrc no32.1 no32.2)
theorem qs6 (t:List Int):splL 32 (sepB [32] (wsT t))= []::wsT t:=by
 have e:sepB [32] (wsT t)=q1w [32] ([]::wsT t):=by rw[q3d];rfl
 rw[e];refine qav (by simp) fun w a=>?_
 rcases zbf.1 a with rfl|a
 .simp
 .exact qrc no32.1 no32.2 w a
theorem AlgP.tab_ne {x:qi} (h:AlgP x):∀o∈x.2,o.2≠ []:=fun o c e=>by
 obtain⟨d,f,g,b⟩:=h;have a:=(b o c).2.2.1;rw[e]at a;have:=Nat.pow_pos (n:=o.1.toNat) (show 0<x.1.toNat by omega);simp at a;omega
theorem qr1 {t:List Int} (h:t≠ []):sepB [32] (wsT t)= [32]++q1w [32] (wsT t):=by
 rcases t with _|⟨v,l⟩
 .exact absurd rfl h
 .exact qf5 _ _ _
theorem qc6 {n:Int}:∀ {ops:List OpM},(∀o∈ops,o.2≠ [])->sepB [59] (ops.map fun o=>sepB [32] (wsT o.2))=sepB [59,32] (ops.map fun o=>q1w [32] (wsT o.2))
 | [],_=>rfl
 | o :: l, h => by
   have ih := qc6 (n := n) (ops := l) fun c a => h c (zap _ a)
   have b := qr1 (h o (zaq ..));unfold sepB at ih ⊢;rw [zcz, zcz, zc6, zcz, zcz, zc6, ih];unfold sepB at b;rw [b];rfl
theorem qmw {x:qi} (h:AlgP x):txR x=txA x:=by
 unfold txR txA;rw[qc6 (n:=x.1) h.tab_ne]
theorem qij:∀ {a b:List OpM},(∀o∈a,o.2≠ [])->(∀o∈b,o.2≠ [])->(a.map fun o=>q1w [32] (wsT o.2))=(b.map fun o=>q1w [32] (wsT o.2))->a.map (·.2)=b.map (·.2)
 | [], [],_,_,_=>rfl
 | [],_::_,_,_,h=>by simp at h
 |_::_, [],_,_,h=>by simp at h
 | o :: a, p :: b, ha, hb, h => by
   simp only [zcz] at h;injection h with h1 h2
   have e1 := cutW (ha o (zaq ..));rw [h1, cutW (hb p (zaq ..))] at e1;rw [zcz, zcz, qdq e1.symm, qij (fun o c => ha o (zap _ c)) (fun o c => hb o (zap _ c)) h2]
theorem qar {n:Nat}:∀ {a b:List OpM},(∀o∈a,o.1=arL n o.2.length)->(∀o∈b,o.1=arL n o.2.length)->a.map (·.2)=b.map (·.2)->a=b
 | [], [],_,_,_=>rfl
 | [],_::_,_,_,h=>by simp at h
 |_::_, [],_,_,h=>by simp at h
 | o :: a, p :: b, ha, hb, h => by
   simp only [zcz] at h;injection h with h1 h2
   have e1 := ha o (zaq ..);have d := hb p (zaq ..);rw [h1, <- d] at e1;rw [qar (fun o c => ha o (zap _ c)) (fun o c => hb o (zap _ c)) h2, Prod.ext e1 h1]
theorem qr9 {x y:qi} (d:GoodA x) (e:GoodA y) (h:txA x=txA y):x=y:=by
 have b:=cutA x;rw[h,cutA y]at b;injection b with b h2
 have c:=(q80 b).symm;have f:=qij e.1.tab_ne d.1.tab_ne h2;have a:=e.2;unfold ArP at a;rw[<-c]at a;exact Prod.ext c (qar d.2 a f.symm)
open Classical in
noncomputable def parA (s:ByteArray):Option qi:=if h:∃x,GoodA x/\s=mk (txA x)then some (Classical.choose h)else none
theorem qas {s:ByteArray} {x:qi} (c:GoodA x) (h:s=mk (txA x)):parA s=some x:=by
 have a:∃x,GoodA x/\s=mk (txA x):=⟨x,c,h⟩;unfold parA;rw[dif_pos a];have b:=Classical.choose_spec a;have d:mk (txA x)=mk (txA (Classical.choose a)):=h.symm.trans b.2;rw[<-qr9 c b.1 (q87 d)]
theorem qeu {s:ByteArray} (h:∀x,GoodA x->s≠mk (txA x)):parA s=none:=by
 unfold parA;rw[dif_neg];rintro⟨x,a,b⟩;exact h x a b
theorem qm3 {s:ByteArray} {x:qi} (h:parA s=some x):GoodA x/\s=mk (txA x):=by
 by_cases he:∃x,GoodA x/\s=mk (txA x)
 .obtain⟨u,a,b⟩:=he
  rw[qas a b]at h;injection h with h
  subst h;exact⟨a,b⟩
 .rw[qeu fun v a b=>he ⟨v,a,b⟩]at h
  cases h
theorem GoodA.inD {x:qi} (h:GoodA x):∀o∈x.2,∀v∈o.2,InD v:=fun o b v c=>by
 obtain⟨d,e,f,a⟩:=h.1;have:=(a o b).2.2.2 v c;unfold InD;omega
def WsIs (ws:List Bs) (t:List Int):Prop:=ws=wsT t/\∀v∈t,InD v
def OpsIs (n:Nat) (ps:List Bs) (ops:List OpM):Prop:=ps.length=ops.length/\∀(k:Nat) (p:Bs) (o:OpM),ps[k]?=some p->ops[k]?=some o->WsIs (Lib.split p [32]) o.2/\o.1=arL n o.2.length
def OpsIsR (n:Nat) (ps:List Bs) (ops:List OpM):Prop:=ps.length=ops.length/\∀(k:Nat) (p:Bs) (o:OpM),ps[k]?=some p->ops[k]?=some o->(∃ws,splL 32 p= []::ws/\WsIs ws o.2)/\o.1=arL n o.2.length
theorem qj2 {x:qi} (h:GoodA x):Lib.split (txA x) [59,32]=Lib.itoa x.1::(x.2.map fun o=>q1w [32] (wsT o.2))/\InD x.1/\OpsIs x.1.toNat (x.2.map fun o=>q1w [32] (wsT o.2)) x.2:=by
 refine⟨cutA x,by have:=h.1.1;have:=h.1.2.1;unfold InD;omega,by simp,fun k p o a c=>?_⟩;rw[za2,c]at a;injection a with a
 subst a;have b:=zaf c;exact⟨⟨cutW (h.1.tab_ne o b),h.inD o b⟩,h.2 o b⟩
theorem qfv {x:qi} (h:GoodA x):splL 59 (txA x)=Lib.itoa x.1::(x.2.map fun o=>sepB [32] (wsT o.2))/\InD x.1/\OpsIsR x.1.toNat (x.2.map fun o=>sepB [32] (wsT o.2)) x.2:=by
 rw[<-qmw h.1];refine⟨cutR x,by have:=h.1.1;have:=h.1.2.1;unfold InD;omega,by simp,fun k p o a b=>?_⟩;rw[za2,b]at a;injection a with a
 subst a;have c:=zaf b;exact⟨⟨_,qs6 _,rfl,h.inD o c⟩,h.2 o c⟩
def TabP (w:World):Prop:=Tab w/\(∃m:Int,w.cell? ⟨0,0,none⟩=some (.int .i64 m))/\(∃tp p,w.var? Tryz.prog "strconv.ErrSyntax"=some #[.iface tp p])/\(∃tp p,w.var? Tryz.prog "strconv.ErrRange"=some #[.iface tp p])
theorem qiq {w w':World} {n:String} {cs:Array Value} (c:Below w.heap.size w w') (h:w.var? Tryz.prog n=some cs):w'.var? Tryz.prog n=some cs:=by
 unfold World.var? at h⊢;cases hg:Tryz.prog.globalNamed n with
 |none=>rw[hg]at h;cases h
 | some g =>
   rw [hg] at h;simp only [Option.bind_some] at h ⊢;have b : g < w.heap.size := by
     rcases zc9 g w.heap.size with a | a
     . exact a
     . rw [Array.getElem?_eq_none a] at h; cases h
   rw [c.block g b];exact h
theorem TabP.next {w w':World} (h:TabP w) (a:Below w.heap.size w w'):TabP w':=by
 obtain⟨b,⟨m,c⟩,⟨tp,p,d⟩,⟨f,q,e⟩⟩:=h;exact⟨b.next a,⟨m,qe a c⟩,⟨tp,p,qiq a d⟩,⟨f,q,qiq a e⟩⟩
theorem qac (v:Int) (c:InD v) (w:World) (b:Tab w):Calls Tryz.prog 143 #[.int .i64 v] w (Bl w (.string (mk (Lib.itoa v)))):=by
 obtain⟨e,f⟩:=c;refine(Tryz.strconv_Itoa v (by omega) (by omega) w b).mono fun _ _ ⟨a,k,g,d⟩=>⟨a,?_⟩
 rw[d];exact qiw _ _ _
theorem qcj (v:Int) (w:World) (f: -9223372036854775808<=v/\v<=9223372036854775807) (d:Tab w):
  Calls Tryz.prog 140 #[.int .i64 v] w (fun e w'=>Below w.heap.size w w'/\((InD v/\e=.returned (.tuple #[.string (mk (Lib.itoa v)),.bool true]))\/(¬InD v/\e=.returned (.tuple #[.string ⟨#[]⟩,.bool false])))):=by
 by_cases h1:v< -999999
 .go_enter Tryz.func140,Tryz.ntmps140
  go_wp2_with fail
  go_ret2
  exact⟨zac _ _,.inr ⟨fun h=>by have:=h.1;omega,rfl⟩⟩
 .by_cases h2:999999<v
  .go_enter Tryz.func140,Tryz.ntmps140
   go_wp2_with fail
   go_ret2
   exact⟨zac _ _,.inr ⟨fun h=>by have:=h.2;omega,rfl⟩⟩
  .have hd:InD v:=⟨by omega,by omega⟩
   have b:=zaa (qac v hd w d);have a:=zaa hd;clear hd
   go_enter Tryz.func140,Tryz.ntmps140
   go_wp2_with fail;refine b.out.mono ?_;rintro e g ⟨rfl,c⟩;go_wp2_with fail
   go_ret2
   exact⟨c,.inl ⟨a.out,rfl⟩⟩
noncomputable def rdN (s:ByteArray):Int:=(q3l s).getD 0
noncomputable def rdB (s:ByteArray):Bool:=(q3l s).isSome
theorem q7q {s:ByteArray} {v:Int} (h:q3l s=some v):rdN s=v/\rdB s=true:=by unfold rdN rdB;rw[h];exact⟨rfl,rfl⟩
theorem q45 {s:ByteArray} (h:q3l s=none):rdN s=0/\rdB s=false:=by unfold rdN rdB;rw[h];exact⟨rfl,rfl⟩
theorem q46 {s:ByteArray} {v:Int} {b:Bool} (h:rdN s=v/\rdB s=b):Ending.returned (.tuple #[.int .i64 v,.bool b])=.returned (.tuple #[.int .i64 (rdN s),.bool (rdB s)]):=by rw[h.1,h.2]
theorem qma {s:ByteArray} {v:Int} (a:InD v) (h:s=mk (Lib.itoa v)):Lib.atoiAll s.data.toList=.ok v:=by rw[h];exact qkc a
theorem qf0 {s:ByteArray} (h:∀v,Lib.atoiAll s.data.toList≠ .ok v):q3l s=none:=q74 fun v a e=>h v (qma a e)
theorem qqx {s:ByteArray} {v:Int} (h:Lib.atoiAll s.data.toList=.ok v):(InD v->s=mk (Lib.itoa v)->q3l s=some v)/\((¬InD v\/s≠mk (Lib.itoa v))->q3l s=none):=by
 refine⟨fun a c=>q3t a c,fun a=>q74 fun u b e=>?_⟩;have:=qma b e;rw[h]at this;injection this with this
 subst this
 rcases a with a|a
 .exact a b
 .exact a e
theorem qpz:∀ {l:Bs} {v:Int},Lib.atoiAll l=.ok v-> -9223372036854775808<=v/\v<=9223372036854775807
 | [],v,h=>by cases h
 | c :: r, v, h => by
   unfold Lib.atoiAll at h;simp only at h
   split at h
   . cases h
   . cases h
   . split at h
     . cases h
     . split at h
       . cases h
       . injection h with h
         subst h
         rename_i h1 h2
         split
         . rename_i h3
           have : ¬ 9223372036854775808 < (_ : Nat) := fun a => h2 ⟨h3, a⟩
           omega
         . rename_i h3
           have : ¬ 9223372036854775808 <= (_ : Nat) := fun a => h1 ⟨h3, a⟩
           omega
theorem q99 (s:ByteArray) (w:World) (B:s.size<=1099511627776) (z:TabP w):
  Calls Tryz.prog 81 #[.string s] w (Bl w (.tuple #[.int .i64 (rdN s),.bool (rdB s)])):=by
 obtain⟨f,m,⟨tp,p,g⟩,⟨A,q,i⟩⟩:=z;cases h:Lib.atoiAll s.data.toList with
 | ok v =>
   have d := zaa (Tryz.strconv_Atoi_ok s (by omega) v h w);have k := zaa (qqx h);have r := zaa (qpz h);have x := zaa f;clear h f m g i
   go_enter Tryz.func81, Tryz.ntmps81
   go_wp2_with fail;refine d.out.mono ?_;rintro e j ⟨rfl, o⟩;have a : Below w.heap.size w j := by
     rcases o with rfl | ⟨t, rfl⟩
     . exact zac _ _
     . exact Lib.bytesWorld_below _ _ _
   clear o;go_wp2_with fail;refine (qcj v j r.out (x.out.next a)).mono ?_;rintro e C ⟨n, y⟩;have l := q9 a n rfl
   rcases y with ⟨hd, rfl⟩ | ⟨hd, rfl⟩
   rotate_left
   . have b : Hid (q3l s = none) := k.out.2 (.inl hd)
     clear hd;go_wp2_with fail
     go_ret2
     exact ⟨q46 (q45 b.out), l⟩
   . have u := zaa hd
     clear hd;obtain ⟨t, c⟩ : ∃ t, Hid (mk (Lib.itoa v) = t) := ⟨_, rfl⟩;rw [c.out]
     by_cases he : t = s
     . have b : Hid (q3l s = some v) := k.out.1 u.out (by rw [<- he, c.out])
       have hd : (t.toList == s.toList) = true := q3p (q2f.2 he);clear he;go_wp2_with fail
       go_ret2
       exact ⟨q46 (q7q b.out), l⟩
     . have b : Hid (q3l s = none) := k.out.2 (.inr (fun e => he (by rw [e, c.out])))
       have hd : (t.toList == s.toList) = false := q3p (q7a.2 he);clear he;go_wp2_with fail
       go_ret2
       exact ⟨q46 (q45 b.out), l⟩
 | «syntax» =>
   have d := zaa (Tryz.strconv_Atoi_syntax_var s (by omega) h tp p w g);have b : Hid (q3l s = none) := qf0 fun v e => by rw [h] at e; cases e
   clear h f m g i
   go_enter Tryz.func81, Tryz.ntmps81
   go_wp2_with fail;refine d.out.mono ?_;rintro e j ⟨N, rfl, -, -, a⟩;go_wp2_with fail
   go_ret2
   exact ⟨q46 (q45 b.out), a⟩
 | range =>
   have d := zaa (Tryz.strconv_Atoi_range_var s (by omega) h A q w i);have b : Hid (q3l s = none) := qf0 fun v e => by rw [h] at e; cases e
   clear h f m g i
   go_enter Tryz.func81, Tryz.ntmps81
   go_wp2_with fail;refine d.out.mono ?_;rintro e j ⟨N, rfl, -, -, a⟩;go_wp2_with fail
   go_ret2
   exact ⟨q46 (q45 b.out), a⟩
theorem q8p (v:Int) (f:InD v) (w:World):Calls Tryz.prog 156 #[.int .i64 v] w (Qt w (.string (mk (Lib.itoa v)))):=by
 obtain⟨g,i⟩:=f
 by_cases h:v<0
 .obtain⟨u,rfl⟩:∃u:Nat,v= -(u:Int):=⟨v.natAbs,by omega⟩
  have b:=qe8 u (by omega);have l:1<=u:=by omega
  have c:Hid ((⟨#[45]⟩:ByteArray)++mk (Lib.decDigits u)=mk (Lib.itoa (-(u:Int)))):=by
   show _=_
   apply qlo;rw[qh9,q3x h,q9x,show(-(u:Int)).natAbs=u by omega];rfl
  have a:IntKind.i64.wrap (-(-(u:Int)))=(u:Int):=by rw[Int.neg_neg];exact zck _ (by omega)
  have m:=cat (⟨#[45]⟩:ByteArray) (mk (Lib.decDigits u)) (by
   have j:=q9y (u:=u) (by omega);rw[q60];show 1+_<=_
   omega)
  have k: -(u:Int)<0:=by omega
  have d:=zaa b;clear b
  go_enter Tryz.func156,Tryz.ntmps156
  go_wp2_with fail
  (try rw[a])
  refine(d.out w).mono ?_;rintro e n ⟨rfl,hd⟩;go_wp2_with fail;go_ret;exact⟨qd6 c.out,hd⟩
 .obtain⟨u,rfl⟩:∃u:Nat,v=(u:Int):=⟨v.toNat,by omega⟩
  rw[q3y (by omega),za5];exact qe8 u (by omega) w
theorem q8o:(Tryz.prog.info? 9).map (fun i=>(i.zero,i.size,i.bytes))=some (some (.string ⟨#[]⟩),1,16):=by kernel_rfl
def strs (l:List Bs):List Value:=l.map fun s=>.string (mk s)
theorem qfe (l:List Bs) (s:Bs):strs (l++ [s])=strs l++ [.string (mk s)]:=by simp[strs]
def RSb (_:World) (v:Value) (x:Bs):Prop:=v=.string (mk x)
theorem q9q:Stab RSb:=fun _ _ _ _ _ h=>h
def SplAt (b:UInt8) (l:Bs) (out:List Bs) (q i:Nat):Prop:=out++splL b (l.drop q)=splL b l/\∀j,q<=j->j<i->l[j]?≠some b
theorem SplAt.start (b:UInt8) (l:Bs):SplAt b l [] 0 0:=⟨by simp,fun j _ h=>by omega⟩
theorem SplAt.skip {b:UInt8} {l:Bs} {a:List Bs} {q i:Nat} (h:SplAt b l a q i) (hi:l[i]?≠some b):SplAt b l a q (i+1):=by
 refine⟨h.1,fun j d e=>?_⟩
 rcases zc9 j i with c|c
 .exact h.2 j d c
 .have:j=i:=by omega
  subst this;exact hi
theorem qd1 {b:UInt8} {l:Bs} {q i:Nat} (h:∀j,q<=j->j<i->l[j]?≠some b):b∉(l.drop q).take (i - q):=fun c=>by
 obtain⟨j,a⟩:=zbo c;rw[zd3]at a
 split at a
 .rw[zds]at a
  exact h (q+j) (by omega) (by omega) a
 .cases a
theorem SplAt.cut {b:UInt8} {l:Bs} {a:List Bs} {q i:Nat} (h:SplAt b l a q i) (m:q<=i) (hi:l[i]?=some b):SplAt b l (a++ [(l.drop q).take (i - q)]) (i+1) (i+1):=by
 refine⟨?_,fun j c f=>by omega⟩;have d:=(zag.1 hi).1;have e:l.drop q=(l.drop q).take (i - q)++b::l.drop (i+1):=by
  have c:=zcv (i - q) (l.drop q);rw[List.drop_drop,show q+(i - q)=i by omega,zbq d]at c;have f:l[i]=b:=(zag.1 hi).2;rw[f]at c;exact c.symm
 have g:=qd1 h.2;obtain⟨X,k⟩:∃X,X=(l.drop q).take (i - q):=⟨_,rfl⟩;rw[<-k]at e g⊢;rw[<-h.1,e,qdc g];simp
theorem SplAt.done {b:UInt8} {l:Bs} {a:List Bs} {q i:Nat} (h:SplAt b l a q i) (hi:l.length<=i):splL b l=a++ [l.drop q]:=by
 rw[<-h.1,qgy];intro d;obtain⟨j,c⟩:=zbo d;rw[zds]at c;have:=(zag.1 c).1;exact h.2 (q+j) (by omega) (by omega) c
theorem qqz {A:Option Addr} {n m c:Nat} (h:n=m):Ending.returned (.slice A n c)=.returned (.slice A m c):=by rw[h]
def qk2 (w:World) (l:List Bs) (e:Ending) (w':World):Prop:=∃A c,e=.returned (.slice A l.length c)/\RdL RSb w' A l.length l/\Below w.heap.size w w'
def qrd (w:World) (l:List Bs) (e:Ending) (w':World):Prop:=∃A c,e=.returned (.slice A l.length c)/\w'.ownsRow w.heap.size 9 1 (.slice A l.length c) l.length (strs l)/\Below w.heap.size w w'/\l.length<=maxLen
theorem qbx {w w':World} {j s e m s1 s2 o z:Nat} {p q:Value} {r A:List Value} (n:w.ownsRow j e s1 p o r) (t:w.ownsRow s m s2 q z A) (v:e≠m) (x:w.grownBy w' q.ownBlock):w'.ownsRow j e s1 p o r:=by
 refine⟨n.1,?_⟩
 rcases n.2 with h|⟨g,c,d,y,u,f,b⟩
 .exact .inl h
 .refine .inr ⟨g,c,d,y,u,?_,b⟩
  rw[x.block g (zd8.1 f).1 ?_]
  .exact f
  .intro i
   rcases t.2 with⟨rfl,-⟩|⟨B,k,l,rfl,-,a,-⟩
   .simp[Value.ownBlock]at i
   .simp only[Value.ownBlock,zc5]at i
    subst i;rw[f]at a;injection a with a
    injection a with _ h3 _
    exact v h3
theorem qgs {w:World} {base n c:Nat} {A:Option Addr} {l:List Bs} (d:n<=maxLen) (h:w.ownsRow base 9 1 (.slice A n c) n (strs l)) (b:l.length=n):RdL RSb w A n l:=by
 obtain⟨g,i,e,f⟩:=RdL.ofOwn (R:=RSb) d h b (fun k x a=>⟨.string (mk x),by simp[strs,a],rfl⟩);injection e with e1 e2 e3
 subst e1;exact f
theorem qae (s:ByteArray) (b:UInt8) (c:Int) (u:(b.toNat:Int)=c) (w:World) (M:s.size<=1073741824):
  Calls Tryz.prog 94 #[.string s,.int .u8 c] w (qrd w (splL b (bs s))):=by
 subst u
 go_enter Tryz.func94,Tryz.ntmps94
 go_wp2
 go_loopw [5,6,7] (fun v f i wr=>∃(k q m:Nat) (out:List Bs) (A:Option Addr) (c:Nat),k<=s.size/\q<=k/\m<=k/\i=.int .i64 k/\f=.int .i64 q/\v=.slice A m c/\out.length=m/\wr.ownsRow w.heap.size 9 1 (.slice A m c) m (strs out)/\SplAt b (bs s) out q k/\Below w.heap.size w wr) (fun _ _ i _=>s.size - (intOf i).toNat)
 case atStart=>exact⟨0,0,0, [],_,_,zah _,zad _,zad _,rfl,rfl,rfl,rfl,zb7 _ _ _ (zad _) (zah _) rfl,SplAt.start _ _,qm _ _⟩
 case round=>
  obtain⟨k,q,m,out,A,c,L,z,J,rfl,rfl,rfl,l,e,H,o⟩:=hrel;have g:=zaa l;clear l;have d:=o.size
  by_cases hlt:k<s.size
  .have C:Hid ((bs s)[k]?=some s[k]):=by
    show(s.data.toList)[k]?=_;rw[zae (by exact hlt)];rfl
   rcases hb:((s[k].toNat:Int)==(b.toNat:Int))with _|_
   .have E:Hid ((bs s)[k]?≠some b):=by
     show ¬_
     rw[C.out];rintro h;injection h with h
     rw[h]at hb;simp at hb
    go_wp2
    go_roundw
    case rel=>exact⟨k+1,q,m,out,A,c,by omega,by omega,by omega,by go_num,rfl,rfl,g.out,e,H.skip E.out,o⟩
    case measure=>simp[intOf];omega
   .have F:Hid ((bs s)[k]?=some b):=by
     show _=_
     rw[C.out];have:s[k].toNat=b.toNat:=by have:=zdx.1 hb;omega
     rw[UInt8.toNat_inj.1 this]
    have r:Hid (s.extract q k=mk (((bs s).drop q).take (k - q))):=by
     show _=_
     apply qlo;rw[qbi]
    have y:(0:Int)<=(q:Int):=by omega
    have n:(q:Int)<=(k:Int):=by omega
    have G:(0:Int)<=(k:Int):=by omega
    have I:(k:Int)<=(s.size:Int):=by omega
    go_wp2_with (at_builtin;refine app1 wr rfl _ _ 117 9 rfl (.string ⟨#[]⟩) 16 Tryz.underlying117 q8o rfl (by decide) w.heap.size m c A (strs out) rfl e (.string (s.extract q k)) rfl rfl (by omega) d ?_;intro p t K a x j)
    go_roundw
    case rel=>exact⟨k+1,k+1,m+1,out++ [((bs s).drop q).take (k - q)],p,t,by omega,by omega,by omega,by go_num,by go_num,rfl,by rw[zbs,g.out];rfl,by rw[qfe,<-r.out];exact a,H.cut z F.out,o.trans j⟩
    case measure=>simp[intOf];omega
  .obtain rfl:k=s.size:=by omega
   have r:Hid (s.extract q s.size=mk ((bs s).drop q)):=by
    show _=_
    apply qlo;rw[qbi,zar (by rw[zct,qgv];omega)]
   have B:=zaa (H.done (zad _));have y:(0:Int)<=(q:Int):=by omega
   have n:(q:Int)<=(s.size:Int):=by omega
   go_wp2_with (at_builtin;refine app1 wr rfl _ _ 117 9 rfl (.string ⟨#[]⟩) 16 Tryz.underlying117 q8o rfl (by decide) w.heap.size m c A (strs out) rfl e (.string (s.extract q s.size)) rfl rfl (by omega) d ?_;intro p t K a x j)
   go_ret;have D:(splL b (bs s)).length=m+1:=by rw[B.out,zbs,g.out];rfl
   refine⟨p,t,qqz D.symm,?_,o.trans j,by unfold maxLen;omega⟩;rw[D];rw[B.out,qfe,<-r.out];exact a
theorem qg5 (s:ByteArray) (b:UInt8) (c:Int) (a:(b.toNat:Int)=c) (w:World) (h:s.size<=1073741824):
  Calls Tryz.prog 94 #[.string s,.int .u8 c] w (qk2 w (splL b (bs s))):=by
 refine(qae s b c a w h).mono ?_;rintro e w' ⟨A,c,rfl,g,d,f⟩;exact⟨A,c,rfl,qgs f g rfl,d⟩
theorem q76 (s sep:ByteArray):(Lib.splitB sep 0 (Lib.countB s sep) s).map bs=Lib.split (bs s) (bs sep):=Lib.splitB_data sep 0 _ s
theorem q8j (s sep:ByteArray) (c:1<=sep.size):(Lib.splitB sep 0 (Lib.countB s sep) s).length=Lib.countB s sep+1:=by
 have b:∀(k:Nat) (t:ByteArray),Lib.countB t sep=k->(Lib.splitB sep 0 k t).length=k+1:=by
  intro k
  induction k with
  |zero=>intro t _;rfl
  | succ k ih =>
    intro t a
    rcases Lib.indexB_cases t sep with h | ⟨i, h, -⟩
    . rw [Lib.countB_miss _ _ h] at a
      cases a
    . rw [Lib.countB_hit _ _ i c h] at a
      rw [Lib.splitB_hit _ _ _ _ i h, za0, ih _ (by omega)]
 exact b _ s rfl
theorem q8f (s sep:ByteArray) (w:World) (l:s.size<=1073741824) (d:1<=sep.size) (i:TabP w):
  Calls Tryz.prog 80 #[.string s,.string sep] w fun e w'=>e=.returned (.slice (some ⟨w.heap.size,0,none⟩) (Lib.split (bs s) (bs sep)).length (Lib.split (bs s) (bs sep)).length)/\RdL RSb w' (some ⟨w.heap.size,0,none⟩) (Lib.split (bs s) (bs sep)).length (Lib.split (bs s) (bs sep))/\Below w.heap.size w w':=by
 obtain⟨-,⟨m,h⟩,-⟩:=i;have a:(Lib.split (bs s) (bs sep)).length=Lib.countB s sep+1:=by rw[<-q76,zbz,q8j _ _ d]
 have j:Lib.countB s sep<=s.size+1:=Lib.count_le _ _;refine(Tryz.strings_Split s sep m w (by omega) h d).mono ?_;rintro e w' ⟨rfl,rfl⟩;rw[a];have g:=qm w (.cells ((Lib.splitB sep 0 (Lib.countB s sep) s).map Value.string).toArray 9);refine⟨rfl,?_,g⟩;have f:=Blk.new w 9 ((Lib.splitB sep 0 (Lib.countB s sep) s).map Value.string).toArray;refine⟨a,by unfold maxLen;omega,fun k x b=>⟨w.heap.size,0,.string (mk x),rfl,?_,rfl⟩⟩;have c:=f.cell k;rw[zcn,c];rw[<-q76,za2]at b;rw[List.getElem?_toArray,za2];cases hq:(Lib.splitB sep 0 (Lib.countB s sep) s)[k]? with
 |none=>rw[hq]at b;cases b
 | some t =>
   rw [hq] at b;injection b with b
   rw [<- b, qqo];rfl
theorem qs4 (l:Bs):(tl l).length<=l.length:=by
 unfold tl
 split
 .rw[zct];omega
 .exact zad _
theorem q8q (s:ByteArray) (w:World) (hs:s.size<=1099511627776):Calls Tryz.prog 95 #[.string s] w (Qt w (.tuple #[.int .i64 (rdN s),.bool (rdB s)])):=by
 obtain⟨T,l⟩:∃T,Hid (bs T=tl (bs s)):=⟨mk (tl (bs s)),rfl⟩;have I:T.size<=s.size:=by
  have:=qs4 (bs s);rw[<-l.out]at this;exact this
 have Q:=zaa I;have d:Hid (mk (bs s)=s):=qqo s;have x:(bs T).length=T.size:=rfl;have z:(bs s).length=s.size:=rfl;have o:=zaa (zao x z);clear x z
 go_enter Tryz.func95,Tryz.ntmps95
 go_upto_region 2 with fail;obtain⟨p,g⟩:∃p,Hid ((decide (1<s.size) &&decide ((bs s)[0]?=some 45))=p):=⟨_,zaa rfl⟩
 go_cut [15]from 8 to 15 (fun u15 wx=>u15=.bool p/\w=wx)
 case first=>
  by_cases h1:(1:Int)<(s.size:Int)
  .have R:0<s.size:=by omega
   have B:(bs s)[0]?=some s[0]:=by
    show(s.data.toList)[0]?=_;rw[zae (by exact R)];rfl
   rcases hb:((s[0].toNat:Int)==45)with _|_
   .have e:p=false:=by
     rw[<-g.out,B];have:¬(some s[0]=some (45:UInt8)):=fun v=>by
      injection v with v
      rw[v]at hb;simp at hb
     rw[zbi this,zd9]
    clear B;go_wp2_with fail;go_meet;exact⟨by rw[e],rfl⟩
   .have e:p=true:=by
     rw[<-g.out,B];have v:s[0].toNat=45:=by have:=zdx.1 hb;omega
     have S:s[0]=45:=UInt8.toNat_inj.1 v;rw[S];simp;omega
    clear B;go_wp2_with fail;go_meet;exact⟨by rw[e],rfl⟩
  .have e:p=false:=by rw[<-g.out,zbi (show ¬ 1<s.size by omega)];rfl
   go_wp2_with fail;go_meet;exact⟨by rw[e],rfl⟩
 case rest=>
 obtain⟨rfl,rfl⟩:=hcut
 go_upto_if 15 with fail
 go_cut [4]from 16 to 17 (fun u4 wx=>u4=.string T/\w=wx)
 case first=>
  rcases p with _|_
  .have E:Hid (¬(1<(bs s).length/\(bs s)[0]?=some 45)):=fun h=>by
    have:=g.out;rw[zbh (show 1<s.size from h.1),zbh h.2]at this;cases this
   go_wp2_with fail;go_meet;refine⟨?_,rfl⟩;have e:tl (bs s)=bs s:=by unfold tl;rw[zaj E.out]
   rw[qbj (l.out.trans e)]
  .have L:Hid (1<(bs s).length/\(bs s)[0]?=some 45):=by
    have:=g.out;rw[zal,zax,zax]at this;exact this
   have V:(1:Int)<=(s.size:Int):=by have:=L.out.1;have:=o.out.2;omega
   go_wp2_with fail;go_meet;refine⟨?_,rfl⟩;have e:tl (bs s)=(bs s).drop 1:=by unfold tl;rw[zam L.out]
   have A:s.extract 1 s.size=T:=by
    apply qbj;rw[qbi,l.out,e,zar (by rw[zct];show s.size - 1<=_;omega)]
   rw[A]
 case rest=>
  obtain⟨rfl,rfl⟩:=hcut
  by_cases hin:1<=T.size/\T.size<=6
  .have D:Hid (inB (T.size:Int) 1 6=true):=by show _=_;unfold inB;simp;omega
   have U:T.size<=6:=hin.2;go_upto_region 4 with fail
   go_wp2_with (go_at_call 68;refine(q26 _ _ _ _).mono ?_;rintro e w' ⟨rfl,rfl⟩;rw[D.out])
   go_loop [5,6] (fun n i=>∃(k q:Nat),k<=T.size/\i=.int .i64 k/\n=.int .i64 q/\q<=999999/\Hid (DvAt (bs T) k q)) (fun _ i=>T.size - (intOf i).toNat)
   case atStart=>exact⟨0,0,zah _,rfl,rfl,by omega,zaa (DvAt.start _)⟩
   case round=>
    obtain⟨k,q,Z,rfl,rfl,hq,H⟩:=hrel
    by_cases hlt:k<T.size
    .have C:Hid ((bs T)[k]?=some T[k]):=by
      show(T.data.toList)[k]?=_;rw[zae (by exact hlt)];rfl
     by_cases hd:isDg T[k]
     .have F:¬(T[k].toNat:Int)<48:=by unfold isDg at hd;omega
      have G:¬(57:Int)<(T[k].toNat:Int):=by unfold isDg at hd;omega
      have E:=zaa (H.out.step C.out hd);have y:=H.out.step C.out hd;have J:=y.bd (by have:=o.out.1;omega);have M:IntKind.u8.wrap ((T[k].toNat:Int) - 48)=(T[k].toNat:Int) - 48:=by have:=T[k].toNat_lt;unfold IntKind.wrap;simp[IntKind.bits,IntKind.signed];omega
      have A:IntKind.i64.wrap ((T[k].toNat:Int) - 48)=(T[k].toNat:Int) - 48:=zck _ (by have:=T[k].toNat_lt;omega);have N:IntKind.i64.wrap (10*(q:Int))=10*(q:Int):=zck _ (by omega);have O:IntKind.i64.wrap (10*(q:Int)+((T[k].toNat:Int) - 48))=((10*q+(T[k].toNat - 48):Nat):Int):=by
       rw[zck _ (by have:=T[k].toNat_lt;omega)];push_cast;omega
      clear y;go_wp2_with fail
      go_round
      case rel=>exact⟨k+1,_,by omega,by go_num,by first|rfl|rw[M,A,N,O]|simp[M,A,N,O],J,E⟩
      case measure=>simp[intOf];omega
     .have f:Hid (rdN s=0/\rdB s=false):=q45 (by
       rw[<-d.out]
       exact qm8 (c:=T[k]) (by rw[<-l.out];exact zaf C.out) hd)
      by_cases F:(T[k].toNat:Int)<48
      .go_wp2_with fail
       go_ret2
       exact⟨q46 f.out,(by first|exact Drawn.zero _|exact Drawn.at_ _ _|exact(Drawn.at_ _ _).more _|exact((Drawn.at_ _ _).more _).more _)⟩
      .have G:(57:Int)<(T[k].toNat:Int):=by unfold isDg at hd;omega
       go_wp2_with fail
       go_ret2
       exact⟨q46 f.out,(by first|exact Drawn.zero _|exact Drawn.at_ _ _|exact(Drawn.at_ _ _).more _|exact((Drawn.at_ _ _).more _).more _)⟩
    .obtain rfl:k=T.size:=by omega
     have K:Hid (DvAt (tl (bs s)) (tl (bs s)).length q):=by
      show DvAt _ _ _
      rw[<-l.out];have:=H.out;rw[<-o.out.1]at this;exact this
     obtain⟨m,u⟩:∃m,Hid (sgn (bs s) q=m):=⟨_,zaa rfl⟩;have P:InD m:=by rw[<-u.out];unfold sgn InD;split<;>omega
     have b:=zaa (q8p m P);obtain⟨X,t⟩:∃X,Hid (mk (Lib.itoa m)=X):=⟨_,zaa rfl⟩;have a:Hid ((X=s->rdN s=m/\rdB s=true)/\(X≠s->rdN s=0/\rdB s=false)):=by
      refine⟨fun e=>q7q ?_,fun e=>q45 ?_⟩
      .have h:=qoj K.out (by rw[<-l.out];have:=o.out.1;omega) (by rw[u.out];apply q87;rw[t.out,d.out];exact e)
       rw[d.out,u.out]at h;exact h
      .have h:=qm9 K.out (by rw[u.out];intro h;apply e;rw[<-t.out,h,d.out])
       rw[d.out]at h;exact h
     have j:Hid (m=if T.size<s.size then -(q:Int)else q):=by
      show _=_
      rw[<-u.out];unfold sgn;rw[<-l.out,o.out.1,o.out.2]
     clear P
     by_cases hl:(T.size:Int)<(s.size:Int)
     .have e:m= -(q:Int):=by rw[j.out,zam (by omega)]
      have W:IntKind.i64.wrap (-(q:Int))= -(q:Int):=zck _ (by omega);rw[e]at b a t;clear e j;go_wp2_with fail
      (try rw[W])
      refine(b.out w).mono ?_;rintro e Y ⟨rfl,hd⟩;rw[t.out]
      by_cases he:X=s
      .have r:(X.toList==s.toList)=true:=q3p (q2f.2 he)
       have f:=zaa (a.out.1 he);clear he;go_wp2_with fail
       go_ret2
       exact⟨q46 f.out,hd⟩
      .have r:(X.toList==s.toList)=false:=q3p (q7a.2 he)
       have f:=zaa (a.out.2 he);clear he;go_wp2_with fail
       go_ret2
       exact⟨q46 f.out,hd⟩
     .have e:m=(q:Int):=by rw[j.out,zaj (by omega)]
      rw[e]at b a t;clear e j;go_wp2_with fail;refine(b.out w).mono ?_;rintro e Y ⟨rfl,hd⟩;rw[t.out]
      by_cases he:X=s
      .have r:(X.toList==s.toList)=true:=q3p (q2f.2 he)
       have f:=zaa (a.out.1 he);clear he;go_wp2_with fail
       go_ret2
       exact⟨q46 f.out,hd⟩
      .have r:(X.toList==s.toList)=false:=q3p (q7a.2 he)
       have f:=zaa (a.out.2 he);clear he;go_wp2_with fail
       go_ret2
       exact⟨q46 f.out,hd⟩
  .have D:Hid (inB (T.size:Int) 1 6=false):=by
    show _=_
    unfold inB;rw[Bool.and_eq_false_iff,zd5,zd5];omega
   have f:Hid (rdN s=0/\rdB s=false):=q45 (by
    rw[<-d.out]
    exact qm7 (by rw[<-l.out,o.out.1];exact hin))
   go_upto_region 4 with fail
   go_wp2_with (go_at_call 68;refine(q26 _ _ _ _).mono ?_;rintro e w' ⟨rfl,rfl⟩;rw[D.out])
   go_ret2
   exact⟨q46 f.out,(by first|exact Drawn.zero _|exact Drawn.at_ _ _|exact(Drawn.at_ _ _).more _|exact((Drawn.at_ _ _).more _).more _)⟩
theorem qfl (m n:Nat) (w:World) (p:n<=8):Calls Tryz.prog 82 #[.int .i64 m,.int .i64 n] w (fun e w'=>e=.returned (.int .i64 (arL n m))/\w=w'):=by
 go_enter Tryz.func82,Tryz.ntmps82
 go_wp2_with fail
 go_loop [5] (fun i=>∃k:Nat,k<=4/\i=.int .i64 k/\Hid (∀j,j<k->n ^ j≠m)) (fun i=>4 - (intOf i).toNat)
 case atStart=>exact⟨0,zah _,rfl,zaa (fun j f=>absurd f (Nat.not_lt_zero _))⟩
 case round=>
  obtain⟨k,s,rfl,H⟩:=hrel
  by_cases h4:k<4
  .have q:(k:Int)<=3:=by omega
   obtain⟨r,c⟩:∃r,Hid (n ^ k=r):=⟨_,zaa rfl⟩;have g:=c.out;have d:=zaa (qez n k r w g p (by omega));clear g
   by_cases he:r=m
   .have b:Hid (((k:Nat):Int)=arL n m):=by
     show _=_
     have a:=H.out;have e:=c.out.trans he;unfold arL;obtain rfl|rfl|rfl|rfl:k=0\/k=1\/k=2\/k=3:=by omega
     .rw[zam e];rfl
     .rw[zaj (a 0 (by omega)),zam e];rfl
     .rw[zaj (a 0 (by omega)),zaj (a 1 (by omega)),zam e];rfl
     .rw[zaj (a 0 (by omega)),zaj (a 1 (by omega)),zaj (a 2 (by omega)),zam e];rfl
    have o:((r:Int)==(m:Int))=true:=by rw[zdx];omega
    clear he
    go_wp2_with (go_at_call 141;refine d.out.mono ?_;rintro e w' ⟨rfl,rfl⟩)
    go_ret;exact⟨q11 b.out,rfl⟩
   .have l:Hid (∀j,j<k+1->n ^ j≠m):=fun j f=>by
     rcases zc9 j k with h|h
     .exact H.out j h
     .obtain rfl:j=k:=by omega
      rw[c.out];exact he
    have o:((r:Int)==(m:Int))=false:=by rw[zbj];omega
    clear he
    go_wp2_with (go_at_call 141;refine d.out.mono ?_;rintro e w' ⟨rfl,rfl⟩)
    go_round
    case rel=>exact⟨k+1,by omega,by go_num,l⟩
    case measure=>simp[intOf];omega
  .obtain rfl:k=4:=by omega
   have b:Hid ((-1:Int)=arL n m):=by
    show _=_
    have a:=H.out;unfold arL;rw[zaj (a 0 (by omega)),zaj (a 1 (by omega)),zaj (a 2 (by omega)),zaj (a 3 (by omega))]
   go_wp2_with fail;go_ret;exact⟨q11 b.out,rfl⟩
theorem qj8 (sep t:Bs) {l:List Bs} (h:l≠ []):q1w sep (l++ [t])=q1w sep l++(sep++t):=by
 rcases l with _|⟨u,l⟩
 .exact absurd rfl h
 .rw[List.cons_append,q3d,q3d,qf6,zeb]
theorem qit {V:List Int} {k:Nat} {v:Int} (h:V[k]?=some v):wsT (V.take (k+1))=wsT (V.take k)++ [Lib.itoa v]:=by
 rw[zbp,h];simp[wsT]
theorem q75 {sep:Bs} {m:Nat}:∀ {l:List Bs},(∀t∈l,t.length<=m)->(sepB sep l).length<=l.length*(sep.length+m)
 | [],_=>by simp[sepB]
 | t :: l, h => by
   have ih := q75 (sep := sep) fun b a => h b (zap _ a)
   have c := h t (zaq ..);have e : sepB sep (t :: l) = (sep ++ t) ++ sepB sep l := by simp [sepB]
   rw [e, zbs, zbs, za0, zet];omega
theorem qe6 {sep:Bs} {m:Nat} {l:List Bs} (h:∀t∈l,t.length<=m):(q1w sep l).length<=l.length*(sep.length+m):=by
 rcases l with _|⟨t,l⟩
 .simp[q1w]
 .have c:=h t (zaq ..)
  have d:=q75 (sep:=sep) fun b a=>h b (zap _ a)
  rw[q3d,zbs,za0,zet];omega
theorem qis {V:List Int} (h:∀v∈V,InD v):∀t∈wsT V,t.length<=7:=fun t a=>by
 obtain⟨v,b,rfl⟩:=zbe.1 a;exact q5u (h v b)
theorem qdp (b:Nat) (l:Bs) (A:Option Addr) (n c:Nat) (V:List Int) (sep:ByteArray) (w:World) (h:Bd w b l) (S:∀wz,Below b w wz->RdL RI wz A n V) (Q:∀v∈V,InD v) (ht:∀wz,Below b w wz->Tab wz) (hn:n<=1000) (hs:sep.size<=10) (hl:l.length<=900000000):
  Calls Tryz.prog 144 #[.pointer (some ⟨b,0,none⟩),.slice A n c,.string sep] w fun e w'=>e=.returned (.tuple #[])/\Bd w' b (l++q1w (bs sep) (wsT V))/\Kb b w w':=by
 have HV:=zaa S;have HD:=zaa Q;have M:=zaa ht;have m:V.length=n:=(S w (zac _ _)).len;have D:=zaa m;have B:Hid (Bd w b (l++q1w (bs sep) (wsT (V.take 0)))):=by show Bd _ _ _;rw[zcw];simpa[wsT,q1w]using h
 have L:Hid (∀k,k<=n->(l++q1w (bs sep) (wsT (V.take k))).length<=900017000):=fun k hk=>by
  have h1:=qe6 (sep:=bs sep) (qis (V:=V.take k) fun v hv=>Q v (zbt hv));rw[q62,za9]at h1;have h2:min k V.length*((bs sep).length+7)<=1000*17:=zci (by omega) (by show sep.size+7<=17;omega);rw[zbs];omega
 clear S Q ht m h
 go_enter Tryz.func144,Tryz.ntmps144
 go_wp2_with fail
 go_loopw [10] (fun i wr=>∃k:Nat,k<=n/\i=.int .i64 (k:Int)/\Bd wr b (l++q1w (bs sep) (wsT (V.take k)))/\Kb b w wr) (fun i _=>n - (intOf i).toNat)
 case atStart=>exact⟨0,zah _,rfl,B.out,Kb.refl _ _⟩
 case round=>
  clear B;obtain⟨k,hk,rfl,a,d⟩:=hrel
  by_cases hlt:k<n
  .have hk0:(0:Int)<=(k:Int):=by omega
   have hk1:(k:Int)<(n:Int):=by omega
   obtain⟨bb,o,u,v,rfl,hc,⟨rfl,hv0,hv1⟩,-,g⟩:=(HV.out wr d.1).at hlt;have G:=HD.out v (zaf g);have E:=zaa (qit g);obtain⟨q,J⟩:∃s,Hid (mk (Lib.itoa v)=s):=⟨_,rfl⟩;have zN:q.size<=7:=by rw[<-J.out];exact q5u G
   have x:bs q=Lib.itoa v:=by rw[<-J.out];rfl
   have C:=zaa x;have Z:Hid (∀wz,Below b w wz->Calls Tryz.prog 143 #[.int .i64 v] wz (Bl wz (.string q))):=fun wz H=>by
    have:=qac v G wz (M.out wz H)
    rwa [J.out]at this
   obtain⟨P,K⟩:∃P,Hid (l++q1w (bs sep) (wsT (V.take k))=P):=⟨_,rfl⟩;have U:=L.out k hk;rw[K.out]at a U
   by_cases H:k=0
   .have p:Hid (l++q1w (bs sep) (wsT (V.take (k+1)))=P++bs q):=by
     show _=_
     rw[E.out,C.out,<-K.out,H];simp[wsT,q1w]
    have X:¬(0:Int)<(k:Int):=by omega
    clear x H g;go_wp2_with fail;refine(Z.out wr d.1).mono ?_;rintro e Y ⟨rfl,f⟩;have r:=a.next f;have y:=d.trans (ql4 a.lt f);have N:=zaa (q32 b P q Y r (by omega));go_wp2_with fail;refine N.out.mono ?_;rintro e w2 ⟨rfl,t,z⟩;go_wp2_with fail
    go_roundw
    case rel=>exact⟨k+1,by omega,by go_num,by rw[p.out];exact t,y.trans z⟩
    case measure=>simp[intOf];omega
   .have p:Hid (l++q1w (bs sep) (wsT (V.take (k+1)))=(P++bs sep)++bs q):=by
     show _=_
     have T:wsT (V.take k)≠ []:=fun e=>by
      have:=zav List.length e;rw[q62,za9,D.out]at this;simp at this;omega
     rw[E.out,C.out,<-K.out,qj8 _ _ T];simp[zeb]
    have X:(0:Int)<(k:Int):=by omega
    have O:=zaa (q32 b P sep wr a (by omega));have W:(bs sep).length=sep.size:=rfl;clear x H g;go_wp2_with fail;refine O.out.mono ?_;rintro e w0 ⟨rfl,F,R⟩;have j:=d.trans R;go_wp2_with fail;refine(Z.out w0 j.1).mono ?_;rintro e Y ⟨rfl,f⟩;have r:=F.next f;have y:=j.trans (ql4 F.lt f);have N:=zaa (q32 b (P++bs sep) q Y r (by rw[zbs,W];omega));go_wp2_with fail;refine N.out.mono ?_;rintro e w2 ⟨rfl,t,z⟩;go_wp2_with fail
    go_roundw
    case rel=>exact⟨k+1,by omega,by go_num,by rw[p.out];exact t,y.trans z⟩
    case measure=>simp[intOf];omega
  .obtain rfl:k=n:=by omega
   have HE:Hid (V.take k=V):=zar (by rw[D.out];exact zad _);rw[HE.out]at a;have I:=zaa a;clear a;go_wp2_with fail
   go_end0
   exact⟨rfl,I.out,d⟩
theorem qov {x:qi} {k:Nat} {o:OpM} (h:x.2[k]?=some o):Lib.itoa x.1++sepB [59,32] ((x.2.take (k+1)).map fun o=>q1w [32] (wsT o.2))=(Lib.itoa x.1++sepB [59,32] ((x.2.take k).map fun o=>q1w [32] (wsT o.2))++ [59,32])++q1w [32] (wsT o.2):=by
 rw[zbp,h];simp[sepB,zeb]
theorem AlgP.inD {x:qi} (h:AlgP x):InD x.1/\∀o∈x.2,o.2.length<=512/\∀v∈o.2,InD v:=by
 obtain⟨j,k,l,a⟩:=h;refine⟨by unfold InD;omega,fun o b=>⟨?_,fun v d=>?_⟩⟩
 .obtain⟨e,f,c,-⟩:=a o b
  rw[c];have g:x.1.toNat ^ o.1.toNat<=8 ^ o.1.toNat:=Nat.pow_le_pow_left (by omega) _;have i:8 ^ o.1.toNat<=8 ^ 3:=Nat.pow_le_pow_right (by decide) (by omega);omega
 .have:=(a o b).2.2.2 v d
  unfold InD;omega
theorem qra {x:qi} (h:AlgP x) (k:Nat):(Lib.itoa x.1++sepB [59,32] ((x.2.take k).map fun o=>q1w [32] (wsT o.2))).length<=100000:=by
 have hd:=h.inD;have f:=q5u hd.1;have c:∀t∈(x.2.take k).map fun o=>q1w [32] (wsT o.2),t.length<=4096:=fun t e=>by
  obtain⟨o,d,rfl⟩:=zbe.1 e;have a:=hd.2 o (zbt d);have b:=qe6 (sep:= [32]) (qis a.2);rw[q62]at b;have g:o.2.length*(([32]:Bs).length+7)<=512*8:=zci a.1 (zad _);omega
 have a:=q75 (sep:= [59,32]) c;rw[zbz,za9]at a;have b:min k x.2.length*(([59,32]:Bs).length+4096)<=4*4098:=zci (by have:=h.2.2.1;omega) (zad _);rw[zbs];omega
theorem q9v (cs:List Value) (x:qi) (w:World) (h:qf.rd w cs x) (Z:AlgP x) (ht:Tab w):Calls Tryz.prog 83 #[.agg cs.toArray] w (Bl w (.string (mk (txA x)))):=by
 have hrd:=h;obtain⟨B,n,d,rfl,-,qo⟩:=qv h;have hle:=qo.le;have HLN:=zaa qo.len;have HD:=zaa Z.inD;obtain⟨H,X,L,u,BP⟩:=q15 w #[.int .i64 x.1,.slice B n d] 24;obtain⟨g,r⟩:∃wb,wb=H.alloc (.cells #[.pointer none,.slice none 0 0] 166):=⟨_,rfl⟩;have b:Below H.heap.size H g:=by rw[r];exact qm _ _
 have T1:=q9 L b rfl;have C:Bd g H.heap.size []:=by rw[r];exact Bd.new _
 have D:H.heap.size=w.heap.size+1:=u;rw[D]at C;have cP0:=(BP.next b).cell 0;have A:=(BP.next b).cell 1;simp at cP0 A;have HW:Hid (g=(w.alloc (.cells #[.int .i64 x.1,.slice B n d] 24)).alloc (.cells #[.pointer none,.slice none 0 0] 166)):=by show _=_;rw[r,X]
 have j:Hid (∀a,Below (w.heap.size+1) g a->Below H.heap.size H a):=fun a f=>by rw[<-D]at f;exact b.trans f
 have HQ0:=zaa (qo.next L);have K:Hid (∀a,Below (w.heap.size+1) g a->Tab a):=fun a f=>(ht.next L).next (j.out a f)
 have hbw:w.heap.size+1<=g.heap.size:=by have:=C.lt;omega
 have W:w.heap.size<w.heap.size+1:=by omega
 have J:Hid (∀a,Below (w.heap.size+1) g a->Below w.heap.size w a):=fun a f=>q9 L (j.out a f) rfl
 obtain⟨S,HS⟩:∃s,Hid (mk (Lib.itoa x.1)=s):=⟨_,rfl⟩;have zS:S.size<=7:=by rw[<-HS.out];exact q5u Z.inD.1
 have HI:Hid (Calls Tryz.prog 143 #[.int .i64 x.1] g (Bl g (.string S))):=by
  have:=qac x.1 Z.inD.1 g (K.out g (zac _ _))
  rwa [HS.out]at this
 have HPX:Hid (bs S=Lib.itoa x.1):=by show _=_;rw[<-HS.out];rfl
 have v:Hid (∀k,(Lib.itoa x.1++sepB [59,32] ((x.2.take k).map fun o=>q1w [32] (wsT o.2))).length<=100000):=qra Z;have HE:Hid (∀k,x.2.length<=k->Lib.itoa x.1++sepB [59,32] ((x.2.take k).map fun o=>q1w [32] (wsT o.2))=txA x):=fun k hk=>by rw[zar hk];rfl
 have z:Hid (∀k o,x.2[k]?=some o->Lib.itoa x.1++sepB [59,32] ((x.2.take (k+1)).map fun o=>q1w [32] (wsT o.2))=(Lib.itoa x.1++sepB [59,32] ((x.2.take k).map fun o=>q1w [32] (wsT o.2))++ [59,32])++q1w [32] (wsT o.2)):=fun k o h=>qov h
 obtain⟨F,I⟩:∃F:Nat->Bs,Hid (∀k,Lib.itoa x.1++sepB [59,32] ((x.2.take k).map fun o=>q1w [32] (wsT o.2))=F k):=⟨fun k=>_,zaa fun k=>rfl⟩;replace v:Hid (∀k,(F k).length<=100000):=fun k=>by rw[<-I.out];exact v.out k
 replace HE:Hid (∀k,x.2.length<=k->F k=txA x):=fun k hk=>by rw[<-I.out];exact HE.out k hk
 replace z:Hid (∀k o,x.2[k]?=some o->F (k+1)=(F k++ [59,32])++q1w [32] (wsT o.2)):=fun k o h=>by rw[<-I.out,<-I.out];exact z.out k o h
 have HF0:Hid (F 0=bs S):=by show _=_;rw[<-I.out,HPX.out,zcw];simp[sepB]
 clear X r u hrd h qo ht L b T1 D BP Z
 go_enter Tryz.func83,Tryz.ntmps83
 go_upto_region 2 with fail;rw[<-HW.out];go_wp2_with fail;refine HI.out.mono ?_;rintro e w2 ⟨rfl,T⟩;have hB2:=C.next T;have T2:=q7h (zac _ _) T hbw;have l:=zaa (q32 _ _ S w2 hB2 (by simp;omega));go_wp2_with fail;refine l.out.mono ?_;rintro e w3 ⟨rfl,O,hk3⟩;have T3:=T2.trans hk3.1;have t:Bd w3 (w.heap.size+1) (F 0):=by rw[HF0.out];simpa using O
 have N:=qrm T3 W A;clear l O;go_wp2_with fail
 go_loopw [13] (fun i wr=>∃q:Nat,q<=n/\i=.int .i64 (q:Int)/\Bd wr (w.heap.size+1) (F q)/\Below (w.heap.size+1) g wr) (fun i _=>n - (intOf i).toNat)
 case atStart=>exact⟨0,zah _,rfl,t,T3⟩
 case round=>
  clear t T3 N;obtain⟨q,hq,rfl,p,c⟩:=hrel;have U:=p.lt;have hlf:=v.out q
  by_cases hlt:q<n
  .have hq0:(0:Int)<=(q:Int):=by omega
   have hq1:(q:Int)<(n:Int):=by omega
   obtain⟨bb,o,vs,y,rfl,-,hc,hr,-,E⟩:=HQ0.out.at hlt;obtain⟨Bm,m,dm,rfl,qa,qt⟩:=rdOp hr;have cc0:wr.cell? ⟨bb,o+q*2,none⟩=some (.int .i64 y.1):=qe (j.out wr c) (hc 0 _ rfl);have cc1:wr.cell? ⟨bb,o+q*2+1,none⟩=some (.slice Bm m dm):=qe (j.out wr c) (hc 1 _ rfl);have HN:=zaa (z.out q y E);have G:=HD.out.2 y (zaf E);have hm:m<=512:=by rw[<-qt.len];exact G.1
   have HYD:=zaa G.2;have HRT:Hid (∀a,Below (w.heap.size+1) wr a->RdL RI a Bm m y.2):=fun a f=>qt.next qd (j.out a (c.trans f))
   obtain⟨w5,Y,T5,hsz5,BX⟩:=q15 wr #[.int .i64 y.1,.slice Bm m dm] 122;have HW5:=zaa Y;have T25:=q7h c T5 (Nat.le_of_lt U);have P:=p.next T5;have l:=zaa (q32 _ _ ⟨#[59,32]⟩ w5 P (by show _+2<=_;omega));have hX0:wr.heap.size≠w.heap.size+1:=by omega
   have N:=qrm T25 W A;clear hc hr E Y G qt;go_upto_region 6 with fail;rw[<-HW5.out];go_wp2_with fail;refine l.out.mono ?_;rintro e w6 ⟨rfl,Q,V⟩;have BX6:=V.blk BX hX0 (by decide);have cX1:=BX6.cell 1;simp at cX1;have T6:=(q7h (zac _ _) T5 (Nat.le_of_lt U)).trans V.1;have M:=c.trans T6;have R:Bd w6 (w.heap.size+1) (F q++ [59,32]):=Q;have HWL:=zaa (qdp _ _ Bm m dm y.2 ⟨#[32]⟩ w6 R (fun a f=>HRT.out a (T6.trans f)) HYD.out (fun a f=>K.out a (M.trans f)) (by omega) (by decide) (by rw[zbs];show _+2<=_;omega));clear l Q P;go_wp2_with fail;refine HWL.out.mono ?_;rintro e w7 ⟨rfl,hB7,hk7⟩;go_wp2_with fail
   go_roundw
   case rel=>exact⟨q+1,by omega,by go_num,by rw[HN.out];exact hB7,M.trans hk7.1⟩
   case measure=>simp[intOf];try omega
  .obtain rfl:q=n:=by omega
   have hq1:¬(q:Int)<(q:Int):=by omega
   rw[HE.out q (by rw[HLN.out];exact zad _)]at p;have HSX:=zaa (qjz _ _ wr p);go_wp2_with fail;refine HSX.out.mono ?_;rintro e w8 ⟨rfl,hb8⟩;go_wp2_with fail;go_ret;exact⟨rfl,J.out _ (c.trans hb8)⟩
theorem qox {x:qi} {k:Nat} {o:OpM} (h:x.2[k]?=some o):Lib.itoa x.1++sepB [59] ((x.2.take (k+1)).map fun o=>sepB [32] (wsT o.2))=(Lib.itoa x.1++sepB [59] ((x.2.take k).map fun o=>sepB [32] (wsT o.2))++ [59])++sepB [32] (wsT o.2):=by
 rw[zbp,h];simp[sepB,zeb]
theorem qrb {x:qi} (h:AlgP x) (k:Nat):(Lib.itoa x.1++sepB [59] ((x.2.take k).map fun o=>sepB [32] (wsT o.2))).length<=100000:=by
 have hd:=h.inD;have f:=q5u hd.1;have c:∀t∈(x.2.take k).map fun o=>sepB [32] (wsT o.2),t.length<=4096:=fun t e=>by
  obtain⟨o,d,rfl⟩:=zbe.1 e;have a:=hd.2 o (zbt d);have b:=q75 (sep:= [32]) (qis a.2);rw[q62]at b;have g:o.2.length*(([32]:Bs).length+7)<=512*8:=zci a.1 (zad _);omega
 have a:=q75 (sep:= [59]) c;rw[zbz,za9]at a;have b:min k x.2.length*(([59]:Bs).length+4096)<=4*4097:=zci (by have:=h.2.2.1;omega) (zad _);rw[zbs];omega
theorem catb {a b:ByteArray} {n m:Nat} (c:a.size<=n) (d:b.size<=m) (h:n+m<=1000000):∃s,bs s=bs a++bs b/\Hid (a++b=s)/\(∀w,(Op.stringOp .add a b).run Tryz.prog w=.ok (.string s) w)/\s.size<=n+m:=
 ⟨a++b,qh9 a b,rfl,cat a b (by omega),by rw[qoo];omega⟩
theorem qjc (cs:List Value) (x:qi) (w:World) (h:qf.rd w cs x) (D:AlgP x):Calls Tryz.prog 97 #[.agg cs.toArray] w (Bl w (.string (mk (txA x)))):=by
 have hrd:=h;obtain⟨B,n,d,rfl,-,X⟩:=qv h;have hle:=X.le;have af:=zaa X.len;have HD:=zaa D.inD;have HTX:=zaa (qmw D);obtain⟨a,W,T0,R,BP⟩:=q15 w #[.int .i64 x.1,.slice B n d] 24;have HW:=zaa W;obtain⟨cP0,K⟩:=cl2 BP;have ah:=zaa (X.next T0);have HT0:=zaa T0;have H:Hid (∀v,InD v->∀f,Calls Tryz.prog 156 #[.int .i64 v] f (Qt f (.string (mk (Lib.itoa v))))):=fun v hv f=>q8p v hv f
 obtain⟨S,HS⟩:∃s,Hid (mk (Lib.itoa x.1)=s):=⟨_,rfl⟩;have zS:S.size<=7:=by rw[<-HS.out];exact q5u D.inD.1
 have ag:Hid (bs S=Lib.itoa x.1):=by show _=_;rw[<-HS.out];rfl
 obtain⟨F,E⟩:∃F:Nat->Bs,Hid (∀k,Lib.itoa x.1++sepB [59] ((x.2.take k).map fun o=>sepB [32] (wsT o.2))=F k):=⟨fun k=>_,zaa fun k=>rfl⟩;have G:Hid (∀k,(F k).length<=100000):=fun k=>by rw[<-E.out];exact qrb D k
 have HE:Hid (∀k,x.2.length<=k->F k=txR x):=fun k hk=>by rw[<-E.out,zar hk];rfl
 have HST:Hid (∀k o,x.2[k]?=some o->F (k+1)=(F k++ [59])++sepB [32] (wsT o.2)):=fun k o h=>by rw[<-E.out,<-E.out];exact qox h
 have ad:Hid (bs S=F 0):=by show _=_;rw[<-E.out,ag.out,zcw];simp[sepB]
 have HI:Hid (Calls Tryz.prog 156 #[.int .i64 x.1] a (Qt a (.string S))):=by
  have:=q8p x.1 D.inD.1 a
  rwa [HS.out]at this
 rw[<-HTX.out];clear W R hrd h X T0 BP D
 go_enter Tryz.func97,Tryz.ntmps97
 go_upto_region 1 with fail;rw[<-HW.out];go_wp2_with fail;refine HI.out.mono ?_;rintro e w1 ⟨rfl,hd1⟩;have hb1:Below a.heap.size a w1:=by obtain⟨z,rfl⟩:=hd1;exact qc (zac _ _) _
 go_wp2_with fail
 go_loopw [3,4] (fun t i wr=>∃(q:Nat) (T:ByteArray),q<=n/\i=.int .i64 (q:Int)/\t=.string T/\Hid (bs T=F q)/\Below a.heap.size a wr) (fun _ i _=>n - (intOf i).toNat)
 case atStart=>exact⟨0,S,zah _,rfl,rfl,ad,hb1⟩
 case round=>
  obtain⟨q,T,hq,rfl,rfl,l,p⟩:=hrel;have cP1q:=qe p K;have zT:T.size<=100000:=by have:=G.out q;rw[<-l.out]at this;exact this
  by_cases hlt:q<n
  .have hq0:(0:Int)<=(q:Int):=by omega
   have hq1:(q:Int)<(n:Int):=by omega
   obtain⟨bb,o,vs,y,rfl,-,hc,hr,-,r⟩:=ah.out.at hlt;obtain⟨Bm,m,dm,rfl,qa,Y⟩:=rdOp hr;have c0:a.cell? ⟨bb,o+q*2+1,none⟩=some (.slice Bm m dm):=hc 1 _ rfl;have HN:=zaa (HST.out q y r);have C:=HD.out.2 y (zaf r);have hm:m<=512:=by rw[<-Y.len];exact C.1
   have HYL:=zaa Y.len;have J:=zaa C.2;have ai:Hid (∀f,Below a.heap.size a f->RdL RI f Bm m y.2):=fun f hz=>Y.next qd hz
   obtain⟨T1,M,HT1,k1,z1⟩:=catb (b:=⟨#[59]⟩) zT (show _<=1 by decide) (by decide);have Z:Hid (bs T1=F q++ [59]++sepB [32] (wsT (y.2.take 0))):=by show _=_;rw[M,l.out,zcw];simp[wsT,sepB];rfl
   clear hc hr r C Y M;go_wp2_with fail;obtain⟨wo,rfl⟩:∃x:World,x=wr:=⟨_,rfl⟩
   go_loopw [3,5] (fun t i f=>∃(j:Nat) (U:ByteArray),j<=m/\i=.int .i64 (j:Int)/\t=.string U/\Hid (bs U=F q++ [59]++sepB [32] (wsT (y.2.take j)))/\U.size<=200000/\Below a.heap.size a f) (fun _ i _=>m - (intOf i).toNat)
   case atStart=>exact⟨0,T1,zah _,rfl,rfl,Z,by omega,p⟩
   case round=>
    obtain⟨j,U,hj,rfl,rfl,HU,zU,c⟩:=hrel;have cP1j:=qe c K;have c1:=qe c c0
    by_cases hjl:j<m
    .have hj0:(0:Int)<=(j:Int):=by omega
     have hj1:(j:Int)<(m:Int):=by omega
     obtain⟨b2,o2,u,v,rfl,hcv,⟨rfl,hv0,hv1⟩,-,A⟩:=(ai.out wr c).at hjl;have Q:=J.out v (zaf A);have I:=zaa (qit A);obtain⟨Nm,g⟩:∃s,Hid (mk (Lib.itoa v)=s):=⟨_,rfl⟩;have zN:Nm.size<=7:=by rw[<-g.out];exact q5u Q
     have L:bs Nm=Lib.itoa v:=by rw[<-g.out];rfl
     have ae:Hid (Calls Tryz.prog 156 #[.int .i64 v] wr (Qt wr (.string Nm))):=by
      have:=H.out v Q wr
      rwa [g.out]at this
     have P:(bs U).length<=105000:=by
      rw[HU.out,zbs,zbs];have h1:=G.out q;have h2:=q75 (sep:= [32]) (qis (V:=y.2.take j) fun v' hv'=>J.out v' (zbt hv'));rw[q62,za9]at h2;have h3:min j y.2.length*(([32]:Bs).length+7)<=512*8:=zci (by omega) (zad _);simp only[List.length_singleton];omega
     have zU':U.size<=105000:=P;obtain⟨U1,N,HU1,k2,z2⟩:=catb (b:=⟨#[32]⟩) zU' (show _<=1 by decide) (by decide);obtain⟨U2,O,HU2,k3,z3⟩:=catb z2 zN (by decide);have aa:Hid (bs U2=F q++ [59]++sepB [32] (wsT (y.2.take (j+1)))):=by
      show _=_
      rw[O,N,HU.out,L,I.out,qf6];simp[zeb];rfl
     clear N O L A P;go_wp2_with fail;refine ae.out.mono ?_;rintro e w3 ⟨rfl,hd3⟩;have hb3:Below wr.heap.size wr w3:=by obtain⟨z,rfl⟩:=hd3;exact qc (zac _ _) _
     have hT3:=q9 c hb3 rfl;go_wp2_with fail
     go_roundw
     case rel=>exact⟨j+1,_,by omega,by go_num,rfl,aa,by omega,hT3⟩
     case measure=>simp[intOf];omega
    .obtain rfl:j=m:=by omega
     have hj1:¬(j:Int)<(j:Int):=by omega
     have ab:Hid (bs U=F (q+1)):=by show _=_;rw[HU.out,HN.out,zar (by rw[HYL.out];exact zad _)]
     obtain⟨wi,rfl⟩:∃x:World,x=wr:=⟨_,rfl⟩;go_wp2_with fail
     go_roundw
     case rel=>exact⟨q+1,U,by omega,by go_num,rfl,ab,c⟩
     case measure=>simp[intOf];omega
  .obtain rfl:q=n:=by omega
   have hq1:¬(q:Int)<(q:Int):=by omega
   have ac:Hid (T=mk (txR x)):=by show _=_;rw[<-HE.out q (by rw[af.out];exact zad _),<-l.out];exact(qqo T).symm
   go_wp2_with fail;go_ret;exact⟨qd6 ac.out,q9 HT0.out p rfl⟩
theorem qn2 {P:Program} (w0:World) {o:Oper} {a:Act} {K:Act->World->Prop} {Q:Exit->Act->World->Prop} (s x:Operand) (t e:TypeId)
  (G:o.op=.call { callee:=.builtin .append,args:= #[s,x],argTypes:= #[t,t] }) (z:Value) (bytes:Nat)
  (I:P.underlying t=some (.slice e)) (hi:(P.info? e).map (fun i=>(i.zero,i.size,i.bytes))=some (some z,2,bytes)) (B:z.cells.size=2) (p:bytes<=64)
  (base n c:Nat) (A:Option Addr) (xs:List Value) (H:a.eval s=.slice A n c) (g:w0.ownsRow base e 2 (.slice A n c) n xs) (u v:Value) (E:u.oneCell'=true) (F:v.oneCell'=true) (J:a.eval x=.slice (some ⟨w0.heap.size,0,none⟩) 1 1)
  (M:n<=1099511627776) (h:base<=w0.heap.size)
  (hK:∀A' c' w',w'.ownsRow base e 2 (.slice A' (n+1) c') (n+1) (xs++ [u,v])->w0.grownBy w' (Value.slice A n c).ownBlock->Below base w0 w'->K (a.put o.dst (.slice A' (n+1) c')) w'):
  o.wp P a (w0.alloc (.cells #[u,v] e)) K Q:=by
 obtain⟨i,hi,L,m,q⟩:=info_parts hi;have f:(n+1)*bytes<=140737488355328:=za7 (zem (n+1) p) (by omega);refine wp_append_own (w0.alloc (.cells #[u,v] e)) s x t G base e i z 2 bytes I hi L m q B (by omega) (.slice A n c) n xs H (g.alloc _) ⟨w0.heap.size,0,none⟩ 1 1 [u,v] J rfl ?_ ?_ (by unfold maxLen;omega) f (by simp;omega) ?_
 .intro j y l
  match j,l with
  |0,l=>simp at l;subst l;simp[Addr.add]
  |1,l=>simp at l;subst l;simp[Addr.add]
 .intro y D
  simp at D
  rcases D with rfl|rfl
  .exact E
  .exact F
 .intro N w' d b _
  obtain⟨A',c',rfl⟩:=qu d;have C:w0.grownBy w' (Value.slice A n c).ownBlock:=
   ⟨b.os,b.tape,b.output,za7 (by simp) b.size,fun k r w=>(b.block k (by simp;omega) w).trans (Below.heap_alloc w0 _ k r)⟩
  exact hK A' c' w' d C ((zac base w0).grown C h (fun k r=>(g.lt k r).1))
theorem app2 {P:Program} (w0:World) {ops:Array Oper} {b:List Oper} {o:Oper} {a:Act} {Q:Exit->Act->World->Prop} (k:o.guard=none) (s x:Operand) (t e:TypeId)
  (w:o.op=.call { callee:=.builtin .append,args:= #[s,x],argTypes:= #[t,t] }) (z:Value) (bytes:Nat)
  (B:P.underlying t=some (.slice e)) (hi:(P.info? e).map (fun i=>(i.zero,i.size,i.bytes))=some (some z,2,bytes)) (l:z.cells.size=2) (j:bytes<=64)
  (base n c:Nat) (A:Option Addr) (xs:List Value) (y:a.eval s=.slice A n c) (f:w0.ownsRow base e 2 (.slice A n c) n xs) (u v:Value) (m:u.oneCell'=true) (g:v.oneCell'=true) (C:a.eval x=.slice (some ⟨w0.heap.size,0,none⟩) 1 1)
  (r:n<=1099511627776) (d:base<=w0.heap.size)
  (hK:∀A' c' w',w'.ownsRow base e 2 (.slice A' (n+1) c') (n+1) (xs++ [u,v])->w0.grownBy w' (Value.slice A n c).ownBlock->Below base w0 w'->wpList P ops Q b (a.put o.dst (.slice A' (n+1) c')) w'):
  wpList P ops Q (o::b) a (w0.alloc (.cells #[u,v] e)):=
 wpList_plain k fun _ h=>qn2 w0 s x t e w z bytes B hi l j base n c A xs y f u v m g C r d fun A' c' w' g p q=>h _ _ (hK A' c' w' g p q)
theorem qfa {P:Program} (w0:World) {ops:Array Oper} {o:Oper} {a:Act} {K:Act->World->Prop} {Q:Exit->Act->World->Prop} {E:Prop} (g:o.guard=none) (s x:Operand) (t e:TypeId)
  (m:o.op=.call { callee:=.builtin .append,args:= #[s,x],argTypes:= #[t,t] }) (z:Value) (bytes:Nat)
  (q:P.underlying t=some (.slice e)) (hi:(P.info? e).map (fun i=>(i.zero,i.size,i.bytes))=some (some z,2,bytes)) (h:z.cells.size=2) (f:bytes<=64)
  (base n c:Nat) (A:Option Addr) (xs:List Value) (p:a.eval s=.slice A n c) (d:w0.ownsRow base e 2 (.slice A n c) n xs) (u v:Value) (j:u.oneCell'=true) (k:v.oneCell'=true) (w:a.eval x=.slice (some ⟨w0.heap.size,0,none⟩) 1 1)
  (l:n<=1099511627776) (b:base<=w0.heap.size)
  (hK:∀A' c' w',w'.ownsRow base e 2 (.slice A' (n+1) c') (n+1) (xs++ [u,v])->w0.grownBy w' (Value.slice A n c).ownBlock->Below base w0 w'->K (a.put o.dst (.slice A' (n+1) c')) w'):
  if Region.wanted o (yielded ops a.tmps)=true then Oper.wp P o a (w0.alloc (.cells #[u,v] e)) K Q else E:=by
 have r:Region.wanted o (yielded ops a.tmps)=true:=by simp[Region.wanted,g]
 rw[zam r];exact qn2 w0 s x t e m z bytes q hi h f base n c A xs p d u v j k w l b hK
theorem q70:(Tryz.prog.info? 122).map (fun i=>(i.zero,i.size,i.bytes))=some (some (.agg #[.int .i64 0,.slice none 0 0]),2,32):=by kernel_rfl
def PO (lo:Nat) (w:World) (v:Value) (xs:List OpM) (css:List (List Value)) (bls:List (List Nat)):Prop:=
 Parts shOp 122 w v xs css bls/\w.ownsRow lo 122 2 v xs.length css.flatten/\Iv lo w.heap.size (obl v++bls.flatten)
theorem qd9 {w:World} {c:List Value} {x:OpM} {d:List Nat} (h:shOp.own w c x d) {b:Nat} (a:b∈d):∃cur fr,w.heap[b]?=some (.cells cur 3 fr):=by
 obtain⟨l,m,j,k,rfl,rfl,⟨_,rfl,-,rfl⟩,⟨v,rfl,i,-,rfl⟩⟩:=h;rw[zch,q1e]at a
 rcases i.2 with⟨rfl,-⟩|⟨g,e,cur,rfl,-,f,-⟩
 .simp[Value.ownBlock]at a
 .simp only[Value.ownBlock,zc5]at a
  subst a;exact⟨_,_,f⟩
theorem q5z {w:World} {base size n:Nat} {e:TypeId} {v:Value} {xs:List Value} (h:w.ownsRow base e size v n xs) {b:Nat} (a:b∈obl v):∃cur fr,w.heap[b]?=some (.cells cur e fr):=by
 rw[q1e]at a
 rcases h.2 with⟨rfl,-⟩|⟨g,c,cur,rfl,-,d,-⟩
 .simp[Value.ownBlock]at a
 .simp only[Value.ownBlock,zc5]at a
  subst a;exact⟨_,_,d⟩
theorem qlv (v:Value):(obl v).Nodup:=by
 unfold obl;cases v.ownBlock<;>simp
section
variable {lo:Nat} {w:World} {v:Value} {xs:List OpM} {css:List (List Value)} {bls:List (List Nat)}
theorem PO.nil (lo:Nat) (w:World):PO lo w (.slice none 0 0) [] [] []:=
 ⟨⟨⟨rfl,.inl ⟨rfl,rfl⟩⟩,rfl,rfl,fun k c x a h=>by simp at h⟩,⟨rfl,.inl ⟨rfl,rfl⟩⟩,Iv.nil _ _⟩
theorem PO.own (h:PO lo w v xs css bls):(Sh.rows shOp 122).own w [v] xs (obl v++bls.flatten):=⟨v,css,bls,rfl,h.1,rfl⟩
theorem PO.next {w':World} (h:PO lo w v xs css bls) (a:Below w.heap.size w w'):PO lo w' v xs css bls:=
 ⟨h.1.same fun b c=>a.block b (h.1.lt b c),qp h.2.1 a,h.2.2.mono (zad _) a.size⟩
theorem PO.same {w':World} (h:PO lo w v xs css bls) (d:w.heap.size<=w'.heap.size) (a:∀b∈obl v++bls.flatten,w'.heap[b]?=w.heap[b]?):PO lo w' v xs css bls:=
 ⟨h.1.same a,q2p h.2.1 fun b c=>a b (zbb _ (q1e.2 c)),h.2.2.mono (zad _) d⟩
theorem PO.mono {lo':Nat} (h:PO lo w v xs css bls) (a:lo'<=lo):PO lo' w v xs css bls:=⟨h.1,ql h.2.1 a,h.2.2.mono a (zad _)⟩
theorem PO.push (h:PO lo w v xs css bls) {j:World} (J:Below w.heap.size w j) (S:lo<=w.heap.size) {c:List Value} {x:OpM} {m:List Nat} (T:shOp.own j c x m) (g:Iv w.heap.size j.heap.size m):
  j.ownsRow lo 122 2 v xs.length css.flatten/\∀ {w2:World} {v':Value},w2.ownsRow lo 122 2 v' (xs.length+1) (css.flatten++c)->j.grownBy w2 v.ownBlock->PO lo w2 v' (xs++ [x]) (css++ [c]) (bls++ [m]):=by
 have z:=h.next J;refine⟨z.2.1,fun {w2 v'} f E=>?_⟩;have s:=zbd.1 h.2.2.1;have y:∀b,b∈bls.flatten->w2.heap[b]?=j.heap[b]?:=fun b d=>E.block b (z.2.2.2 b (zaz _ d)).2 fun e=>s.2.2 b (q1e.2 e.symm) b d rfl
 have p:∀b,b∈m->w2.heap[b]?=j.heap[b]?:=fun b d=>E.block b (g.2 b d).2 fun e=>by
  have O:=(h.2.2.2 b (zbb _ (q1e.2 e.symm))).2;have P:=(g.2 b d).1;omega
 have q:=h.1.l1;have r:=h.1.l2;have t:Parts shOp 122 w2 v' (xs++ [x]) (css++ [c]) (bls++ [m]):=by
  refine⟨?_,by simp[q],by simp[r],fun k L V u n l o=>?_⟩
  .rw[zbs,zbu,List.flatten_singleton]
   exact ql f (zah _)
  .by_cases F:k<xs.length
   .rw[zbv (by omega)]at n l o
    exact shOp.osame (z.1.el k L V u n l o) fun b d=>y b (zbm.2 ⟨_,zaf o,d⟩)
   .have G:k=xs.length:=by
     have:=(zag.1 l).1;simp at this;omega
    subst G;rw[zbc (by omega)]at n l o;simp[q,r]at n l o;subst n;subst l;subst o;exact shOp.osame T p
 refine⟨t,by rw[zbs,zbu];simpa using f,?_⟩;rw[zbu];have X:j.heap.size<=w2.heap.size:=E.size;have U:=J.size;refine⟨?_,fun b d=>?_⟩
 .rw[zbd]
  refine⟨qlv _,?_,fun a A b d e=>?_⟩
  .rw[zbd]
   refine⟨s.2.1,by simpa using g.1,fun a A b d e=>?_⟩;simp at d;subst e;have O:=(h.2.2.2 a (zaz _ A)).2;have P:=(g.2 a d).1;omega
  .subst e
   obtain⟨M,W,Q⟩:=q5z f A;have C:a∈(bls++ [m]).flatten:=by rw[zbu];exact d
   obtain⟨K,D,B⟩:=zbm.1 C;obtain⟨k,F⟩:=zbo D;have R:=(zag.1 F).1;have n:=t.l1;have l:=t.l2;have H:=t.el k _ _ K (zae (by omega)) (zae (by omega)) F;obtain⟨I,N,i⟩:=qd9 H B;rw[Q]at i;injection i with i
   injection i with _ h5
   exact absurd h5 (by decide)
 .rcases zau.1 d with d|d
  .exact f.lt b (q1e.1 d)
  .rcases zau.1 d with d|d
   .have:=h.2.2.2 b (zaz _ d)
    omega
   .have:=g.2 b (by simpa using d)
    omega
theorem q9b {α:Type} {l:List α} {i:Nat} {x:α} (h:l[i]?=some x):l.set i x=l:=by
 apply zcl;intro j;rw[zcd]
 by_cases hj:i=j
 .subst hj
  rw[zam rfl,zam (zag.1 h).1,h]
 .rw[zaj hj]
theorem PO.tab (h:PO lo w v xs css bls) {k:Nat} {a:Int} {t:List Int} (N:xs[k]?=some (a,t)) (ht:t≠ []):
  ∃ g cap tb d, v = .slice (some ⟨g, 0, none⟩) xs.length cap /\ w.cell? ⟨g, k * 2, none⟩ = some (.int .i64 a) /\ w.cell? ⟨g, k * 2 + 1, none⟩ = some (.slice (some ⟨tb, 0, none⟩) t.length d) /\ lo <= tb /\ tb < w.heap.size /\
    (∀ p, w.frozen? ⟨tb, p, none⟩ = false) /\ (∀ p x, t[p]? = some x -> w.cell? ⟨tb, p, none⟩ = some (.int .i64 x)) /\ tb ∈ bls.flatten /\
    ∀ p u, InR u -> PO lo (w.setCell ⟨tb, p, none⟩ (.int .i64 u)) v (xs.set k (a, t.set p u)) css bls := by
 obtain⟨j,A,n⟩:=h;have J:=(zag.1 N).1;obtain⟨g,cap,K⟩:=j.slice J;have W:=j.l1;have X:=j.l2;have c:css[k]?=some (css[k]'(by omega)):=zae (by omega);have l:bls[k]?=some (bls[k]'(by omega)):=zae (by omega)
 generalize css[k]'(by omega)=cj at c
 generalize bls[k]'(by omega)=bk at l
 have O:=j.el k cj (a,t) bk c N l;have Z:=O;obtain⟨c0,c1,b0,b1,rfl,rfl,⟨_,rfl,⟨rfl,L,I⟩,rfl⟩,⟨tv,rfl,C,U,rfl⟩⟩:=O;obtain⟨tb,d,rfl⟩:∃tb d,tv=.slice (some ⟨tb,0,none⟩) t.length d:=by
  rcases C.2 with⟨-,T⟩|⟨g',M,S,rfl,-⟩
  .exact absurd (zco.1 T) ht
  .exact⟨_,_,rfl⟩
 have q:tb∈bls.flatten:=zbm.2 ⟨_,zaf l,by simp[obl,Value.ownBlock]⟩;have z:=n.2 tb (zaz _ q);have H:tb∉obl v:=fun V=>(zbd.1 n.1).2.2 tb V tb q rfl
 refine⟨g,cap,tb,d,K,j.cell K c (i:=0) rfl,j.cell K c (i:=1) rfl,z.1,z.2,fun p=>C.frozenAt p,fun p x P=>?_,q,fun p u hu=>?_⟩
 .have aa:=(zag.1 P).1
  rw[C.cellAt p (by show p<t.length*1;omega)];show(t.map (Value.int .i64))[p]?=_;rw[za2,P];rfl
 .have o:∀b,b≠tb->(w.setCell ⟨tb,p,none⟩ (.int .i64 u)).heap[b]?=w.heap[b]?:=fun b D=>za8 w _ _ b D
  have F:(w.setCell ⟨tb,p,none⟩ (.int .i64 u)).ownsRow 0 3 1 (.slice (some ⟨tb,0,none⟩) t.length d) (t.set p u).length (ints (t.set p u)):=by
   have:=(C.stored p (.int .i64 u)).1;rw[q2n]at this
   simpa using this
  have G:∀y∈t.set p u,InR y:=fun y hy=>by
   rcases zdk hy with E|E
   .exact U y E
   .rw[E];exact hu
  have f:(w.setCell ⟨tb,p,none⟩ (.int .i64 u)).ownsRow lo 122 2 v xs.length css.flatten:=q2p A fun b D=>o b fun e=>H (by rw[<-e];exact q1e.2 D)
  have B:q48 css.flatten (k*shOp.m) [.int .i64 a,.slice (some ⟨tb,0,none⟩) t.length d]=css.flatten:=by
   have Q:css.flatten[k*2]?=some (.int .i64 a):=by have:=q1j j.all k 0 (by decide);rw[c]at this;exact this
   have R:css.flatten[k*2+1]?=some (.slice (some ⟨tb,0,none⟩) t.length d):=by have:=q1j j.all k 1 (by decide);rw[c]at this;exact this
   show(css.flatten.set (k*2) _).set (k*2+1) _=_;rw[q4b Q,q4b R]
  have s:=j.put (w':=w.setCell ⟨tb,p,none⟩ (.int .i64 u)) n.1 l (c':= [.int .i64 a,.slice (some ⟨tb,0,none⟩) t.length d]) (x':=(a,t.set p u)) (by rw[B];exact ql f (zah _))
   ⟨[.int .i64 a], [.slice (some ⟨tb,0,none⟩) t.length d], [], [tb],rfl,rfl,⟨_,rfl,⟨rfl,L,I⟩,rfl⟩,⟨_,rfl,F,G,rfl⟩⟩
   (fun b D Y=>o b fun e=>Y (by rw[e];simp[obl,Value.ownBlock]))
  have r:css.set k [.int .i64 a,.slice (some ⟨tb,0,none⟩) t.length d]=css:=q9b c;rw[r]at s
  exact⟨s,by rw[zcg];exact f,by
   have:(w.setCell ⟨tb,p,none⟩ (.int .i64 u)).heap.size=w.heap.size:=by simp
   rw[this]
   exact n⟩
end
theorem qfo (cs:List Value) (x:OpM) (w:World) (h:shOp.rd w cs x) (hn:x.2.length<=1048576):
  Calls Tryz.prog 135 #[.agg cs.toArray] w (ToE shOp w x):=by
 obtain⟨B,m,d,rfl,L,F⟩:=rdOp h;have Y:=F.len;obtain⟨q,k,t,j,H,I⟩:=q1q w #[.int .i64 x.1,.slice B m d] #[.int .i64 0,.slice none 0 0] 122 122;have s:=zaa k;have M:=zaa F.bounds;have n:=F.next qd t;have l:q.heap.size=w.heap.size+2:=j;have N:=zaa l;clear k j l;obtain⟨P,Q⟩:=cl2 H;obtain⟨R,S,T,U⟩:=cf2 I
 go_enter Tryz.func135,Tryz.ntmps135
 go_upto_region 1 with fail;rw[<-s.out]
 go_region_with (go_at_call 137;refine(q4i _ _ _ x.2 _ (by first|exact n|exact n.drew qd) (by omega)).mono ?_;rintro e G ⟨a,c,rfl,K,D⟩;have o:=q9 (zai (zac q.heap.size q)) D rfl;have f:=H.next o;have b:=I.next o;have u:=f.cell 0;have y:=f.cell 1;have z:=b.cell 0;have A:=b.cell 1;have V:=b.frozen 0;have W:=b.frozen 1;simp at u y z A)
 all_goals
  have O:=q9 t o rfl;have Z:=o.size;have i:=q1s K b (by decide);have J:=q5w (q5w K (p:=⟨w.heap.size+1,0,none⟩) i (.int .i64 x.1)) (p:=⟨w.heap.size+1,1,none⟩) i (.slice a m c);have r:Blk ((G.setCell ⟨w.heap.size+1,0,none⟩ (.int .i64 x.1)).setCell ⟨w.heap.size+1,1,none⟩ (.slice a m c)) (w.heap.size+1) 122 #[.int .i64 x.1,.slice a m c]:=by simpa using((b.set_ 0 (.int .i64 x.1)).set_ 1 (.slice a m c))
  have E:=q7g J;have C:((G.setCell ⟨w.heap.size+1,0,none⟩ (.int .i64 x.1)).setCell ⟨w.heap.size+1,1,none⟩ (.slice a m c)).ownsRow 0 3 1 (.slice a m c) x.2.length (ints x.2):=by rw[Y];exact ql J (zah _)
  have X:Below w.heap.size w ((G.setCell ⟨w.heap.size+1,0,none⟩ (.int .i64 x.1)).setCell ⟨w.heap.size+1,1,none⟩ (.slice a m c)):=(O.setCell (by show _<=_;simp) _).setCell (by show _<=_;simp) _;have g:w.heap.size<=q.drew.heap.size:=t.size
  go_wp2
  (try simp only[Exit.inBlock,Exit.then])
  refine zat (v:=.agg #[.int .i64 x.1,.slice a m c]) (zb0 rfl _ _ (w.heap.size+1) 122 #[.int .i64 x.1,.slice a m c] (0,0) _ (by simp) r Tryz.underlying122 rfl (by kernel_rfl)) rfl ?_;exact⟨[.int .i64 x.1,.slice a m c],obl (.slice a m c),rfl,⟨[.int .i64 x.1], [.slice a m c], [],obl (.slice a m c),rfl,rfl,⟨_,rfl,⟨rfl,L.1,L.2⟩,rfl⟩,⟨_,rfl,C,M.out,rfl⟩⟩,E.mono g (zad _),X⟩
def AlgE (w:World) (x:qi) (e:Ending) (w':World):Prop:=∃v css bls,e=.returned (.agg #[.int .i64 x.1,v])/\PO w.heap.size w' v x.2 css bls/\Below w.heap.size w w'
theorem PO.far {lo:Nat} {w:World} {v:Value} {xs:List OpM} {css:List (List Value)} {bls:List (List Nat)} (h:PO lo w v xs css bls) {p:Addr} (c:p.block<lo) (u:Value):PO lo (w.setCell p u) v xs css bls:=
 h.same (by simp) fun b a=>za8 w p u b (by have:=(h.2.2.2 b a).1;omega)
theorem PO.algO {lo:Nat} {w:World} {v:Value} {a:Int} {xs:List OpM} {css:List (List Value)} {bls:List (List Nat)} (h:PO lo w v xs css bls) (b:InR a):qf.own w [.int .i64 a,v] (a,xs) (obl v++bls.flatten):=
 ⟨[.int .i64 a], [v], [],obl v++bls.flatten,rfl,rfl,⟨_,rfl,⟨rfl,b.1,b.2⟩,rfl⟩,h.own⟩
theorem q3a {α:Type} {l:List α} {k:Nat} {x:α} (h:l[k]?=some x):l.take (k+1)=l.take k++ [x]:=by rw[zbp,h];rfl
theorem q64 (cs:List Value) (x:qi) (w:World) (h:qf.rd w cs x) (hn:qf.cnt x<=1048576):
  Calls Tryz.prog 78 #[.agg cs.toArray] w (AlgE w x):=by
 obtain⟨B,m,d,rfl,qs,qo⟩:=qv h;have hm:=qo.len;have hcn:0+(x.2.length+cntS shOp.cnt x.2)<=1048576:=hn;have HCN:=zaa hcn;have hle:m<=1048576:=by omega
 obtain⟨r,J,T0,hs0,BP,u,M⟩:=q7t w #[.int .i64 x.1,.slice B m d] #[.int .i64 0,.slice none 0 0] #[.int .i64 x.1,.slice none 0 0] 24 24;have HW0:Hid (_=r):=J.symm;have l:=zaa hs0;have X:=((Blk.new w 24 #[.int .i64 x.1,.slice B m d]).alloc (.cells #[.int .i64 0,.slice none 0 0] 24)).cell 0;have G:=BP.cell 1;simp at X G;rw[J]at G;have hP0:PO r.heap.size r (.slice none 0 0) (x.2.take 0) [] []:=PO.nil _ _;clear J hs0 hcn
 go_enter Tryz.func78,Tryz.ntmps78
 go_wp2_with fail;clear X G
 go_loopw [12] (fun i wr=>∃(k:Nat) (v:Value) (n:List (List Value)) (bls:List (List Nat)),k<=m/\i=.int .i64 k/\Blk wr (w.heap.size+1+1) 24 #[.int .i64 x.1,v]/\Blk wr (w.heap.size+1) 24 #[.int .i64 0,.slice none 0 0]/\PO r.heap.size wr v (x.2.take k) n bls/\Below w.heap.size w wr) (fun i _=>m - (intOf i).toNat)
 case atStart=>
  rw[HW0.out];exact⟨0,_,_,_,zah _,rfl,M,u,hP0,T0⟩
 case round=>
  clear hP0 M u BP;obtain⟨k,v,n,bls,hk,rfl,M,u,a,hT⟩:=hrel
  by_cases hlt:k<m
  .have hk0:(0:Int)<=(k:Int):=by omega
   have hk1:(k:Int)<(m:Int):=by omega
   obtain⟨b,o,vs,y,rfl,-,hc,hr,-,hx⟩:=(qo.next hT).at hlt;obtain⟨B',m',d',rfl,qa,qt⟩:=rdOp hr;have cc0:wr.cell? ⟨b,o+k*2,none⟩=some (.int .i64 y.1):=hc 0 _ rfl;have cc1:wr.cell? ⟨b,o+k*2+1,none⟩=some (.slice B' m' d'):=hc 1 _ rfl;have HTS:Hid (x.2.take (k+1)=x.2.take k++ [y]):=q3a hx;have hcy:y.2.length<=1048576:=by
    have h1:=q3w (f:=shOp.cnt) (zaf hx);have h2:=HCN.out;have h3:shOp.cnt y=0+y.2.length:=rfl;omega
   obtain⟨L,HL⟩:∃L,Hid (x.2.take k=L):=⟨_,rfl⟩;have HLK:Hid (L.length=k):=by show _=_;rw[<-HL.out,za9];omega
   rw[HL.out]at a;have S:Hid (x.2.take (k+1)=L++ [y]):=by show _=_;rw[HTS.out,HL.out]
   obtain⟨A,c,rfl⟩:=qu a.2.1;obtain⟨w5,hw5,U,hs5,BY⟩:=q15 wr #[.int .i64 y.1,.slice B' m' d'] 122;have HW5:=zaa hw5;have H:=a.next U;have hr5:=shOp.stab hr U.block;have s:=M.next U;have BR5:=u.next U;have hT5:=q9 hT U rfl;have cO5:=s.cell 1;have fO5:=s.frozen 1;have cY0:=BY.cell 0;have cY1:=BY.cell 1;simp at cO5 cY0 cY1;have hwz0:r.heap.size<=w5.heap.size:=by
    rcases H.2.1.2 with⟨h1,h2⟩|⟨g9,_,_,h1,h2,_⟩
    .have:=hT5.size
     have h9:=s.lt;have h8:=l.out;omega
    .injection h1 with h1
     have:=H.2.2.2 g9 (zbb _ (by rw[h1];simp[obl,Value.ownBlock]));omega
   clear hw5 hs5 hc hx hr a;go_upto_region 5 with fail;rw[<-HW5.out];clear cc0 cc1
   go_region_law (first
    |(refine qfa w6 rfl (.tmp 17) (.tmp 20) 22 122 rfl (.agg #[.int .i64 0,.slice none 0 0]) 32 ze7 q70 rfl (by decide) r.heap.size L.length c A n.flatten (by rfl) C (.int .i64 y.1) (.slice B6 m6 d6) rfl rfl (by rfl) (by have:=HLK.out;omega) (by omega) ?_;intro K N w8 q z hb8;have t:=j.grown z (fun e=>q1s C j (by decide) e.symm);have P:=F.grown z (fun e=>q1s C F (by decide) e.symm);have W:=t.cell 1;have fO8:=t.frozen 1;simp at W)
    |(go_simp;go_at_call 135;refine(qfo [.int .i64 y.1,.slice B' m' d'] y _ (by first|exact hr5|exact shOp.stab hr5 (fun _ _=>rfl)) hcy).mono ?_;rintro e w6 ⟨ds,bk,rfl,I,hiv,hbn⟩;obtain⟨B6,m6,d6,rfl,-,-⟩:=rdOp (shOp.ord I);have E:=q9 (zai (zac w5.heap.size w5)) hbn rfl;have hiv6:Iv w5.heap.size w6.heap.size bk:=hiv;obtain⟨C,R⟩:=H.push E hwz0 I hiv6;have hsz6:=E.size;have j:=s.next E;have F:=BR5.next E;have V:=j.cell 1;have fO6:=j.frozen 1;have Y:=(BY.next E).cell 0;have Z:=(BY.next E).cell 1;have D:=(j.alloc (.cells #[.int .i64 y.1,.slice B6 m6 d6] 122)).cell 1;simp at V Y Z D))
   all_goals
    have T:=(R q z).far (p:=⟨w.heap.size+1+1,1,none⟩) (by have:=l.out;show w.heap.size+1+1<r.heap.size;omega) (.slice K (L.length+1) N);have hT8:=((q9 hT5 E rfl).trans (hb8.mono (by have:=l.out;omega))).setCell (p:=⟨w.heap.size+1+1,1,none⟩) (by show _<=_;simp;try omega) (.slice K (L.length+1) N);have O:Blk (w8.setCell ⟨w.heap.size+1+1,1,none⟩ (.slice K (L.length+1) N)) (w.heap.size+1+1) 24 #[.int .i64 x.1,.slice K (L.length+1) N]:=by simpa using t.set_ 1 (.slice K (L.length+1) N)
    have Q:=P.far (p:=⟨w.heap.size+1+1,1,none⟩) (by simp) (.slice K (L.length+1) N);have g:=zaa (zao O (zao Q (zao T hT8)));clear O Q T hT8 V fO6 D Y Z W fO8 q z hb8 t P j F C R I hbn E;go_wp2_with fail
    go_roundw
    case rel=>exact⟨k+1,_,_,_,by omega,by go_num,g.out.1,g.out.2.1,by rw[S.out];exact g.out.2.2.1,g.out.2.2.2⟩
    case measure=>simp[intOf];omega
  .obtain rfl:k=m:=by omega
   have hlt':¬(k:Int)<(k:Int):=by omega
   have hP:PO r.heap.size wr v x.2 n bls:=by rw[zar (by omega)]at a;exact a
   obtain⟨A,c,hv⟩:=qu hP.2.1;rw[hm]at hv;subst hv;have hlow:w.heap.size<=r.heap.size:=by have:=l.out;omega
   have hPF:=((hP.far (p:=⟨w.heap.size+1,0,none⟩) (by have:=l.out;show w.heap.size+1<r.heap.size;omega) (.int .i64 x.1)).far (p:=⟨w.heap.size+1,1,none⟩) (by have:=l.out;show w.heap.size+1<r.heap.size;omega) (.slice A k c)).mono hlow;have hTF:=(hT.setCell (p:=⟨w.heap.size+1,0,none⟩) (by show _<=_;simp) (.int .i64 x.1)).setCell (p:=⟨w.heap.size+1,1,none⟩) (by show _<=_;simp) (.slice A k c);have cO0:=M.cell 0;have cO1:=M.cell 1;have cR0:=u.cell 0;have cR1:=u.cell 1;have fR0:=u.frozen 0;have fR1:=u.frozen 1;have BRR:Blk ((wr.setCell ⟨w.heap.size+1,0,none⟩ (.int .i64 x.1)).setCell ⟨w.heap.size+1,1,none⟩ (.slice A k c)) (w.heap.size+1) 24 #[.int .i64 x.1,.slice A k c]:=by simpa using((u.set_ 0 (.int .i64 x.1)).set_ 1 (.slice A k c))
   have HPF:=zaa hPF;simp at cO0 cO1 cR0 cR1;clear hP hPF a;go_wp2_with fail
   (try simp only[Exit.inBlock,Exit.then])
   refine zat (v:=.agg #[.int .i64 x.1,.slice A k c]) (zb0 rfl _ _ (w.heap.size+1) 24 #[.int .i64 x.1,.slice A k c] (0,0) _ (by simp) BRR zb4 rfl (by kernel_rfl)) rfl ?_;exact⟨_,n,bls,rfl,HPF.out,hTF⟩
def q78 (z:Nat) (s:List Int) (ops:List OpM) (k:Nat):List OpM:=(ops.take k).map (q2l z s)++ops.drop k
theorem qly (z:Nat) (s:List Int) (ops:List OpM) (k:Nat):(q78 z s ops k).length=ops.length:=by unfold q78;simp;omega
theorem qlx {z:Nat} {s:List Int} {ops:List OpM} {k:Nat} {y:OpM} (h:ops[k]?=some y):(q78 z s ops k)[k]?=some y:=by
 have a:=(zag.1 h).1;unfold q78;rw[zbc (by simp;omega)];simp;rw[show k+(k - min k ops.length)=k by omega];exact h
theorem qjq {z:Nat} {s:List Int} {ops:List OpM} {k:Nat} {y:OpM} (h:ops[k]?=some y):(q78 z s ops k).set k (q2l z s y)=q78 z s ops (k+1):=by
 have a:=(zag.1 h).1;unfold q78;rw[q3a h,zel,zdz _ _ (by simp;omega)];have:ops.drop k=y::ops.drop (k+1):=by
  rw[zbq a]
  congr
  exact(zag.1 h).2
 rw[this];simp;rw[show k - min k ops.length=0 by omega];rfl
theorem qlw {z:Nat} {s:List Int} {ops:List OpM} {k:Nat} (h:ops.length<=k):q78 z s ops k=ops.map (q2l z s):=by
 unfold q78;rw[zar h,zbk h,zc3]
def mixD (s:List Int) (D:List Nat) (j:Nat):List Nat:=(D.take j).map (nmAt s)++D.drop j
theorem qo7 {s:List Int} {D:List Nat} {j d:Nat} (h:D[j]?=some d):(mixD s D j)[j]?=some d:=by
 have a:=(zag.1 h).1;unfold mixD;rw[zbc (by simp;omega)];simp;rw[show j+(j - min j D.length)=j by omega];exact h
theorem qlm {s:List Int} {D:List Nat} {j d:Nat} (h:D[j]?=some d):(mixD s D j).set j (nmAt s d)=mixD s D (j+1):=by
 have a:=(zag.1 h).1;unfold mixD;rw[q3a h,zel,zdz _ _ (by simp;omega)];have:D.drop j=d::D.drop (j+1):=by
  rw[zbq a]
  congr
  exact(zag.1 h).2
 rw[this];simp;rw[show j - min j D.length=0 by omega];rfl
theorem qo6 {s:List Int} {D:List Nat} {j:Nat} (h:D.length<=j):mixD s D j=D.map (nmAt s):=by
 unfold mixD;rw[zar h,zbk h,zc3]
theorem qob (l:List Nat) (p v:Nat):(nats l).set p (v:Int)=nats (l.set p v):=by simp[nats,List.map_set]
theorem qlq {l:List Nat} {k d:Nat} (h:l[k]?=some d):(nats l)[k]?=some (d:Int):=by simp[nats,h]
theorem qpf {l:List Nat} {b:Nat} (h:∀d∈l,d<=b) (c:b<=1048576) {w:World}:∀v∈nats l,RI w (.int .i64 v) v:=by
 intro v a;unfold nats at a;rw[zbe]at a;obtain⟨d,hd,rfl⟩:=a;have:=h d hd;exact⟨rfl,by omega,by omega⟩
theorem qph {n:Nat} {o:OpM} (h:OpP n o) (a:n<=8):o.2.length<=4096:=by
 rw[h.2.2.1];exact q47 a (by have:=h.2.1;omega)
theorem qq3 {x:qi} (h:AlgP x):qf.cnt x<=1048576:=by
 have a:∀l:List OpM,(∀o∈l,OpP x.1.toNat o)->cntS shOp.cnt l<=l.length*4096:=by
  intro l
  induction l with
  |nil=>intro _;exact zah _
  | cons o l ih =>
    intro c;rw [q1h, za0, zet];have d := ih fun o f => c o (by simp [f])
    have b := qph (c o (by simp)) (by have := h.2.1; omega);have e : shOp.cnt o = 0 + o.2.length := rfl;omega
 have d:=a x.2 h.2.2.2;have b:=h.2.2.1;have e:qf.cnt x=0+(x.2.length+cntS shOp.cnt x.2):=rfl;have g:=zd7 4096 b;omega
theorem q5j {w:World} {p a:Addr} {v u:Value} (h:a.block≠p.block) (b:w.cell? a=some v):(w.setCell p u).cell? a=some v:=(zb6 (za8 w p u _ h)).trans b
theorem q2c {w:World} {p a:Addr} {v u:Value} (h:a.block≠p.block) (b:w.cell? a=some v):(w.setCell p u).drew.cell? a=some v:=q5j h b
theorem qgu (cs:List Value) (x:qi) (N:Option Addr) (n cN:Nat) (s:List Int) (w:World) (h:qf.rd w cs x) (hs:RdL RI w N n s) (hx:AlgP x) (hp:PermL x.1.toNat s):
  Calls Tryz.prog 86 #[.agg cs.toArray,.slice N n cN] w (AlgE w (ren x s)):=by
 have hcnt:=qq3 hx;obtain⟨a,c⟩:=x;obtain⟨z,rfl⟩:∃z:Nat,a=(z:Int):=⟨a.toNat,by have h1:1<=a:=hx.1;omega⟩;have hz1:1<=z:=by have h1:(1:Int)<=(z:Int):=hx.1;omega
 have hz5:z<=8:=by have h1:(z:Int)<=8:=hx.2.1;omega
 have hm4:c.length<=4:=hx.2.2.1;have HOP:Hid (∀o∈c,OpP z o):=fun o ho=>by have:=hx.2.2.2 o ho;simpa using this
 have V:Hid (PermL z s):=by show PermL z s;simpa using hp
 have hnz:n=z:=by rw[<-hs.len];exact V.out.1
 subst hnz;have HREN:Hid (ren ((n:Int),c) s=((n:Int),c.map (q2l n s))):=by show _=_;unfold ren;simp
 have hrd:=h;obtain⟨B,m,d,rfl,qs,qo⟩:=qv h;obtain rfl:c.length=m:=qo.len;obtain⟨w0,hw0,T0,hs0,I,G⟩:=q1q w #[.int .i64 (n:Int),.slice B c.length d] #[.int .i64 0,.slice none 0 0] 24 24;have HW0:=zaa hw0;have K:=zaa hs0;have hrd0:=qf.stab hrd T0.block;obtain⟨A,X⟩:=cl2 I;rw[hw0]at A X;rw[HREN.out];clear hw0 hs0 hp hx
 go_enter Tryz.func86,Tryz.ntmps86
 go_wp2_with fail;rw[<-HW0.out];refine(q64 _ _ _ hrd0 hcnt).mono ?_;rintro e P ⟨v,L,bls,rfl,l,Z⟩;replace l:PO w0.heap.size P v c L bls:=l;obtain⟨H,E,rfl⟩:=qu l.2.1;have T1:=q9 T0 Z rfl;replace I:=I.next Z;replace G:=G.next Z;obtain⟨w2,hw2,T2',hs2,T⟩:=q15 P #[.int .i64 (n:Int),.slice H c.length E] 24;have HW2:Hid (_=w2):=hw2.symm;have HGB:Hid (P.heap.size∉obl (.slice H c.length E)++bls.flatten):=fun hh=>by have:=(l.2.2.2 _ hh).2;omega
 have hgl:w0.heap.size<=P.heap.size:=Z.size;have T2:=q9 T1 T2' rfl;replace I:=I.next T2';replace G:=G.next T2';replace l:=l.next T2';have X:=I.cell 1;simp at X;rw[hw2]at X;clear hw2 hs2 A Z;go_wp2_with fail;clear X
 go_loopw [18] (fun i wr=>∃(k:Nat),k<=c.length/\i=.int .i64 k/\Blk wr w.heap.size 24 #[.int .i64 (n:Int),.slice B c.length d]/\Blk wr (w.heap.size+1) 24 #[.int .i64 0,.slice none 0 0]/\Blk wr P.heap.size 24 #[.int .i64 (n:Int),.slice H c.length E]/\PO w0.heap.size wr (.slice H c.length E) (q78 n s c k) L bls/\Below w.heap.size w wr) (fun i _=>c.length - (intOf i).toNat)
 case atStart=>
  rw[HW2.out];exact⟨0,zah _,rfl,I,G,T,l,T2⟩
 case round=>
  clear l I G T T1 T2;obtain⟨k,hk,rfl,I,G,T,l,hT⟩:=hrel
  by_cases hlt:k<c.length
  .obtain⟨wo,hwo⟩:∃wo:World,wo=wr:=⟨_,rfl⟩
   subst hwo;have hk0:(0:Int)<=(k:Int):=by omega
   have hk1:(k:Int)<(c.length:Int):=by omega
   obtain⟨b,o,vs,y,rfl,-,hc,hr,-,hyk⟩:=qo.at hlt;obtain⟨ya,f⟩:=y;have hyp:=HOP.out (ya,f) (zaf hyk);obtain⟨r,rfl⟩:∃r:Nat,ya=(r:Int):=⟨ya.toNat,by have h1:0<=ya:=hyp.1;omega⟩;obtain⟨B',m',d',rfl,qa,qt⟩:=rdOp hr;obtain rfl:f.length=m':=qt.len;have hkk3:r<=3:=by have h1:(r:Int)<=3:=hyp.2.1;omega
   have HYL:Hid (f.length=n ^ r):=by show _=_;have:=hyp.2.2.1;simpa using this
   have HYB:Hid (∀v∈f,0<=v/\v<=(n:Int) - 1):=hyp.2.2.2;have HRO:Hid (q2l n s ((r:Int),f)=((r:Int),q2q n r s f f f.length)):=by show _=_;unfold q2l;simp
   have hyl8:f.length<=4096:=by rw[HYL.out];exact q47 (by omega) (by omega)
   have cc0:wo.cell? ⟨b,o+k*2,none⟩=some (.int .i64 (r:Int)):=qe hT (hc 0 _ rfl);have cc1:wo.cell? ⟨b,o+k*2+1,none⟩=some (.slice B' f.length d'):=qe hT (hc 1 _ rfl);obtain⟨w5,hw5,T5,hs5,BQ⟩:=q15 wo #[.int .i64 (r:Int),.slice B' f.length d'] 122;have HW5:Hid (_=w5):=hw5.symm;have HYK:=zaa hyk;have hP5:=l.next T5;have BP5:=I.next T5;have BR5:=G.next T5;have BB5:=T.next T5;have hT5:=q9 hT T5 rfl;have hgq:P.heap.size<wo.heap.size:=T.lt;have hdt:=hT.size;have HST:Hid (PO w0.heap.size w5 (.slice H c.length E) ((q78 n s c k).set k ((r:Int),q2q n r s f f 0)) L bls):=by
    show PO _ _ _ _ _ _
    have e:(q78 n s c k).set k ((r:Int),q2q n r s f f 0)=q78 n s c k:=q9b (qlx hyk);rw[e];exact hP5
   have HQW:Hid (wo.heap.size∉obl (.slice H c.length E)++bls.flatten):=fun hh=>by have:=(l.2.2.2 _ hh).2;omega
   obtain⟨cF0,cF1⟩:=cl2 BQ;rw[hw5]at cF0 cF1;clear hw5 hs5 hc hr hyk hyp l hP5;go_wp2_with fail;clear cF0 cF1
   go_loopw [26] (fun i S=>∃q:Nat,q<=f.length/\i=.int .i64 q/\Blk S w.heap.size 24 #[.int .i64 (n:Int),.slice (some ⟨b,o,none⟩) c.length d]/\Blk S (w.heap.size+1) 24 #[.int .i64 0,.slice none 0 0]/\Blk S P.heap.size 24 #[.int .i64 (n:Int),(.slice H c.length E)]/\Blk S wo.heap.size 122 #[.int .i64 (r:Int),.slice B' f.length d']/\PO w0.heap.size S (.slice H c.length E) ((q78 n s c k).set k ((r:Int),q2q n r s f f q)) L bls/\Below w.heap.size w S) (fun i _=>f.length - (intOf i).toNat)
   case atStart=>
    rw[HW5.out];exact⟨0,zah _,rfl,BP5,BR5,BB5,BQ,HST.out,hT5⟩
   case round=>
    clear BP5 BR5 BB5 BQ HST hT5 I G T;obtain⟨q,hq,rfl,I,G,T,BQ,l,hTi⟩:=hrel
    by_cases hltq:q<f.length
    .obtain⟨S,hwi⟩:∃S:World,S=wr:=⟨_,rfl⟩
     subst hwi;have hq0:(0:Int)<=(q:Int):=by omega
     have hq1:(q:Int)<(f.length:Int):=by omega
     obtain⟨b',o',u0,u,rfl,Q,⟨rfl,-⟩,-,hxu⟩:=(qt.next qd hTi).at hltq;have hub:=HYB.out u (zaf hxu);obtain⟨u,rfl⟩:=zan hub.1;have hun:u<n:=by omega
     obtain⟨J,HJ⟩:∃J,Hid (toI n r s q=J):=⟨_,rfl⟩;have hJ:J<f.length:=by rw[<-HJ.out,HYL.out];exact qim (by omega) V.out q
     obtain⟨O,ac,hnmn,hnm2⟩:=V.out.at hun;have HSTEP:Hid (q2q n r s f f (q+1)=(q2q n r s f f q).set J (O:Int)):=by
      show _=_
      rw[q2q,HJ.out,zak,hxu];show(q2q n r s f f q).set J (nmI s (u:Int))=_;have:=q3q ac;rw[this]
     have HNM:=zaa ac;have HXU:=zaa hxu;have cQ0:=BQ.cell 0;have cQ1:=BQ.cell 1;have A:=I.cell 0;simp at cQ0 cQ1 A;clear hxu hub ac hnm2;go_wp2_with fail;refine(qbg q r n _ (by omega) (by omega) (by omega) (by omega)).mono ?_;rintro e w6 ⟨g,rfl,Y,hb6⟩;obtain⟨D,HD⟩:∃D,Hid (digs n r q=D):=⟨_,rfl⟩;have HDL:Hid (D.length=r):=by show _=_;rw[<-HD.out,q1t]
     have HDB:Hid (∀x∈D,x<n):=by show ∀x∈D,_;rw[<-HD.out];exact fun x hx=>q20 (by omega) hx
     rw[HD.out]at Y;have HJ2:Hid (idx n (D.map (nmAt s))=J):=by show _=_;rw[<-HD.out];exact HJ.out
     clear cQ0 cQ1 A Q;go_wp2_with fail
     go_loopw [39] (fun i wj=>∃j:Nat,j<=r/\i=.int .i64 j/\wj.ownsRow S.heap.size 3 1 (.slice (some ⟨g,0,none⟩) r r) r (ints (nats (mixD s D j)))/\Below S.heap.size S wj) (fun i _=>r - (intOf i).toNat)
     case atStart=>exact⟨0,zah _,rfl,Y,hb6⟩
     case round=>
      clear Y hb6;obtain⟨j,hj,rfl,Y,M⟩:=hrel;have hTw:=q9 hTi M rfl
      by_cases hltj:j<r
      .have hj0:(0:Int)<=(j:Int):=by omega
       have hj1:(j:Int)<(r:Int):=by omega
       obtain⟨dj,hdj⟩:∃dj,D[j]?=some dj:=⟨_,zae (by rw[HDL.out];exact hltj)⟩;have hdn:=HDB.out dj (zaf hdj);obtain⟨v',hv',hvn,ab⟩:=V.out.at hdn;obtain⟨nb,no,nv,nx,rfl,aa,⟨rfl,-⟩,-,F⟩:=(hs.next qd hTw).at (k:=dj) hdn;rw[hv']at F;injection F with F
       subst F;have hcell:wr.cell? ⟨g,j,none⟩=some (.int .i64 (dj:Int)):=(Y.cellAt j (by omega)).trans (by show(List.map (Value.int .i64) (nats (mixD s D j)))[j]?=_;rw[za2,qlq (qo7 hdj)];rfl);have hfz:wr.frozen? ⟨g,j,none⟩=false:=Y.frozenAt j;have hst:=(Y.stored j (.int .i64 (v':Int))).1;rw[q2n,qob,<-ab,qlm hdj,ab]at hst;have hgl2:=(Y.lt g rfl).1;have hd0:(0:Int)<=(dj:Int):=by omega
       have hd1:(dj:Int)<(n:Int):=by omega
       have HST2:=zaa hst;clear hst hdj hv' ab;go_wp2_with fail
       go_roundw
       case rel=>exact⟨j+1,by omega,by go_num,HST2.out,M.setCell hgl2 _⟩
       case measure=>simp[intOf];omega
      .obtain rfl:j=r:=by omega
       have hlt':¬(j:Int)<(j:Int):=by omega
       have HMB:Hid (∀d∈D.map (nmAt s),d<n):=by
        intro d hd;rw[zbe]at hd;obtain⟨x,hx,rfl⟩:=hd;obtain⟨v',-,hv,e⟩:=V.out.at (HDB.out x hx);omega
       rw[qo6 (by rw[HDL.out];exact zad _)]at Y;have RA:RdL RI wr (some ⟨g,0,none⟩) j (nats (D.map (nmAt s))):=q12 (R:=RI) Y (qpf (b:=n) (fun d hd=>Nat.le_of_lt (HMB.out d hd)) (by omega));have hPj:=l.next M;have BPj:=I.next M;have BRj:=G.next M;have BBj:=T.next M;have BQj:=BQ.next M;obtain⟨gO,cap,C,dt,hv,-,cT,hlo,hhi,hfz,hcl,htm,hset⟩:=hPj.tab (k:=k) (a:=(j:Int)) (t:=q2q n j s f f q) (by rw[zeu (by rw[qly];exact hlt)]) (by intro e0;have:=zav List.length e0;rw[q2u]at this;simp at this;rw[this]at hltq;simp at hltq);injection hv with hv1 hv2 hv3
       subst hv1;rw[q2u]at cT;have fJ:=hfz J;obtain⟨x0,hx0⟩:∃x0,(q2q n j s f f q)[J]?=some x0:=⟨_,zae (by rw[q2u];exact hJ)⟩;have cJ:=hcl J x0 hx0;obtain⟨nb,no,nv,nx,rfl,aa,⟨rfl,-⟩,-,F⟩:=(hs.next qd hTw).at (k:=u) hun;rw[HNM.out]at F;injection F with F
       subst F;have n5:nb≠C:=by
        obtain⟨v8,x8,hc8,-⟩:=hs.at' (k:=u) hun;have:=q50 hc8;have:=K.out;have h9:nb<w.heap.size:=by assumption
        omega
       have n6:b'≠C:=by
        obtain⟨v8,x8,hc8,-⟩:=qt.at' hltq;have h9:b'<w.heap.size:=q50 hc8;have:=K.out;omega
       have n7:gO≠C:=fun e=>(zbd.1 hPj.2.2.1).2.2 gO (by simp[obl,Value.ownBlock]) C htm e
       obtain⟨uv,ux,Q,⟨rfl,-⟩,-,hux⟩:=(qt.next qd hTw).at' hltq;rw[HXU.out]at hux;injection hux with hux
       subst hux;have HS2:=hset J (O:Int) ⟨by omega,by omega⟩;rw[List.set_set]at HS2;have HS3:Hid (PO w0.heap.size (wr.setCell ⟨C,J,none⟩ (.int .i64 (O:Int))) (.slice (some ⟨gO,0,none⟩) c.length E) ((q78 n s c k).set k ((j:Int),q2q n j s f f (q+1))) L bls):=by show PO _ _ _ _ _ _;rw[HSTEP.out];exact HS2
       have hz0:=K.out;have n1:w.heap.size≠C:=by omega
       have n2:w.heap.size+1≠C:=by omega
       have n3:P.heap.size≠C:=fun e=>HGB.out (by rw[e];exact zaz _ htm)
       have n4:wo.heap.size≠C:=fun e=>HQW.out (by rw[e];exact zaz _ htm)
       have U:=zaa (zao (BPj.far (p:=⟨C,J,none⟩) n1 (.int .i64 (O:Int))) (zao (BRj.far (p:=⟨C,J,none⟩) n2 (.int .i64 (O:Int))) (zao (BBj.far (p:=⟨C,J,none⟩) n3 (.int .i64 (O:Int))) (zao (BQj.far (p:=⟨C,J,none⟩) n4 (.int .i64 (O:Int))) (hTw.setCell (p:=⟨C,J,none⟩) (show w.heap.size<=C by omega) (.int .i64 (O:Int)))))));have W:=BBj.cell 1;have A:=BPj.cell 0;simp at W A;have hJ0:(0:Int)<=(J:Int):=by omega
       have hJ1:(J:Int)<(f.length:Int):=by omega
       have hu0:(0:Int)<=(u:Int):=by omega
       have hu1:(u:Int)<(n:Int):=by omega
       clear hfz hcl hset HS2 hx0 hPj BPj BRj BBj BQj hz0 hv2 hv3 Y htm;go_upto_region 14 with fail;have Tk:Below wr.heap.size wr wr:=zac _ _;have HKD:(wr.setCell ⟨C,J,none⟩ (.int .i64 (O:Int))).drew.cell? ⟨w.heap.size,0,none⟩=some (.int .i64 (n:Int))/\(wr.setCell ⟨C,J,none⟩ (.int .i64 (O:Int))).drew.cell? ⟨P.heap.size,1,none⟩=some (.slice (some ⟨gO,0,none⟩) c.length E)/\(wr.setCell ⟨C,J,none⟩ (.int .i64 (O:Int))).drew.cell? ⟨gO,k*2+1,none⟩=some (.slice (some ⟨C,0,none⟩) f.length dt)/\(wr.setCell ⟨C,J,none⟩ (.int .i64 (O:Int))).drew.cell? ⟨nb,no+u,none⟩=some (.int .i64 (O:Int))/\(wr.setCell ⟨C,J,none⟩ (.int .i64 (O:Int))).drew.cell? ⟨b',o'+q,none⟩=some (.int .i64 (u:Int)):=⟨q2c n1 A,q2c n3 W,q2c n7 cT,q2c n5 aa,q2c n6 Q⟩
       go_region_held3 (fun w'=>w'.cell? ⟨w.heap.size,0,none⟩=some (.int .i64 (n:Int))/\w'.cell? ⟨P.heap.size,1,none⟩=some (.slice (some ⟨gO,0,none⟩) c.length E)/\w'.cell? ⟨gO,k*2+1,none⟩=some (.slice (some ⟨C,0,none⟩) f.length dt)/\w'.cell? ⟨nb,no+u,none⟩=some (.int .i64 (O:Int))/\w'.cell? ⟨b',o'+q,none⟩=some (.int .i64 (u:Int))) (first|go_keep|exact⟨qe Tk A,qe Tk W,qe Tk cT,qe Tk aa,qe Tk Q⟩|exact HKD|exact⟨q2c n1 A,q2c n3 W,q2c n7 cT,q2c n5 aa,q2c n6 Q⟩|exact⟨q5j n1 A,q5j n3 W,q5j n7 cT,q5j n5 aa,q5j n6 Q⟩) (first
        |(go_at_call 150;refine(qfy _ j j n (D.map (nmAt s)) _ (by first|exact RA|exact RA.drew qd) (by omega) (by omega) HMB.out).mono ?_;rintro e w' ⟨rfl,rfl⟩;rw[HJ2.out]))
       all_goals
        go_wp2_with fail
        go_roundw
        case rel=>exact⟨q+1,by omega,by go_num,U.out.1.drew,U.out.2.1.drew,U.out.2.2.1.drew,U.out.2.2.2.1.drew,HS3.out.next (zai (zac _ _)),zai U.out.2.2.2.2⟩
        case measure=>simp[intOf];omega
    .have hqe:q=f.length:=by omega
     have hlt':¬(q:Int)<(f.length:Int):=by omega
     have HPN:Hid (PO w0.heap.size wr (.slice H c.length E) (q78 n s c (k+1)) L bls):=by
      show PO _ _ _ _ _ _
      rw[<-qjq HYK.out,HRO.out,<-hqe];exact l
     clear hqe;go_wp2_with fail
     go_roundw
     case rel=>exact⟨k+1,by omega,by go_num,I,G,T,HPN.out,hTi⟩
     case measure=>simp[intOf];omega
  .have hlt':¬(k:Int)<(c.length:Int):=by omega
   rw[qlw (by omega)]at l;have hlow:w.heap.size<=w0.heap.size:=by have:=K.out;omega
   have hPF:=((l.far (p:=⟨w.heap.size+1,0,none⟩) (by have:=K.out;show w.heap.size+1<w0.heap.size;omega) (.int .i64 (n:Int))).far (p:=⟨w.heap.size+1,1,none⟩) (by have:=K.out;show w.heap.size+1<w0.heap.size;omega) (.slice H c.length E)).mono hlow;have hTF:=(hT.setCell (p:=⟨w.heap.size+1,0,none⟩) (by show _<=_;simp) (.int .i64 (n:Int))).setCell (p:=⟨w.heap.size+1,1,none⟩) (by show _<=_;simp) (.slice H c.length E);have cO0:=T.cell 0;have cO1:=T.cell 1;have cR0:=G.cell 0;have cR1:=G.cell 1;have fR0:=G.frozen 0;have fR1:=G.frozen 1;have BRR:Blk ((wr.setCell ⟨w.heap.size+1,0,none⟩ (.int .i64 (n:Int))).setCell ⟨w.heap.size+1,1,none⟩ (.slice H c.length E)) (w.heap.size+1) 24 #[.int .i64 (n:Int),.slice H c.length E]:=by simpa using((G.set_ 0 (.int .i64 (n:Int))).set_ 1 (.slice H c.length E))
   have HPF:=zaa hPF;have n8:¬w.heap.size+1=P.heap.size:=by have:=K.out;omega
   have n9:¬P.heap.size=w.heap.size+1:=fun e=>n8 e.symm
   have cO1':(wr.setCell ⟨w.heap.size+1,0,none⟩ (.int .i64 (n:Int))).cell? ⟨P.heap.size,1,none⟩=some (.slice H c.length E):=q5j (p:=⟨w.heap.size+1,0,none⟩) (a:=⟨P.heap.size,1,none⟩) n9 (by simpa using cO1);simp at cO0 cO1 cR0 cR1;clear hPF l;go_wp2_with fail
   (try simp only[Exit.inBlock,Exit.then])
   refine zat (v:=.agg #[.int .i64 (n:Int),.slice H c.length E]) (zb0 rfl _ _ (w.heap.size+1) 24 #[.int .i64 (n:Int),.slice H c.length E] (0,0) _ (by simp) BRR zb4 rfl (by kernel_rfl)) rfl ?_;exact⟨_,L,bls,rfl,HPF.out,hTF⟩
theorem qry (L:Nat) (b:L<=1048576):∃M:Array Value,M.toList=ints (List.replicate L 0)/\∀w:World,(Instr.makeSlice 43 (.int .i64 (L:Int)) (.int .i64 (L:Int))).run Tryz.prog w=.ok (.slice (some ⟨w.heap.size,0,none⟩) L L) (w.alloc (.cells M 3)):=by
 obtain⟨g,f,c,d,e⟩:=info_parts q14;refine⟨madeCells (Value.int .i64 0).cells (L*1),?_,fun w=>?_⟩
 .rw[Nat.mul_one,q7z]
  exact toList_madeCells_one (.int .i64 0) L
 .have a:=run_make (P:=Tryz.prog) w 43 3 g (.int .i64 0) za1 f c .i64 .i64 L L (by omega) (Int.le_refl _) (by rw[e];omega) (by omega)
  simp only[za5]at a;rw[d]at a;exact a
theorem qpe {w:World} {M:Array Value} {L:Nat} (hM:M.toList=ints (List.replicate L 0)) (c:L<=1048576) {lo:Nat} (a:lo<=w.heap.size):(w.alloc (.cells M 3)).ownsRow lo 3 1 (.slice (some ⟨w.heap.size,0,none⟩) L L) L (ints (List.replicate L 0)):=by
 have b:M.size=L*1:=by rw[<-Array.length_toList,hM];simp[ints]
 have:=zb7 (e:=3) (size:=1) w M L a (by unfold maxLen;omega) b;rw[hM]at this;exact this
theorem qct (cs:List Value) (x:qi) (N:Option Addr) (n cN:Nat) (s:List Int) (w:World) (h:qf.rd w cs x) (hs:RdL RI w N n s) (hx:AlgP x) (hp:PermL x.1.toNat s):
  Calls Tryz.prog 64 #[.agg cs.toArray,.slice N n cN] w (AlgE w (ren x s)):=by
 obtain⟨a,c⟩:=x;obtain⟨z,rfl⟩:∃z:Nat,a=(z:Int):=⟨a.toNat,by have h1:1<=a:=hx.1;omega⟩;have hz1:1<=z:=by have h1:(1:Int)<=(z:Int):=hx.1;omega
 have hz5:z<=8:=by have h1:(z:Int)<=8:=hx.2.1;omega
 have hm4:c.length<=4:=hx.2.2.1;have HOP:Hid (∀o∈c,OpP z o):=fun o ho=>by have:=hx.2.2.2 o ho;simpa using this
 have Q:Hid (PermL z s):=by show PermL z s;simpa using hp
 have hnz:n=z:=by rw[<-hs.len];exact Q.out.1
 subst hnz;have HREN:Hid (ren ((n:Int),c) s=((n:Int),c.map (q2l n s))):=by show _=_;unfold ren;simp
 obtain⟨B,m,d,rfl,qs,qo⟩:=qv h;obtain rfl:c.length=m:=qo.len;obtain⟨w0,hw0,T0,hs0,BP,BR,BO⟩:=q7t w #[.int .i64 (n:Int),.slice B c.length d] #[.int .i64 0,.slice none 0 0] #[.int .i64 (n:Int),.slice none 0 0] 24 24;have HW0:Hid (_=w0):=hw0.symm;have W:=zaa hs0;have hPO0:PO w0.heap.size w0 (.slice none 0 0) ((c.take 0).map (q2l n s)) [] []:=PO.nil _ _;obtain⟨S,A⟩:=cl2 BP;rw[hw0]at S A;have cP0':=((Blk.new w 24 #[.int .i64 (n:Int),.slice B c.length d]).alloc (.cells #[.int .i64 0,.slice none 0 0] 24)).cell 0;simp at cP0';rw[HREN.out];clear hw0 hs0 hp hx h
 go_enter Tryz.func64,Tryz.ntmps64
 go_wp2_with fail;clear S A cP0'
 go_loopw [6] (fun i wr=>∃(k:Nat) (v:Value) (css:List (List Value)) (bls:List (List Nat)),k<=c.length/\i=.int .i64 k/\Blk wr w.heap.size 24 #[.int .i64 (n:Int),.slice B c.length d]/\Blk wr (w.heap.size+1) 24 #[.int .i64 0,.slice none 0 0]/\Blk wr (w.heap.size+1+1) 24 #[.int .i64 (n:Int),v]/\PO w0.heap.size wr v ((c.take k).map (q2l n s)) css bls/\Below w.heap.size w wr) (fun i _=>c.length - (intOf i).toNat)
 case atStart=>
  rw[HW0.out];exact⟨0,_,_,_,zah _,rfl,BP,BR,BO,hPO0,T0⟩
 case round=>
  clear hPO0 BP BR BO T0;obtain⟨k,v,css,bls,hk,rfl,BP,BR,BO,K,hT⟩:=hrel;have A:=BP.cell 1;simp at A
  by_cases hlt:k<c.length
  .obtain⟨r,hwo⟩:∃r:World,r=wr:=⟨_,rfl⟩
   subst hwo;have hk0:(0:Int)<=(k:Int):=by omega
   have hk1:(k:Int)<(c.length:Int):=by omega
   obtain⟨b,o,vs,y,rfl,-,hc,hr,-,hyk⟩:=qo.at hlt;obtain⟨ya,G⟩:=y;have ae:=HOP.out (ya,G) (zaf hyk);obtain⟨f,rfl⟩:∃f:Nat,ya=(f:Int):=⟨ya.toNat,by have h1:0<=ya:=ae.1;omega⟩;obtain⟨B',m',d',rfl,qa,qt⟩:=rdOp hr;obtain rfl:G.length=m':=qt.len;have hkk3:f<=3:=by have h1:(f:Int)<=3:=ae.2.1;omega
   have HYL:Hid (G.length=n ^ f):=by show _=_;have:=ae.2.2.1;simpa using this
   have HYB:Hid (∀v∈G,0<=v/\v<=(n:Int) - 1):=ae.2.2.2;obtain⟨L,hL⟩:∃L,G.length=L:=⟨_,rfl⟩;have HLT:=zaa hL;have hyl8:L<=4096:=by rw[<-hL,HYL.out];exact q47 (by omega) (by omega)
   have HLP:Hid (L=n ^ f):=by show _=_;rw[<-hL];exact HYL.out
   have HRO:Hid (q2l n s ((f:Int),G)=((f:Int),q2q n f s G (List.replicate L 0) L)):=by
    show _=_
    unfold q2l;simp only[za5];rw[HYL.out,HLP.out,qmc (T:=G) (T':=List.replicate (n ^ f) 0) (by omega) Q.out HYL.out (by simp)]
   rw[hL]at hc qt;have aa:w.cell? ⟨b,o+k*2,none⟩=some (.int .i64 (f:Int)):=hc 0 _ rfl;have ab:w.cell? ⟨b,o+k*2+1,none⟩=some (.slice B' L d'):=hc 1 _ rfl;have Z:=qe hT aa;have I:=qe hT ab;have HYK:=zaa hyk;clear hc hr hyk ae hL;go_upto_region 5 with fail
   go_cut [7] (fun v7 wx=>∃g gq,v7=.pointer (some ⟨gq,0,none⟩)/\Blk wx gq 122 #[.int .i64 (f:Int),.slice (some ⟨g,0,none⟩) L L]/\wx.ownsRow r.heap.size 3 1 (.slice (some ⟨g,0,none⟩) L L) L (ints (List.replicate L 0))/\r.heap.size<=gq/\Below r.heap.size r wx)
   case first=>
    obtain⟨M,hM,HMK⟩:=qry L (by omega);have HM:=zaa hM;clear hM;have cP1a:=qe (qm r (.cells #[.int .i64 0,.slice none 0 0] 122)) (A);have cc0a:=qe (qm r (.cells #[.int .i64 0,.slice none 0 0] 122)) (Z);have cc1a:=qe (qm r (.cells #[.int .i64 0,.slice none 0 0] 122)) (I);have cP1b:=qe (qm r (.cells M 3)) (A);have cc0b:=qe (qm r (.cells M 3)) (Z);have cc1b:=qe (qm r (.cells M 3)) (I);have cP1c:=qe (qm (r.alloc (.cells #[.int .i64 0,.slice none 0 0] 122)) (.cells M 3)) (qe (qm r (.cells #[.int .i64 0,.slice none 0 0] 122)) (A));have cc0c:=qe (qm (r.alloc (.cells #[.int .i64 0,.slice none 0 0] 122)) (.cells M 3)) (qe (qm r (.cells #[.int .i64 0,.slice none 0 0] 122)) (Z));have cc1c:=qe (qm (r.alloc (.cells #[.int .i64 0,.slice none 0 0] 122)) (.cells M 3)) (qe (qm r (.cells #[.int .i64 0,.slice none 0 0] 122)) (I));have cP1d:=qe (qm (r.alloc (.cells M 3)) (.cells #[.int .i64 0,.slice none 0 0] 122)) (qe (qm r (.cells M 3)) (A));have cc0d:=qe (qm (r.alloc (.cells M 3)) (.cells #[.int .i64 0,.slice none 0 0] 122)) (qe (qm r (.cells M 3)) (Z));have cc1d:=qe (qm (r.alloc (.cells M 3)) (.cells #[.int .i64 0,.slice none 0 0] 122)) (qe (qm r (.cells M 3)) (I))
    go_region
    all_goals
     go_wp2_with fail;go_meet
    .refine⟨r.heap.size,r.heap.size+1,rfl,?_,?_,by omega,zai (q6t _ _ _)⟩
     .have:=Blk.new (r.alloc (.cells M 3)) 122 #[.int .i64 (f:Int),.slice (some ⟨r.heap.size,0,none⟩) L L]
      rw[zfe]at this;exact this.drew
     .exact q2p ((qpe HM.out (by omega) (zad _)).alloc _) fun _ _=>rfl
    .refine⟨r.heap.size+1,r.heap.size,rfl,?_,?_,zad _,zai (q6t _ _ _)⟩
     .exact((Blk.new r 122 #[.int .i64 (f:Int),.slice (some ⟨r.heap.size+1,0,none⟩) L L]).alloc _).drew
     .have:=qpe (w:=r.alloc (.cells #[.int .i64 (f:Int),.slice (some ⟨r.heap.size+1,0,none⟩) L L] 122)) HM.out (by omega) (lo:=r.heap.size) (by simp)
      rw[zfe]at this;exact q2p this fun _ _=>rfl
   case rest=>
    obtain⟨g,gq,rfl,BQ,E,hgq,hTc⟩:=hcut;obtain⟨w5,HWC⟩:∃wq:World,wq=wc:=⟨_,rfl⟩;subst HWC;have hdt:=hT.size;have hbw:b<w.heap.size:=q50 aa;clear Z I A;have H:=BQ.cell 1;simp at H;go_wp2_with fail;clear H
    go_loopw [8] (fun i wi=>∃q:Nat,q<=L/\i=.int .i64 q/\Blk wi gq 122 #[.int .i64 (f:Int),.slice (some ⟨g,0,none⟩) L L]/\wi.ownsRow r.heap.size 3 1 (.slice (some ⟨g,0,none⟩) L L) L (ints (q2q n f s G (List.replicate L 0) q))/\Below r.heap.size r wi) (fun i _=>L - (intOf i).toNat)
    case atStart=>exact⟨0,zah _,rfl,BQ,E,hTc⟩
    case round=>
     clear BQ E hTc;obtain⟨q,hq,rfl,BQ,E,O⟩:=hrel;have hTwi:=q9 hT O rfl;obtain⟨cQ0,H⟩:=cl2 BQ
     by_cases hltq:q<L
     .obtain⟨wi,hwi⟩:∃wi:World,wi=wr:=⟨_,rfl⟩
      subst hwi;have hq0:(0:Int)<=(q:Int):=by omega
      have hq1:(q:Int)<(L:Int):=by omega
      obtain⟨b',o',u0,u,rfl,hcu,⟨rfl,-⟩,-,hxu⟩:=qt.at hltq;have hub:=HYB.out u (zaf hxu);obtain⟨u,rfl⟩:=zan hub.1;have hun:u<n:=by omega
      obtain⟨J,HJ⟩:∃J,Hid (toI n f s q=J):=⟨_,rfl⟩;have hJ:J<L:=by rw[<-HJ.out,HLP.out];exact qim (by omega) Q.out q
      obtain⟨nm,ad,hnmn,hnm2⟩:=Q.out.at hun;have HSTEP:Hid (q2q n f s G (List.replicate L 0) (q+1)=(q2q n f s G (List.replicate L 0) q).set J (nm:Int)):=by
       show _=_
       rw[q2q,HJ.out,zak,hxu];show(q2q n f s G (List.replicate L 0) q).set J (nmI s (u:Int))=_;have:=q3q ad;rw[this]
      obtain⟨nb,no,nv,nx,rfl,hcn,⟨rfl,-⟩,-,F⟩:=hs.at (k:=u) hun;rw[ad]at F;injection F with F
      subst F;have hbw2:b'<w.heap.size:=q50 hcu;have hbw3:nb<w.heap.size:=q50 hcn;have BPi:=BP.next O;have S:=BPi.cell 0;simp at S;clear hxu hub ad hnm2;go_wp2_with fail;refine(q59 q f n _ (by omega) (by omega) (by omega) (by omega)).mono ?_;rintro e w6 ⟨ga,rfl,hA,hb6⟩;obtain⟨D,HD⟩:∃D,Hid (digs n f q=D):=⟨_,rfl⟩;have HDL:Hid (D.length=f):=by show _=_;rw[<-HD.out,q1t]
      have HDB:Hid (∀x∈D,x<n):=by show ∀x∈D,_;rw[<-HD.out];exact fun x hx=>q20 (by omega) hx
      rw[HD.out]at hA;have HJ2:Hid (idx n (D.map (nmAt s))=J):=by show _=_;rw[<-HD.out];exact HJ.out
      have HMB:Hid (∀d∈D.map (nmAt s),d<n):=by
       intro d hd;rw[zbe]at hd;obtain⟨x,hx,rfl⟩:=hd;obtain⟨v',-,hv,e⟩:=Q.out.at (HDB.out x hx);omega
      have hT6:=q9 hTwi hb6 rfl;have BP6:=BPi.next hb6;have RA:RdL RI w6 (some ⟨ga,0,none⟩) f (nats D):=q12 (R:=RI) hA (qpf (b:=n) (fun d hd=>Nat.le_of_lt (HDB.out d hd)) (by omega));clear cQ0 H S hA;go_wp2_with fail
      go_loopw [10,11] (fun v i wj=>∃j:Nat,j<=f/\i=.int .i64 j/\v=.int .i64 (idx n ((D.map (nmAt s)).take j):Nat)/\Below w6.heap.size w6 wj) (fun _ i _=>f - (intOf i).toNat)
      case atStart=>exact⟨0,zah _,rfl,rfl,zac _ _⟩
      case round=>
       obtain⟨j,hj,rfl,rfl,U⟩:=hrel;obtain⟨P,HP⟩:∃P,Hid (idx n ((D.map (nmAt s)).take j)=P):=⟨_,rfl⟩;have hP:P<=4096:=by
        rw[<-HP.out];have:=qaa (n:=n) (by omega) (l:=(D.map (nmAt s)).take j) (by rw[za9,zbz,HDL.out];omega) fun d hd=>HMB.out d (zbt hd)
        omega
       rw[HP.out];have V:=q9 hT6 U rfl
       by_cases hltj:j<f
       .have hj0:(0:Int)<=(j:Int):=by omega
        have hj1:(j:Int)<(f:Int):=by omega
        obtain⟨dj,hdj⟩:∃dj,D[j]?=some dj:=⟨_,zae (by rw[HDL.out];exact hltj)⟩;have hdn:=HDB.out dj (zaf hdj);obtain⟨v',hv',hvn,hnm'⟩:=Q.out.at hdn;obtain⟨nv,nx,hcn',⟨rfl,-⟩,-,F⟩:=(hs.next qd V).at' (k:=dj) hdn;rw[hv']at F;injection F with F
        subst F;obtain⟨av,ax,hca,⟨rfl,-⟩,-,hxa⟩:=(RA.next qd U).at' hltj;rw[zcn]at hca;rw[qlq hdj]at hxa;injection hxa with hxa
        subst hxa;have S:=(BP6.next U).cell 0;simp at S;have HT:Hid (idx n ((D.map (nmAt s)).take (j+1))=P*n+v'):=by
         show _=_
         rw[q9l (d:=v') (by rw[za2,hdj];simp[hnm']),HP.out]
        have hM:P*n<=4096*8:=zci hP (by omega);have hm0:(0:Int)<=(P:Int)*(n:Int):=by rw[<-zbw];omega
        have hm1:(P:Int)*(n:Int)<=32768:=by rw[<-zbw];omega
        have HE:Hid ((P:Int)*(n:Int)=((P*n:Nat):Int)):=(zbw _ _).symm;have hd0:(0:Int)<=(dj:Int):=by omega
        have hd1:(dj:Int)<(n:Int):=by omega
        have HVN:=zaa hvn;have hvm:(v':Int)<=8:=by omega
        clear hM hdj hv' hnm' hvn;go_upto_region 14 with fail
        go_quiet (fail)
        go_wp2_with fail
        go_roundw
        case rel=>exact⟨j+1,by omega,by go_num,by rw[HT.out,HE.out];simp,by first|exact U|exact qc U _⟩
        case measure=>simp[intOf];omega
       .have hlt':¬(j:Int)<(f:Int):=by omega
        have hPJ:P=J:=by rw[<-HP.out,<-HJ2.out,zar (by rw[zbz,HDL.out];omega)]
        subst hPJ;have ac:=q9 hb6 U rfl;have C:=qp E ac;have BQr:=BQ.next ac;have Y:=BP6.next U;have H:=BQr.cell 1;have A:=Y.cell 1;simp at H A;have I:=qe V ab;have hcu2:=qe V hcu;have hcn2:=qe V hcn;obtain⟨x0,hx0⟩:∃x0,(ints (q2q n f s G (List.replicate L 0) q))[P]?=some x0:=⟨_,zae (by rw[q4t,q2u];simp;exact hJ)⟩;have cJ:wr.cell? ⟨g,P,none⟩=some x0:=(C.cellAt P (by omega)).trans hx0;have fJ:=C.frozenAt P;have hgo:=(C.lt g rfl).1;have hst:=(C.stored P (.int .i64 (nm:Int))).1;rw[q2n,<-HSTEP.out]at hst;have hwl:=BP.lt;have n1:w.heap.size≠g:=by omega
        have n2:gq≠g:=fun e=>q1s C BQr (by decide) (by rw[e];rfl)
        have n3:b≠g:=by omega
        have n4:b'≠g:=by omega
        have n5:nb≠g:=by omega
        have t:=zaa (zao (BQr.far (p:=⟨g,P,none⟩) n2 (.int .i64 (nm:Int))) (zao hst ((q9 O ac rfl).setCell (p:=⟨g,P,none⟩) hgo (.int .i64 (nm:Int)))));have hP0:(0:Int)<=(P:Int):=by omega
        have hP1:(P:Int)<(L:Int):=by omega
        have hu0:(0:Int)<=(u:Int):=by omega
        have hu1:(u:Int)<(n:Int):=by omega
        clear hst C hx0 E hcu hcn ab aa BQr Y;go_upto_region 15 with fail;have Tk:Below wr.heap.size wr wr:=zac _ _;have HKD:(wr.setCell ⟨g,P,none⟩ (.int .i64 (nm:Int))).drew.cell? ⟨gq,1,none⟩=some (.slice (some ⟨g,0,none⟩) L L)/\(wr.setCell ⟨g,P,none⟩ (.int .i64 (nm:Int))).drew.cell? ⟨w.heap.size,1,none⟩=some (.slice (some ⟨b,o,none⟩) c.length d)/\(wr.setCell ⟨g,P,none⟩ (.int .i64 (nm:Int))).drew.cell? ⟨b,o+k*2+1,none⟩=some (.slice (some ⟨b',o',none⟩) L d')/\(wr.setCell ⟨g,P,none⟩ (.int .i64 (nm:Int))).drew.cell? ⟨b',o'+q,none⟩=some (.int .i64 (u:Int))/\(wr.setCell ⟨g,P,none⟩ (.int .i64 (nm:Int))).drew.cell? ⟨nb,no+u,none⟩=some (.int .i64 (nm:Int)):=⟨q2c n2 H,q2c n1 A,q2c n3 I,q2c n4 hcu2,q2c n5 hcn2⟩
        go_region_held3 (fun w'=>w'.cell? ⟨gq,1,none⟩=some (.slice (some ⟨g,0,none⟩) L L)/\w'.cell? ⟨w.heap.size,1,none⟩=some (.slice (some ⟨b,o,none⟩) c.length d)/\w'.cell? ⟨b,o+k*2+1,none⟩=some (.slice (some ⟨b',o',none⟩) L d')/\w'.cell? ⟨b',o'+q,none⟩=some (.int .i64 (u:Int))/\w'.cell? ⟨nb,no+u,none⟩=some (.int .i64 (nm:Int))) (first|go_keep|exact⟨qe Tk H,qe Tk A,qe Tk I,qe Tk hcu2,qe Tk hcn2⟩|exact HKD) (fail)
        all_goals
         go_wp2_with fail
         go_roundw
         case rel=>exact⟨q+1,by omega,by go_num,t.out.1.drew,q2p t.out.2.1 (fun _ _=>rfl),zai t.out.2.2⟩
         case measure=>simp[intOf];omega
     .have hqe:q=L:=by omega
      subst hqe;have hlt':¬(q:Int)<(q:Int):=by omega
      obtain⟨X,HLL⟩:∃X,Hid ((c.take k).map (q2l n s)=X):=⟨_,rfl⟩;have HLK:Hid (X.length=k):=by show _=_;rw[<-HLL.out,zbz,za9];omega
      rw[HLL.out]at K;have HNX:Hid ((c.take (k+1)).map (q2l n s)=X++ [((f:Int),q2q n f s G (List.replicate q 0) q)]):=by
       show _=_
       rw[q3a HYK.out,zel,HLL.out,<-HRO.out];rfl
      obtain⟨VA,vc,rfl⟩:=qu K.2.1;have hTl:(q2q n f s G (List.replicate q 0) q).length=q:=by rw[q2u,zez]
      have hTb:∀y∈q2q n f s G (List.replicate q 0) q,InR y:=fun y hy=>by
       have:=qd5 Q.out (fun v hv=>by rw[List.mem_replicate]at hv;omega) HYB.out q (by rw[HLT.out];exact zad _) y hy;exact⟨by omega,by omega⟩
      have hO0:wr.ownsRow 0 3 1 (.slice (some ⟨g,0,none⟩) q q) (q2q n f s G (List.replicate q 0) q).length (ints (q2q n f s G (List.replicate q 0) q)):=by rw[hTl];exact ql E (zah _)
      have how:shOp.own wr [.int .i64 (f:Int),.slice (some ⟨g,0,none⟩) q q] ((f:Int),q2q n f s G (List.replicate q 0) q) [g]:=⟨[.int .i64 (f:Int)], [.slice (some ⟨g,0,none⟩) q q], [], [g],rfl,rfl,⟨_,rfl,⟨rfl,by omega,by omega⟩,rfl⟩,⟨_,rfl,hO0,hTb,rfl⟩⟩;have hgl:=E.lt g rfl;have hwz0:w0.heap.size<=r.heap.size:=by have h1:=BO.lt;have h2:=W.out;omega
      obtain⟨hvs,HPU⟩:=K.push O hwz0 how ⟨by simp,fun b hb=>by simp at hb;subst hb;exact hgl⟩;have BOr:=BO.next O;have Y:=BP.next O;have BRr:=BR.next O;have cO1:=BOr.cell 1;simp at cO1;have hsz:=O.size;clear how hO0 hTb hTl K
      go_wp2_with (at_builtin;refine app2 wr rfl _ _ 22 122 rfl (.agg #[.int .i64 0,.slice none 0 0]) 32 ze7 q70 rfl (by decide) w0.heap.size X.length vc VA css.flatten rfl hvs (.int .i64 (f:Int)) (.slice (some ⟨g,0,none⟩) q q) rfl rfl rfl (by have:=HLK.out;omega) (by omega) ?_;intro A8 c8 w8 hown8 hg8 hb8;have BO8:=BOr.grown hg8 (fun e=>q1s hvs BOr (by decide) e.symm);have BR8:=BRr.grown hg8 (fun e=>q1s hvs BRr (by decide) e.symm);have BP8:=Y.grown hg8 (fun e=>q1s hvs Y (by decide) e.symm);have cO8:=BO8.cell 1;have fO8:=BO8.frozen 1;simp at cO8)
      have PN2:=(HPU hown8 hg8).far (p:=⟨w.heap.size+1+1,1,none⟩) (by have:=W.out;show w.heap.size+1+1<w0.heap.size;omega) (.slice A8 (X.length+1) c8);have hT8:=(hTwi.trans (hb8.mono (by have:=W.out;omega))).setCell (p:=⟨w.heap.size+1+1,1,none⟩) (by show _<=_;simp;try omega) (.slice A8 (X.length+1) c8);have BO9:Blk (w8.setCell ⟨w.heap.size+1+1,1,none⟩ (.slice A8 (X.length+1) c8)) (w.heap.size+1+1) 24 #[.int .i64 (n:Int),.slice A8 (X.length+1) c8]:=by simpa using BO8.set_ 1 (.slice A8 (X.length+1) c8)
      have BR9:=BR8.far (p:=⟨w.heap.size+1+1,1,none⟩) (by simp) (.slice A8 (X.length+1) c8);have BP9:=BP8.far (p:=⟨w.heap.size+1+1,1,none⟩) (by simp;try omega) (.slice A8 (X.length+1) c8);have t:=zaa (zao BP9 (zao BR9 (zao BO9 (zao PN2 hT8))));clear BO9 BR9 BP9 PN2 hT8
      go_roundw
      case rel=>exact⟨k+1,_,_,_,by omega,by go_num,t.out.1,t.out.2.1,t.out.2.2.1,by rw[HNX.out];exact t.out.2.2.2.1,t.out.2.2.2.2⟩
      case measure=>simp[intOf];omega
  .have hke:k=c.length:=by omega
   have hlt':¬(k:Int)<(c.length:Int):=by omega
   rw[zar (by omega)]at K;obtain⟨VA,vc,hv⟩:=qu K.2.1;rw[zbz]at hv;subst hv;have hlow:w.heap.size<=w0.heap.size:=by have:=W.out;omega
   have hPF:=((K.far (p:=⟨w.heap.size+1,0,none⟩) (by have:=W.out;show w.heap.size+1<w0.heap.size;omega) (.int .i64 (n:Int))).far (p:=⟨w.heap.size+1,1,none⟩) (by have:=W.out;show w.heap.size+1<w0.heap.size;omega) (.slice VA c.length vc)).mono hlow;have hTF:=(hT.setCell (p:=⟨w.heap.size+1,0,none⟩) (by show _<=_;simp) (.int .i64 (n:Int))).setCell (p:=⟨w.heap.size+1,1,none⟩) (by show _<=_;simp) (.slice VA c.length vc);have cO0:=BO.cell 0;have cO1:=BO.cell 1;have cR0:=BR.cell 0;have cR1:=BR.cell 1;have fR0:=BR.frozen 0;have fR1:=BR.frozen 1;have BRR:Blk ((wr.setCell ⟨w.heap.size+1,0,none⟩ (.int .i64 (n:Int))).setCell ⟨w.heap.size+1,1,none⟩ (.slice VA c.length vc)) (w.heap.size+1) 24 #[.int .i64 (n:Int),.slice VA c.length vc]:=by simpa using((BR.set_ 0 (.int .i64 (n:Int))).set_ 1 (.slice VA c.length vc))
   have HPF:=zaa hPF;simp at cO0 cO1 cR0 cR1;clear hPF K hke;go_wp2_with fail
   (try simp only[Exit.inBlock,Exit.then])
   refine zat (v:=.agg #[.int .i64 (n:Int),.slice VA c.length vc]) (zb0 rfl _ _ (w.heap.size+1) 24 #[.int .i64 (n:Int),.slice VA c.length vc] (0,0) _ (by simp) BRR zb4 rfl (by kernel_rfl)) rfl ?_;exact⟨_,css,bls,rfl,HPF.out,hTF⟩
end Go.Proofs.YtfnmkbpogbekpaaGreatDoor
