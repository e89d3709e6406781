import Derived.Test.YtfnmkbpogbekpaaGreatDoorQ2
set_option linter.unusedVariables false
set_option linter.unusedSimpArgs false
set_option maxRecDepth 100000
set_option maxHeartbeats 32000000
namespace Go.Proofs.YtfnmkbpogbekpaaGreatDoor
open Go.RowKit
def noEq (e:q1a):Bool:=decide ((e.1.length:Int)=0) &&decide ((e.2.length:Int)=0)
def q6d (f:q12):Bool:=decide (f.1=0) &&(noEq f.2.1 &&decide ((f.2.2.length:Int)=0))
theorem q9x (cs:List Value) (x:q1a) (w:World) (h:qu.rd w cs x):Calls Tryz.prog 101 #[.agg cs.toArray] w (Bl w (.bool (noEq x))):=by
 obtain⟨f,b,g,c,a,d,rfl,i,e⟩:=q1i h;have j:Hid (noEq x=(((b:Int)==0) &&((a:Int)==0))):=by show _=_;unfold noEq;rw[i.len,e.len];rfl
 have k:=qm w (.cells #[.slice f b g,.slice c a d] 55)
 go_enter Tryz.func101,Tryz.ntmps101
 go_wp2
 all_goals
  go_ret;exact⟨qg (by rw[j.out];first|(simp;done)|(simp;omega)|(simp[*];done)|(simp[*];omega)),k⟩
theorem qc9 (cs:List Value) (x:q12) (w:World) (h:qj.rd w cs x):Calls Tryz.prog 122 #[.agg cs.toArray] w (Bl w (.bool (q6d x))):=by
 obtain⟨g,i,b,c,d,a,l,j,m,rfl,t,k,f,n⟩:=q1u h;have v:Hid (q6d x=((x.1==0) &&(noEq x.2.1 &&((j:Int)==0)))):=by show _=_;unfold q6d;rw[n.len];rfl
 obtain⟨C,p,q,y,r⟩:=q16 w #[.int .i64 x.1,.slice g i b,.slice c d a,.slice l j m] 57;have B:=q22 (x:=x.2.1) (cLeft:=b) (cRight:=a) (k.next qd q) (f.next qd q)
 rcases h1:(x.1==0)with _|_
 .go_enter Tryz.func122,Tryz.ntmps122
  have s:=zaa h1;go_wp2_with fail;go_ret;exact⟨qg (by rw[v.out,s.out];rfl),by rw[<-p];exact q⟩
 .rcases h2:noEq x.2.1 with _|_
  all_goals
   have s:=zaa h1;have u:=zaa h2;clear h2
   go_enter Tryz.func122,Tryz.ntmps122
   go_wp2_with fail;rw[<-p];refine(q9x _ _ _ B).mono ?_;rintro e D ⟨rfl,o⟩;rw[u.out];have z:=q9 q o rfl;replace r:=r.next o;have A:=r.cell 3;simp at A;go_wp2_with fail;go_ret;exact⟨qg (by rw[v.out,s.out,u.out];simp),z⟩
noncomputable def q27 (s:qw) (tx fa li aa bb:Bool):Bool:=(tx||eqC s.2.1 ⟨#[]⟩) &&((fa||q6d s.2.2.1) &&((li||decide ((s.2.2.2.1.length:Int)=0)) &&((aa||decide (s.2.2.2.2.1=0)) &&(bb||decide (s.2.2.2.2.2=0)))))
theorem qkx (s:ByteArray):s.toList.isEmpty=eqC s ⟨#[]⟩:=by
 rw[ByteArray.toList_eq]
 rcases h:eqC s ⟨#[]⟩with _|_
 .rw[q72]at h
  rcases h2:s.data.toList with _|⟨a,l⟩
  .exfalso
   exact h (q8o (by unfold bs;rw[h2]))
  .rfl
 .rw[q2e]at h
  rw[h];rfl
theorem qhd (s:ByteArray):(s.toList==(⟨#[]⟩:ByteArray).toList)=eqC s ⟨#[]⟩:=q36 rfl
theorem qdp (cs:List Value) (s:qw) (C z B v y:Bool) (w:World) (h:qn.rd w cs s)
  (L:(C,z,B,v,y)∈ [(true,false,false,false,false),(false,true,false,false,false),(false,false,false,true,true),(false,false,false,true,false),(false,false,true,false,false),(false,false,false,false,false)]):
  Calls Tryz.prog 70 #[.agg cs.toArray,.bool C,.bool z,.bool B,.bool v,.bool y] w (Bl w (.bool (q27 s C z B v y))):=by
 obtain⟨i,j,c,d,f,a,k,l,g,r,q,cList,rfl,I,J,o,n,m,p,u,U,V⟩:=q1f h;obtain⟨W,H,D,M,N⟩:=q16 w #[.int .i64 s.1,.string s.2.1,.int .i64 s.2.2.1.1,.slice i j c,.slice d f a,.slice k l g,.slice r q cList,.int .i64 s.2.2.2.2.1,.int .i64 s.2.2.2.2.2] 59;have T:=q6b (x:=s.2.2.1) (cEqLeft:=c) (cEqRight:=a) (cList:=g) o (n.next qd D) (m.next qd D) (p.next qd D);have E:Hid (q27 s C z B v y=((C||eqC s.2.1 ⟨#[]⟩) &&((z||q6d s.2.2.1) &&((B||((q:Int)==0)) &&((v||(s.2.2.2.2.1==0)) &&(y||(s.2.2.2.2.2==0))))))):=by show _=_;unfold q27;rw[u.len];rfl
 obtain⟨S,K⟩:∃b,Hid (q6d s.2.2.1=b):=⟨_,rfl⟩;rw[K.out]at E;simp only[zbq,Prod.mk.injEq,List.not_mem_nil,or_false]at L
 rcases ht:eqC s.2.1 ⟨#[]⟩with _|_<;>rcases S with _|_
 all_goals
  rw[ht]at E;have Q:=(qkx s.2.1).trans ht;have R:=(qhd s.2.1).trans ht;clear ht
  rcases L with⟨rfl,rfl,rfl,rfl,rfl⟩|⟨rfl,rfl,rfl,rfl,rfl⟩|⟨rfl,rfl,rfl,rfl,rfl⟩|⟨rfl,rfl,rfl,rfl,rfl⟩|⟨rfl,rfl,rfl,rfl,rfl⟩|⟨rfl,rfl,rfl,rfl,rfl⟩
  all_goals
   go_enter Tryz.func70,Tryz.ntmps70
   go_wp2_with fail
   try
    rw[<-H];refine(qc9 [.int .i64 s.2.2.1.1,.slice i j c,.slice d f a,.slice k l g] s.2.2.1 _ T).mono ?_;rintro e X ⟨rfl,A⟩;rw[K.out];have O:=q9 D A rfl;have t:=N.next A;have P:=t.cell 6;have F:=t.cell 7;have G:=t.cell 8;simp at P F G;go_wp2_with fail
   all_goals
    go_ret;exact⟨qg (by rw[E.out];first|(simp;done)|(simp;omega)|(simp[*];done)|(simp[*];omega)),by first|exact O|exact qm _ _⟩
noncomputable def q2j (s:qw):Bool:=
 if s.1=1 then q27 s true false false false false
 else if s.1=2 then q27 s false true false false false
 else if s.1=3\/s.1=4 then q27 s false false false true true &&(decide (0<=s.2.2.2.2.1) &&decide (0<=s.2.2.2.2.2))
 else if s.1=5 then q27 s false false false true false &&decide (0<=s.2.2.2.2.1)
 else if s.1=6 then q27 s false false true false false
 else if s.1=7 then q27 s false false false false false
 else false
theorem q2m (s:qw) (k:Int) (h:s.1=k):q2j s=(if k=1 then q27 s true false false false false
 else if k=2 then q27 s false true false false false
 else if k=3\/k=4 then q27 s false false false true true &&(decide (0<=s.2.2.2.2.1) &&decide (0<=s.2.2.2.2.2))
 else if k=5 then q27 s false false false true false &&decide (0<=s.2.2.2.2.1)
 else if k=6 then q27 s false false true false false
 else if k=7 then q27 s false false false false false
 else false):=by subst h;rfl
theorem qfj (cs:List Value) (s:qw) (w:World) (h:qn.rd w cs s):Calls Tryz.prog 35 #[.agg cs.toArray] w (Bl w (.bool (q2j s))):=by
 obtain⟨g,j,i,c,f,d,n,p,o,z,C,A,rfl,M,O,D,x,u,E,N,qA,qB⟩:=q1f h;obtain⟨w0,m,v,R,K⟩:=q16 w #[.int .i64 s.1,.string s.2.1,.int .i64 s.2.2.1.1,.slice g j i,.slice c f d,.slice n p o,.slice z C A,.int .i64 s.2.2.2.2.1,.int .i64 s.2.2.2.2.2] 59;have Y:=qn.stab h v.block;have P:=fun Z V X S T W=>qdp _ s Z V X S T w0 Y W
 by_cases k1:s.1=1
 .have k:Hid (q2j s=q27 s true false false false false):=by show _=_;rw[q2m s 1 k1];simp
  have B:(s.1==1)=true:=by simp;omega
  clear k1
  go_enter zf4,zfw
  go_wp2_with fail;rw[<-m];refine(P _ _ _ _ _ (by simp)).mono ?_;rintro e G ⟨rfl,a⟩;have q:=q9 v a rfl;go_wp2_with fail;go_ret;exact⟨qg k.out.symm,q⟩
 by_cases k2:s.1=2
 .have k:Hid (q2j s=q27 s false true false false false):=by show _=_;rw[q2m s 2 k2];simp
  have B:(s.1==1)=false:=by simp;omega
  have F:(s.1==2)=true:=by simp;omega
  clear k1 k2
  go_enter zf4,zfw
  go_wp2_with fail;rw[<-m];refine(P _ _ _ _ _ (by simp)).mono ?_;rintro e G ⟨rfl,a⟩;have q:=q9 v a rfl;go_wp2_with fail;go_ret;exact⟨qg k.out.symm,q⟩
 by_cases k3:s.1=3
 .have k:Hid (q2j s=(q27 s false false false true true &&(decide (0<=s.2.2.2.2.1) &&decide (0<=s.2.2.2.2.2)))):=by show _=_;rw[q2m s 3 k3];simp
  have B:(s.1==1)=false:=by simp;omega
  have F:(s.1==2)=false:=by simp;omega
  have H:(s.1==3)=true:=by simp;omega
  clear k1 k2 k3;obtain⟨I,y⟩:∃b,Hid (q27 s false false false true true=b):=⟨_,rfl⟩;rw[y.out]at k
  rcases I with _|_
  all_goals
   go_enter zf4,zfw
   go_wp2_with fail;rw[<-m];refine(P _ _ _ _ _ (by simp)).mono ?_;rintro e G ⟨rfl,a⟩;rw[y.out];have q:=q9 v a rfl;have l:=K.next a;have r:=l.cell 7;have t:=l.cell 8;simp at r t;go_wp2_with fail
   all_goals
    go_ret;exact⟨qg (by rw[k.out];first|(simp;done)|(simp;omega)|(simp[*];done)|(simp[*];omega)),q⟩
 by_cases k4:s.1=4
 .have k:Hid (q2j s=(q27 s false false false true true &&(decide (0<=s.2.2.2.2.1) &&decide (0<=s.2.2.2.2.2)))):=by show _=_;rw[q2m s 4 k4];simp
  have B:(s.1==1)=false:=by simp;omega
  have F:(s.1==2)=false:=by simp;omega
  have H:(s.1==3)=false:=by simp;omega
  have J:(s.1==4)=true:=by simp;omega
  clear k1 k2 k3 k4;obtain⟨I,y⟩:∃b,Hid (q27 s false false false true true=b):=⟨_,rfl⟩;rw[y.out]at k
  rcases I with _|_
  all_goals
   go_enter zf4,zfw
   go_wp2_with fail;rw[<-m];refine(P _ _ _ _ _ (by simp)).mono ?_;rintro e G ⟨rfl,a⟩;rw[y.out];have q:=q9 v a rfl;have l:=K.next a;have r:=l.cell 7;have t:=l.cell 8;simp at r t;go_wp2_with fail
   all_goals
    go_ret;exact⟨qg (by rw[k.out];first|(simp;done)|(simp;omega)|(simp[*];done)|(simp[*];omega)),q⟩
 by_cases k5:s.1=5
 .have k:Hid (q2j s=(q27 s false false false true false &&decide (0<=s.2.2.2.2.1))):=by show _=_;rw[q2m s 5 k5];simp
  have B:(s.1==1)=false:=by simp;omega
  have F:(s.1==2)=false:=by simp;omega
  have H:(s.1==3)=false:=by simp;omega
  have J:(s.1==4)=false:=by simp;omega
  have L:(s.1==5)=true:=by simp;omega
  clear k1 k2 k3 k4 k5;obtain⟨I,y⟩:∃b,Hid (q27 s false false false true false=b):=⟨_,rfl⟩;rw[y.out]at k
  rcases I with _|_
  all_goals
   go_enter zf4,zfw
   go_wp2_with fail;rw[<-m];refine(P _ _ _ _ _ (by simp)).mono ?_;rintro e G ⟨rfl,a⟩;rw[y.out];have q:=q9 v a rfl;have l:=K.next a;have r:=l.cell 7;have t:=l.cell 8;simp at r t;go_wp2_with fail
   all_goals
    go_ret;exact⟨qg (by rw[k.out];first|(simp;done)|(simp;omega)|(simp[*];done)|(simp[*];omega)),q⟩
 by_cases k6:s.1=6
 .have k:Hid (q2j s=q27 s false false true false false):=by show _=_;rw[q2m s 6 k6];simp
  have B:(s.1==1)=false:=by simp;omega
  have F:(s.1==2)=false:=by simp;omega
  have H:(s.1==3)=false:=by simp;omega
  have J:(s.1==4)=false:=by simp;omega
  have L:(s.1==5)=false:=by simp;omega
  have Q:(s.1==6)=true:=by simp;omega
  clear k1 k2 k3 k4 k5 k6
  go_enter zf4,zfw
  go_wp2_with fail;rw[<-m];refine(P _ _ _ _ _ (by simp)).mono ?_;rintro e G ⟨rfl,a⟩;have q:=q9 v a rfl;go_wp2_with fail;go_ret;exact⟨qg k.out.symm,q⟩
 by_cases k7:s.1=7
 .have k:Hid (q2j s=q27 s false false false false false):=by show _=_;rw[q2m s 7 k7];simp
  have B:(s.1==1)=false:=by simp;omega
  have F:(s.1==2)=false:=by simp;omega
  have H:(s.1==3)=false:=by simp;omega
  have J:(s.1==4)=false:=by simp;omega
  have L:(s.1==5)=false:=by simp;omega
  have Q:(s.1==6)=false:=by simp;omega
  have U:(s.1==7)=true:=by simp;omega
  clear k1 k2 k3 k4 k5 k6 k7
  go_enter zf4,zfw
  go_wp2_with fail;rw[<-m];refine(P _ _ _ _ _ (by simp)).mono ?_;rintro e G ⟨rfl,a⟩;have q:=q9 v a rfl;go_wp2_with fail;go_ret;exact⟨qg k.out.symm,q⟩
 .have k:Hid (q2j s=false):=by show _=_;unfold q2j;rw[zaj k1,zaj k2,zaj (by omega),zaj k5,zaj k6,zaj k7]
  have B:(s.1==1)=false:=by simp;omega
  have F:(s.1==2)=false:=by simp;omega
  have H:(s.1==3)=false:=by simp;omega
  have J:(s.1==4)=false:=by simp;omega
  have L:(s.1==5)=false:=by simp;omega
  have Q:(s.1==6)=false:=by simp;omega
  have U:(s.1==7)=false:=by simp;omega
  clear k1 k2 k3 k4 k5 k6 k7
  go_enter zf4,zfw
  go_wp2_with fail;go_ret;exact⟨qg k.out.symm,by rw[<-m];exact v⟩
theorem qft (x:q12):q6d x=eqC x (0,([], []), []):=by
 rw[zcd,q2e];obtain⟨k,⟨l,r⟩,t⟩:=x;simp[q6d,noEq,zdg]
theorem qbg (cs F:List Value) (x y:q1a) (w:World) (h:qu.rd w cs x) (M:qu.rd w F y):Calls Tryz.prog 183 #[.agg cs.toArray,.agg F.toArray] w (Bl w (.bool (eqC x y))):=by
 obtain⟨q,s,r,j,n,l,rfl,g,p⟩:=q1i h;obtain⟨k,o,m,b,f,c,rfl,a,i⟩:=q1i M;obtain⟨O,z,t,G,H,I⟩:=q1p w #[.slice q s r,.slice j n l] #[.slice k o m,.slice b f c] 55 55;have E:=zaa (q7a x y)
 rcases h1:eqC x.1 y.1 with _|_
 .have u:=zaa h1
  clear h1
  go_enter Tryz.func183,Tryz.ntmps183
  go_wp2_with fail;rw[<-z];refine(q4o (q4j _ _ _ _ _ _ _ _ _ (g.next qd t) (a.next qd t))).mono ?_;rintro e N ⟨rfl,d⟩;rw[q2l,u.out];have v:=q9 t d rfl;go_wp2_with fail;go_ret;exact⟨qg (by rw[E.out,u.out];rfl),v⟩
 .rcases h2:eqC x.2 y.2 with _|_
  all_goals
   have u:=zaa h1;have D:=zaa h2;clear h2
   go_enter Tryz.func183,Tryz.ntmps183
   go_wp2_with fail;rw[<-z];refine(q4o (q4j _ _ _ _ _ _ _ _ _ (g.next qd t) (a.next qd t))).mono ?_;rintro e N ⟨rfl,d⟩;rw[q2l,u.out];have v:=q9 t d rfl;have A:=H.next d;have B:=I.next d;have K:=A.cell 1;have L:=B.cell 1;simp at K L;go_wp2_with fail;refine(q4o (q4j _ _ _ _ _ _ _ _ _ (p.next qd v) (i.next qd v))).mono ?_;rintro e P ⟨rfl,C⟩;rw[q2l,D.out];have J:=q9 v C rfl;go_wp2_with fail;go_ret;exact⟨qg (by rw[E.out,u.out,D.out];rfl),J⟩
theorem q8y (cs R:List Value) (x y:q12) (w:World) (h:qj.rd w cs x) (Z:qj.rd w R y):Calls Tryz.prog 134 #[.agg cs.toArray,.agg R.toArray] w (Bl w (.bool (eqC x y))):=by
 obtain⟨p,r,d,j,l,b,A,E,C,rfl,P,s,n,F⟩:=q1u h;obtain⟨k,m,c,f,g,a,t,v,u,rfl,K,o,i,z⟩:=q1u Z;obtain⟨w0,D,B,S,U,V⟩:=q1p w #[.int .i64 x.1,.slice p r d,.slice j l b,.slice A E C] #[.int .i64 y.1,.slice k m c,.slice f g a,.slice t v u] 57 57;have N:=zaa (qf4 x y);have T:=q22 (x:=x.2.1) (cLeft:=d) (cRight:=b) (s.next qd B) (n.next qd B);have I:=q22 (x:=y.2.1) (cLeft:=c) (cRight:=a) (o.next qd B) (i.next qd B)
 rcases h0:eqC x.1 y.1 with _|_
 .have J:=zaa h0
  have ht:(x.1==y.1)=false:=by rw[<-h0,q87];rfl
  clear h0
  go_enter Tryz.func134,Tryz.ntmps134
  go_wp2_with fail;go_ret;exact⟨qg (by rw[N.out,J.out];rfl),by rw[<-D];exact B⟩
 .have J:=zaa h0
  have ht:(x.1==y.1)=true:=by rw[<-h0,q87];rfl
  clear h0
  rcases h1:eqC x.2.1 y.2.1 with _|_
  .have G:=zaa h1
   clear h1
   go_enter Tryz.func134,Tryz.ntmps134
   go_wp2_with fail;rw[<-D];refine(qbg _ _ _ _ _ T I).mono ?_;rintro e w1 ⟨rfl,q⟩;rw[G.out];have H:=q9 B q rfl;go_wp2_with fail;go_ret;exact⟨qg (by rw[N.out,J.out,G.out];rfl),H⟩
  .rcases h2:eqC x.2.2 y.2.2 with _|_
   all_goals
    have G:=zaa h1;have Q:=zaa h2;clear h2
    go_enter Tryz.func134,Tryz.ntmps134
    go_wp2_with fail;rw[<-D];refine(qbg _ _ _ _ _ T I).mono ?_;rintro e w1 ⟨rfl,q⟩;rw[G.out];have H:=q9 B q rfl;have L:=U.next q;have M:=V.next q;have X:=L.cell 3;have Y:=M.cell 3;simp at X Y;go_wp2_with fail;refine(q4o (q4j _ _ _ _ _ _ _ _ _ (F.next qd H) (z.next qd H))).mono ?_;rintro e w2 ⟨rfl,O⟩;rw[q2l,Q.out];have W:=q9 H O rfl;go_wp2_with fail;go_ret;exact⟨qg (by rw[N.out,J.out,G.out,Q.out];rfl),W⟩
theorem qn7 (w:World):qj.rd w [.int .i64 0,.slice none 0 0,.slice none 0 0,.slice none 0 0] ((0,([], []), []):q12):=
 q6b (x:=((0,([], []), []):q12)) ⟨by decide,by decide⟩ (RdL.nil _ _ _) (RdL.nil _ _ _) (RdL.nil _ _ _)
theorem qaq (cs:List Value) (x:q12) (w:World) (h:qj.rd w cs x):Calls Tryz.prog 77 #[.agg cs.toArray] w (Bl w (.bool (q6d x))):=by
 obtain⟨d,g,f,a,c,b,i,k,j,rfl,p,m,l,q⟩:=q1u h;obtain⟨z,o,r,s,y⟩:=q16 w #[.int .i64 x.1,.slice d g f,.slice a c b,.slice i k j] 57;have v:=qj.stab h r.block
 go_enter Tryz.func77,Tryz.ntmps77
 go_wp2_with fail;rw[<-o];refine(q8y _ _ _ _ _ v (qn7 _)).mono ?_;rintro e A ⟨rfl,n⟩;have u:=q9 r n rfl;have t:=zaa (qft x).symm;go_wp2_with fail;go_ret;exact⟨qg t.out,u⟩
theorem q8b (cs:List Value) (s:qw) (w:World) (h:qn.rd w cs s):Calls Tryz.prog 42 #[.agg cs.toArray] w (Bl w (.bool (q2j s))):=by
 obtain⟨j,m,d,g,i,c,n,o,k,B,q,cList,rfl,qKind,qText,v,r,p,y,L,qA,qB⟩:=q1f h;obtain⟨Q,P,S,hsz0,A⟩:=q16 w #[.int .i64 s.1,.string s.2.1,.int .i64 s.2.2.1.1,.slice j m d,.slice g i c,.slice n o k,.slice B q cList,.int .i64 s.2.2.2.2.1,.int .i64 s.2.2.2.2.2] 59;have rF:=q6b (x:=s.2.2.1) (cEqLeft:=d) (cEqRight:=c) (cList:=k) v (r.next qd S) (p.next qd S) (y.next qd S);have HX:∀H F G D E,Hid (q27 s H F G D E=((H||eqC s.2.1 ⟨#[]⟩) &&((F||q6d s.2.2.1) &&((G||((q:Int)==0)) &&((D||(s.2.2.2.2.1==0)) &&(E||(s.2.2.2.2.2==0))))))):=fun H F G D E=>by show _=_;unfold q27;rw[L.len];rfl
 obtain⟨t,R⟩:∃b,eqC s.2.1 ⟨#[]⟩=b:=⟨_,rfl⟩;obtain⟨f,HF⟩:∃b,Hid (q6d s.2.2.1=b):=⟨_,rfl⟩;obtain⟨l,hl⟩:∃b,((q:Int)==0)=b:=⟨_,rfl⟩;obtain⟨a,ha⟩:∃b,(s.2.2.2.2.1==0)=b:=⟨_,rfl⟩;obtain⟨b,hb⟩:∃b,(s.2.2.2.2.2==0)=b:=⟨_,rfl⟩;have ht1:=(qkx s.2.1).trans R;have ht2:=(qhd s.2.1).trans R;have U:=zaa R;clear R;have I:∀H F G D E,Hid (q27 s H F G D E=((H||t) &&((F||f) &&((G||l) &&((D||a) &&(E||b)))))):=fun H F G D E=>by show _=_;rw[(HX H F G D E).out,U.out,HF.out,hl,ha,hb]
 clear HX
 go_enter Tryz.func42,Tryz.ntmps42
 go_upto_region 1 with fail;rw[<-P];clear P;have W:=A.cell 1;have X:=A.cell 2;have Y:=A.cell 3;have Z:=A.cell 4;have c5:=A.cell 5;have c6:=A.cell 6;have N:=A.cell 8;simp at W X Y Z c5 c6 N;have z:Below Q.heap.size Q Q:=zab _ _
 go_cut [3,4,5,6] (fun v3 v4 v5 v6 wx=>v3=.bool t/\v4=.bool f/\v5=.bool l/\v6=.bool b/\Below Q.heap.size Q wx)
 case first=>
  go_region_held3 (fun w'=>w'.cell? ⟨w.heap.size,1,none⟩=some (.string s.2.1)/\w'.cell? ⟨w.heap.size,2,none⟩=some (.int .i64 s.2.2.1.1)/\w'.cell? ⟨w.heap.size,3,none⟩=some (.slice j m d)/\w'.cell? ⟨w.heap.size,4,none⟩=some (.slice g i c)/\w'.cell? ⟨w.heap.size,5,none⟩=some (.slice n o k)/\w'.cell? ⟨w.heap.size,6,none⟩=some (.slice B q cList)/\w'.cell? ⟨w.heap.size,8,none⟩=some (.int .i64 s.2.2.2.2.2)) (first|go_keep|exact⟨qe z W,qe z X,qe z Y,qe z Z,qe z c5,qe z c6,qe z N⟩) ((go_at_call 77;refine(qaq [.int .i64 s.2.2.1.1,.slice j m d,.slice g i c,.slice n o k] s.2.2.1 _ (qj.stab rF (by first|exact z.block|exact(zai z).block))).mono ?_;rintro e wn ⟨rfl,hbn⟩;replace z:=q9 (by first|exact z|exact zai z) hbn rfl;rw[HF.out]))
  all_goals(go_wp2_with fail;go_meet;exact⟨rfl,rfl,rfl,rfl,z⟩)
 case rest=>
  obtain⟨rfl,rfl,rfl,rfl,K⟩:=hcut;obtain⟨w4,V⟩:∃wq:World,wq=wc:=⟨_,rfl⟩;subst V;have C:=q9 S K rfl;replace A:=A.next K;clear K z W X Y Z c5 c6 N ht1 ht2 hl hb;have c0:=A.cell 0;have c7:=A.cell 7;have N:=A.cell 8;simp at c0 c7 N
  by_cases k1:s.1=1
  .have u:Hid (q2j s=(f &&(l &&(a &&b)))):=by
    show _=_
    rw[q2m s 1 k1];simp[(I _ _ _ _ _).out]
   have J:(s.1==1)=true:=by simp;omega
   clear k1
   go_wp2
   all_goals
    go_ret;exact⟨qg (by refine Eq.trans ?_ u.out.symm;first|rfl|(simp;done)|(simp[*];done)|(simp;omega)|(simp[*];omega)),C⟩
  by_cases k2:s.1=2
  .have u:Hid (q2j s=(t &&(l &&(a &&b)))):=by
    show _=_
    rw[q2m s 2 k2];simp[(I _ _ _ _ _).out]
   have J:(s.1==1)=false:=by simp;omega
   have M:(s.1==2)=true:=by simp;omega
   clear k1 k2
   go_wp2
   all_goals
    go_ret;exact⟨qg (by refine Eq.trans ?_ u.out.symm;first|rfl|(simp;done)|(simp[*];done)|(simp;omega)|(simp[*];omega)),C⟩
  by_cases k3:s.1=3
  .have u:Hid (q2j s=((t &&(f &&l)) &&(decide (0<=s.2.2.2.2.1) &&decide (0<=s.2.2.2.2.2)))):=by
    show _=_
    rw[q2m s 3 k3];simp[(I _ _ _ _ _).out]
   have J:(s.1==1)=false:=by simp;omega
   have M:(s.1==2)=false:=by simp;omega
   have O:(s.1==3)=true:=by simp;omega
   clear k1 k2 k3
   go_wp2
   all_goals
    go_ret;exact⟨qg (by refine Eq.trans ?_ u.out.symm;first|rfl|(simp;done)|(simp[*];done)|(simp;omega)|(simp[*];omega)),C⟩
  by_cases k4:s.1=4
  .have u:Hid (q2j s=((t &&(f &&l)) &&(decide (0<=s.2.2.2.2.1) &&decide (0<=s.2.2.2.2.2)))):=by
    show _=_
    rw[q2m s 4 k4];simp[(I _ _ _ _ _).out]
   have J:(s.1==1)=false:=by simp;omega
   have M:(s.1==2)=false:=by simp;omega
   have O:(s.1==3)=false:=by simp;omega
   have T:(s.1==4)=true:=by simp;omega
   clear k1 k2 k3 k4
   go_wp2
   all_goals
    go_ret;exact⟨qg (by refine Eq.trans ?_ u.out.symm;first|rfl|(simp;done)|(simp[*];done)|(simp;omega)|(simp[*];omega)),C⟩
  by_cases k5:s.1=5
  .have u:Hid (q2j s=((t &&(f &&(l &&b))) &&decide (0<=s.2.2.2.2.1))):=by
    show _=_
    rw[q2m s 5 k5];simp[(I _ _ _ _ _).out]
   have J:(s.1==1)=false:=by simp;omega
   have M:(s.1==2)=false:=by simp;omega
   have O:(s.1==3)=false:=by simp;omega
   have T:(s.1==4)=false:=by simp;omega
   have e5:(s.1==5)=true:=by simp;omega
   clear k1 k2 k3 k4 k5
   go_wp2
   all_goals
    go_ret;exact⟨qg (by refine Eq.trans ?_ u.out.symm;first|rfl|(simp;done)|(simp[*];done)|(simp;omega)|(simp[*];omega)),C⟩
  by_cases k6:s.1=6
  .have u:Hid (q2j s=(t &&(f &&(a &&b)))):=by
    show _=_
    rw[q2m s 6 k6];simp[(I _ _ _ _ _).out]
   have J:(s.1==1)=false:=by simp;omega
   have M:(s.1==2)=false:=by simp;omega
   have O:(s.1==3)=false:=by simp;omega
   have T:(s.1==4)=false:=by simp;omega
   have e5:(s.1==5)=false:=by simp;omega
   have e6:(s.1==6)=true:=by simp;omega
   clear k1 k2 k3 k4 k5 k6
   go_wp2
   all_goals
    go_ret;exact⟨qg (by refine Eq.trans ?_ u.out.symm;first|rfl|(simp;done)|(simp[*];done)|(simp;omega)|(simp[*];omega)),C⟩
  by_cases k7:s.1=7
  .have u:Hid (q2j s=(t &&(f &&(l &&(a &&b))))):=by
    show _=_
    rw[q2m s 7 k7];simp[(I _ _ _ _ _).out]
   have J:(s.1==1)=false:=by simp;omega
   have M:(s.1==2)=false:=by simp;omega
   have O:(s.1==3)=false:=by simp;omega
   have T:(s.1==4)=false:=by simp;omega
   have e5:(s.1==5)=false:=by simp;omega
   have e6:(s.1==6)=false:=by simp;omega
   have e7:(s.1==7)=true:=by simp;omega
   clear k1 k2 k3 k4 k5 k6 k7
   go_wp2
   all_goals
    go_ret;exact⟨qg (by refine Eq.trans ?_ u.out.symm;first|rfl|(simp;done)|(simp[*];done)|(simp;omega)|(simp[*];omega)),C⟩
  .have u:Hid (q2j s=false):=by show _=_;unfold q2j;rw[zaj k1,zaj k2,zaj (by omega),zaj k5,zaj k6,zaj k7]
   have J:(s.1==1)=false:=by simp;omega
   have M:(s.1==2)=false:=by simp;omega
   have O:(s.1==3)=false:=by simp;omega
   have T:(s.1==4)=false:=by simp;omega
   have e5:(s.1==5)=false:=by simp;omega
   have e6:(s.1==6)=false:=by simp;omega
   have e7:(s.1==7)=false:=by simp;omega
   clear k1 k2 k3 k4 k5 k6 k7
   go_wp2
   all_goals
    go_ret;exact⟨qg (by refine Eq.trans ?_ u.out.symm;first|rfl|(simp;done)|(simp[*];done)|(simp;omega)|(simp[*];omega)),C⟩
def arF (ops:List OpM) (v:Int):Nat:=(ops.getD (-1 - v).toNat (0, [])).1.toNat
def tbF (ops:List OpM) (v:Int):List Int:=(ops.getD (-1 - v).toNat (0, [])).2
def badV (ops:List OpM) (v:Int):Bool:=decide (6<=v)||decide (v< -(ops.length:Int))
def adV (ops:List OpM) (v:Int):Nat:=if 0<=v then 0 else arF ops v
def endT (ops:List OpM):List Int->Nat->Option Nat
 | [],m=>if m=0 then some 0 else none
 |v::l,m=>if m=0 then some 0 else if badV ops v then none else(endT ops l (m - 1+adV ops v)).map (· +1)
theorem qd9 (ops:List OpM) (l:List Int):endT ops l 0=some 0:=by cases l<;>rfl
theorem qbx (ops:List OpM) {m:Nat} (h:0<m):endT ops [] m=none:=by unfold endT;rw[zaj (by omega)]
theorem q9l {ops:List OpM} {v:Int} {l:List Int} {m:Nat} (h:0<m):endT ops (v::l) m=if badV ops v then none else(endT ops l (m - 1+adV ops v)).map (· +1):=by
 rw[endT,zaj (by omega)]
def endI (ops:List OpM) (t:List Int) (at_:Nat):Int:=match endT ops (t.drop at_) 1 with|some q=>((at_+q:Nat):Int)|none=> -1
def EnI (ops:List OpM) (t:List Int) (a0 k need:Nat):Prop:=endT ops (t.drop a0) 1=(endT ops (t.drop k) need).map (· +(k - a0))/\a0<=k/\need<=1+3*(k - a0)
theorem EnI.start (ops:List OpM) (t:List Int) (a:Nat):EnI ops t a a 1:=⟨by cases endT ops (t.drop a) 1<;>simp,zad _,by omega⟩
theorem EnI.done {ops:List OpM} {t:List Int} {a k:Nat} (h:EnI ops t a k 0):endI ops t a=(k:Int):=by
 unfold endI;rw[h.1,qd9];have:=h.2.1;show((a+(0+(k - a)):Nat):Int)=(k:Int);omega
theorem EnI.over {ops:List OpM} {t:List Int} {b k a:Nat} (h:EnI ops t b k a) (c:0<a) (d:¬k<t.length):endI ops t b= -1:=by
 unfold endI;rw[h.1,zbe (by omega),qbx ops c];rfl
theorem EnI.bad {ops:List OpM} {t:List Int} {b k a:Nat} {v:Int} (h:EnI ops t b k a) (g:0<a) (c:t[k]?=some v) (d:badV ops v=true):endI ops t b= -1:=by
 have f:=(zag.1 c).1;have e:t.drop k=v::t.drop (k+1):=by rw[zbd f,(zag.1 c).2]
 unfold endI;rw[h.1,e,q9l g,d];rfl
theorem EnI.next {ops:List OpM} {t:List Int} {b k a:Nat} {v:Int} (h:EnI ops t b k a) (i:0<a) (c:t[k]?=some v) (f:badV ops v=false) (l:adV ops v<=3):EnI ops t b (k+1) (a - 1+adV ops v):=by
 have g:=(zag.1 c).1;have e:t.drop k=v::t.drop (k+1):=by rw[zbd g,(zag.1 c).2]
 obtain⟨d,j,m⟩:=h;refine⟨?_,by omega,by omega⟩;rw[d,e,q9l i,f]
 rcases endT ops (t.drop (k+1)) (a - 1+adV ops v)with _|q
 .rfl
 .show some (q+1+(k - b))=some (q+(k+1 - b))
  congr 1
  omega
def q2q (ops:List OpM) (t:List Int):Bool:=decide (t.length<=60) &&decide (endI ops t 0=(t.length:Int))
theorem q2t {ops:List OpM} {t:List Int} (h:q2q ops t=true):t.length<=60/\endT ops t 1=some t.length:=by
 unfold q2q at h;rw[za4,zbt,zbt]at h;refine⟨h.1,?_⟩;have a:=h.2;unfold endI at a;rw[List.drop_zero]at a
 rcases e:endT ops t 1 with _|q
 .rw[e]at a
  simp only at a;omega
 .rw[e]at a
  simp only at a
  congr 1
  omega
theorem qcw {ops:List OpM} {t:List Int} (h:q2q ops t=true):0<t.length:=by
 obtain⟨-,a⟩:=q2t h
 rcases t with _|⟨v,l⟩
 .rw[qbx ops (by decide)]at a
  cases a
 .simp
def evS (n:Nat) (ops:List OpM) (vals:List Int):List Int->List Nat
 | []=> []
 | v :: l => if 0 <= v then (vals.getD v.toNat 0).toNat :: evS n ops vals l
   else ((tbF ops v).getD (idx n ((evS n ops vals l).take (arF ops v))) 0).toNat :: (evS n ops vals l).drop (arF ops v)
def evT (n:Nat) (ops:List OpM) (vals t:List Int):Nat:=(evS n ops vals t).headD 0
def GoodS (ops:List OpM) (l:List Int) (m:Nat):Prop:=endT ops l m=some l.length
theorem GoodS.nil {ops:List OpM} {m:Nat} (h:GoodS ops [] m):m=0:=by
 unfold GoodS at h
 rcases zc9 m with a|a
 .exact a
 .rw[qbx ops a]at h;cases h
theorem GoodS.cons {ops:List OpM} {v:Int} {l:List Int} {m:Nat} (h:GoodS ops (v::l) m):0<m/\badV ops v=false/\GoodS ops l (m - 1+adV ops v):=by
 unfold GoodS at h⊢
 rcases zc9 m with a|a
 .subst a
  rw[qd9]at h;injection h with h
  simp at h
 .rw[q9l a]at h
  split at h
  .cases h
  .rename_i hb
   refine⟨a,by simpa using hb,?_⟩
   rcases e:endT ops l (m - 1+adV ops v)with _|q
   .rw[e]at h;cases h
   .rw[e]at h
    injection h with h
    simp only[za0]at h
    congr 1
    omega
theorem GoodS.drop {ops:List OpM}:∀ {l:List Int} {m:Nat} (k:Nat),GoodS ops l m->∃m',GoodS ops (l.drop k) m'
 |l,m,0,h=>⟨m,by simpa using h⟩
 | [],m,k+1,h=>⟨m,by simpa using h⟩
 | v :: l, m, k + 1, h => by
   obtain ⟨-, -, h1⟩ := h.cons
   simpa using GoodS.drop k h1
theorem qbz {n:Nat} {ops:List OpM} {vals:List Int}:∀ {l:List Int} {m:Nat},GoodS ops l m->(evS n ops vals l).length=m
 | [],m,h=>by rw[h.nil];rfl
 | v :: l, m, h => by
   obtain ⟨h0, -, h1⟩ := h.cons;have a := qbz (n := n) (vals := vals) h1;unfold evS;unfold adV at a h1
   split
   . rename_i hv
     rw [zao hv] at a;rw [za0, a];omega
   . rename_i hv
     rw [zaj hv] at a;rw [za0, zcq, a];omega
theorem GoodS.room {n:Nat} {ops:List OpM} {vals:List Int} {v:Int} {l:List Int} {m:Nat} (h:GoodS ops (v::l) m):badV ops v=false/\(¬ 0<=v->arF ops v<=(evS n ops vals l).length):=by
 obtain⟨d,a,b⟩:=h.cons;refine⟨a,fun c=>?_⟩;rw[qbz b];unfold adV;rw[zaj c];omega
theorem q21 {ops:List OpM} {v:Int} (h:badV ops v=false):v<6/\ -(ops.length:Int)<=v:=by
 unfold badV at h;rw[Bool.or_eq_false_iff,zd5,zd5]at h;omega
theorem qk8 {n:Nat} {ops:List OpM} {v:Int} (b:∀o∈ops,OpP n o) (h:badV ops v=false) (e:¬ 0<=v):∃o,ops[(-1 - v).toNat]?=some o/\OpP n o/\arF ops v=o.1.toNat/\tbF ops v=o.2/\(-1 - v).toNat<ops.length:=by
 obtain⟨c,d⟩:=q21 h;have a:(-1 - v).toNat<ops.length:=by omega
 refine⟨ops[(-1 - v).toNat],zae a,b _ (zcu a),?_,?_,a⟩
 .unfold arF;rw[zan,zae a];rfl
 .unfold tbF;rw[zan,zae a];rfl
theorem qn8 {n:Nat} {ops:List OpM} {v:Int} (a:∀o∈ops,OpP n o) (h:badV ops v=false):adV ops v<=3:=by
 unfold adV
 split
 .omega
 .rename_i hv
  obtain⟨o,-,b,e,-⟩:=qk8 a h hv;rw[e];have:=b.2.1;omega
theorem qnp {n:Nat} {o:OpM} (g:0<n) (b:OpP n o) {l:List Nat} (e:l.length=o.1.toNat) (hd:∀d∈l,d<n):∃v:Nat,o.2[idx n l]?=some (v:Int)/\v<n:=by
 have a:=q9q _ l e hd;rw[<-b.2.2.1]at a;have c:=b.2.2.2 _ (zcu a);obtain⟨v,f⟩:=zam c.1;exact⟨v,by rw[zae a,f],by omega⟩
theorem qnb {n:Nat} {ops:List OpM} {vals:List Int} (e:0<n) (a:∀o∈ops,OpP n o) (f:∀x∈vals,0<=x/\x<=(n:Int) - 1):∀ {l:List Int} {m:Nat},GoodS ops l m->(∀v∈l,v<(vals.length:Int))->∀d∈evS n ops vals l,d<n
 | [],_,_,_,d,hd=>by cases hd
 | v :: l, m, h, hl, d, hd => by
   obtain ⟨h0, hb, h1⟩ := h.cons;have c := qnb e a f h1 fun x r => hl x (zaw _ r)
   have k := (h.room (n := n) (vals := vals)).2;unfold evS at hd
   split at hd
   . rename_i h0v
     rcases zbq.1 hd with rfl | hd
     . have b : v.toNat < vals.length := by have := hl v za2; omega
       rw [zan, zae b];have := f _ (zcu b);show (vals[v.toNat]).toNat < n
       omega
     . exact c d hd
   . rename_i h0v
     rcases zbq.1 hd with rfl | hd
     . obtain ⟨o, -, j, g, i, -⟩ := qk8 a hb h0v
       obtain ⟨w, p, q⟩ := qnp e j (l := (evS n ops vals l).take (arF ops v)) (by rw [za8, <- g]; have := k h0v; omega) fun d hd => c d (zbu hd)
       rw [i, zan, p];show ((w : Int)).toNat < n
       omega
     . exact c d (zdy hd)
theorem qnw {n:Nat} {ops:List OpM} {vals l:List Int} {v:Int} {x:Nat} (a:0<=v) (b:vals[v.toNat]?=some (x:Int)):evS n ops vals (v::l)=x::evS n ops vals l:=by
 rw[evS,zao a,zan,b];rfl
theorem qow {n:Nat} {ops:List OpM} {vals l:List Int} {v:Int} {o:OpM} {x:Nat} (a:¬ 0<=v) (b:arF ops v=o.1.toNat) (c:tbF ops v=o.2) (d:o.2[idx n ((evS n ops vals l).take o.1.toNat)]?=some (x:Int)):evS n ops vals (v::l)=x::(evS n ops vals l).drop o.1.toNat:=by
 rw[evS,zaj a,b,c,zan,d];rfl
def qbp (n:Nat) (ops:List OpM) (M:Nat->Bool):Prop:=∀o∈ops,∀i,i<o.2.length->(∀d∈digs n o.1.toNat i,M d=true)->M (nmAt o.2 i)=true
def LeM (n:Nat) (B M:Nat->Bool):Prop:=∀y,y<n->B y=true->M y=true
def InCl (n:Nat) (ops:List OpM) (B:Nat->Bool) (y:Nat):Prop:=∀M,qbp n ops M->LeM n B M->M y=true
noncomputable def clB (n:Nat) (ops:List OpM) (B:Nat->Bool) (y:Nat):Bool:=tt (InCl n ops B y)
theorem LeM.refl (n:Nat) (B:Nat->Bool):LeM n B B:=fun _ _ h=>h
theorem qb3 (n:Nat) (ops:List OpM) (B:Nat->Bool):qbp n ops (clB n ops B):=fun o f i e hd=>q3p.2 fun M b c=>b o f i e fun d a=>q3p.1 (hd d a) M b c
theorem qez (n:Nat) (ops:List OpM) (B:Nat->Bool):LeM n B (clB n ops B):=fun y b h=>q3p.2 fun _ _ a=>a y b h
theorem qiz {n:Nat} {ops:List OpM} {B M:Nat->Bool} (a:qbp n ops M) (b:LeM n B M):LeM n (clB n ops B) M:=fun _ _ h=>q3p.1 h M a b
theorem qou {n:Nat} {ops:List OpM} {B H:Nat->Bool} (d:LeM n B H) (b:qbp n ops H) (c:LeM n H (clB n ops B)) {y:Nat} (a:y<n):H y=clB n ops B y:=by
 rcases e:H y with _|_
 .rcases e2:clB n ops B y with _|_
  .rfl
  .have:=qiz b d y a e2
   rw[e]at this;cases this
 .exact(c y a e).symm
def offs (L:List Bool):Nat:=L.countP fun b=> !b
theorem qgv:∀ {L:List Bool} {x:Nat},L[x]?=some false->offs (L.set x true)+1=offs L
 | [],x,h=>by simp at h
 | b :: L, 0, h => by
   simp only [List.getElem?_cons_zero, zdh] at h;subst h;simp [offs]
 | b :: L, x + 1, h => by
   simp only [zdf] at h;have ih := qgv h;unfold offs at ih ⊢;simp only [List.set_cons_succ, List.countP_cons];omega
theorem qoe (L:List Bool):offs L<=L.length:=List.countP_le_length
structure ClI (n:Nat) (ops:List OpM) (L0 L:List Bool):Prop where
 len:L.length=n
 sup:LeM n (gB L0) (gB L)
 least:LeM n (gB L) (clB n ops (gB L0))
theorem ClI.start {n:Nat} {ops:List OpM} {a:List Bool} (h:a.length=n):ClI n ops a a:=⟨h,LeM.refl _ _,qez _ _ _⟩
def AllM (n k i:Nat) (L:List Bool):Bool:=(digs n k i).all (gB L)
theorem ClI.mark {n:Nat} {ops:List OpM} {b L:List Bool} (h:ClI n ops b L) (l:0<n) {o:OpM} (m:o∈ops) {i v:Nat} (f:o.2[i]?=some (v:Int)) (p:v<n) (g:AllM n o.1.toNat i L=true):ClI n ops b (L.set v true):=by
 have k:=h.len;refine⟨by rw[zcn];exact k,fun y c a=>?_,fun y c a=>?_⟩
 .rw[qdg (by omega)]
  split
  .rfl
  .exact h.sup y c a
 .rw[qdg (by omega)]at a
  split at a
  .rename_i e
   subst e;have j:=(zag.1 f).1;have:=qb3 n ops (gB b) o m i j fun d hd=>h.least d (q2u l hd) (zfv.1 g d hd)
   rwa [q1t f]at this
  .exact h.least y c a
def OkE (n:Nat) (L:List Bool) (o:OpM) (i:Nat):Prop:=AllM n o.1.toNat i L=true->gB L (nmAt o.2 i)=true
theorem ClI.done {n:Nat} {ops:List OpM} {a L:List Bool} (h:ClI n ops a L) (c:∀o∈ops,∀i,i<o.2.length->OkE n L o i) {y:Nat} (e:y<n):gB L y=clB n ops (gB a) y:=
 qou h.sup (fun o d i b hd=>c o d i b (zfv.2 hd)) h.least e
def StP (n:Nat) (ops:List OpM) (L:List Bool) (y:Nat):Prop:=∃o∈ops,∃i,i<o.2.length/\AllM n o.1.toNat i L=true/\nmAt o.2 i=y
noncomputable def stL (n:Nat) (ops:List OpM) (L:List Bool):List Bool:=(List.range n).map fun y=>gB L y||tt (StP n ops L y)
theorem qg8 (n:Nat) (ops:List OpM) (L:List Bool):(stL n ops L).length=n:=by simp[stL]
theorem qct {n:Nat} {ops:List OpM} {L:List Bool} {y:Nat} (a:y<n):gB (stL n ops L) y=(gB L y||tt (StP n ops L y)):=by
 refine q7q ?_;unfold stL;rw[za6,zeq a];rfl
noncomputable def stN (n:Nat) (ops:List OpM):Nat->List Bool->List Bool
 |0,L=>L
 |k+1,L=>stL n ops (stN n ops k L)
theorem qg9 {n:Nat} {ops:List OpM} {L:List Bool} (h:L.length=n):∀k,(stN n ops k L).length=n
 |0=>h
 |k+1=>qg8 _ _ _
theorem qfw:∀ {L M:List Bool},L.length=M.length->(∀y,gB L y=true->gB M y=true)->L≠M->offs M<offs L
 | [], [],_,_,h=>absurd rfl h
 | [],_::_,h,_,_=>by simp at h
 |_::_, [],h,_,_=>by simp at h
 | a :: L, b :: M, hl, hle, hne => by
   have h0 := hle 0;have g : ∀ y, gB L y = true -> gB M y = true := fun y => by
     have := hle (y + 1)
     simpa [gB] using this
   have d : L.length = M.length := by simpa using hl
   have f : offs M <= offs L := by
     by_cases e : L = M
     . rw [e]; exact zad _
     . exact Nat.le_of_lt (qfw d g e)
   by_cases e : L = M
   . subst e
     have c : a ≠ b := fun e => hne (by rw [e])
     have i : a = false /\ b = true := by
       rcases a with _ | _ <;> rcases b with _ | _
       . exact absurd rfl c
       . exact ⟨rfl, rfl⟩
       . have := h0 (by simp [gB]); simp [gB] at this
       . exact absurd rfl c
     obtain ⟨rfl, rfl⟩ := i;simp [offs]
   . have := qfw d g e
     have c : a = true -> b = true := fun e => by have := h0 (by simp [gB, e]); simpa [gB] using this
     unfold offs at this f ⊢;simp only [List.countP_cons]
     rcases a with _ | _ <;> rcases b with _ | _ <;> simp_all <;> omega
theorem qnn {n:Nat} {ops:List OpM} {L:List Bool} (c:L.length=n) (y:Nat) (h:gB L y=true):gB (stL n ops L) y=true:=by
 have b:y<n:=by
  rcases zco y n with a|a
  .exact a
  .unfold gB at h
   rw[zan,zbs (by omega)]at h;cases h
 rw[qct b,h];rfl
theorem qkt {n:Nat} {ops:List OpM} {L:List Bool} (a:L.length=n):∀k,stL n ops (stN n ops k L)=stN n ops k L\/k+offs (stN n ops k L)<=n
 |0=>.inr (by have:=qoe L;show 0+offs L<=n;omega)
 | k + 1 => by
   by_cases e : stL n ops (stN n ops k L) = stN n ops k L
   . left
     show stL n ops (stL n ops (stN n ops k L)) = stL n ops (stN n ops k L)
     rw [e, e]
   . right
     have h1 : k + offs (stN n ops k L) <= n := (qkt a k).resolve_left e;have b := qfw (L := stN n ops k L) (M := stL n ops (stN n ops k L)) (by rw [qg9 a, qg8]) (fun y => qnn (qg9 a k) y) (Ne.symm e);show k + 1 + offs (stL n ops (stN n ops k L)) <= n
     omega
theorem qom {n:Nat} {ops:List OpM} {L:List Bool} (a:L.length=n):stL n ops (stN n ops (n+1) L)=stN n ops (n+1) L:=by
 rcases qkt (ops:=ops) a (n+1)with h|h
 .exact h
 .omega
theorem qku {n:Nat} {ops:List OpM} {L:List Bool} (e:0<n) (c:L.length=n):∀k,LeM n (gB L) (gB (stN n ops k L))/\LeM n (gB (stN n ops k L)) (clB n ops (gB L))
 |0=>⟨LeM.refl _ _,qez _ _ _⟩
 | k + 1 => by
   obtain ⟨h1, h2⟩ := qku e c k;refine ⟨fun y b h => qnn (qg9 c k) y (h1 y b h), fun y b h => ?_⟩;have a : gB (stL n ops (stN n ops k L)) y = true := h;rw [qct b, zef] at a
   rcases a with a | a
   . exact h2 y b a
   . obtain ⟨o, j, i, g, f, rfl⟩ := q3p.1 a
     exact qb3 n ops (gB L) o j i g fun d hd => h2 d (q2u e hd) (zfv.1 f d hd)
theorem qpg {n:Nat} {ops:List OpM} {L:List Bool} (h:0<n) (d:L.length=n) (a:∀o∈ops,∀v∈o.2,0<=v/\v<=(n:Int) - 1) {y:Nat} (j:y<n):gB (stN n ops (n+1) L) y=clB n ops (gB L) y:=by
 obtain⟨f,g⟩:=qku (ops:=ops) h d (n+1);refine qou f (fun o e i b hd=>?_) g j;have k:=a o e _ (zcu b);have c:nmAt o.2 i<n:=by
  rw[q1t (zae b)];omega
 rw[<-qom d,qct c,<-q6i (show StP n ops (stN n ops (n+1) L) (nmAt o.2 i)from⟨o,e,i,b,zfv.2 hd,rfl⟩),Bool.or_true]
noncomputable def genL (n:Nat) (ops:List OpM) (S:List Int):List Int:=q1n n (clB n ops (gB (inL n S)))
def ParI (p:List Int) (i:Nat):Prop:=0<=p.getD i 0/\nmAt p i<=i/\nmAt p (nmAt p i)=nmAt p i
def ParP (n:Nat) (p:List Int):Prop:=p.length=n/\∀i,i<n->ParI p i
theorem ParP.at {n:Nat} {p:List Int} (h:ParP n p) {i:Nat} (hi:i<n):p[i]?=some (nmAt p i:Int)/\nmAt p i<=i/\nmAt p (nmAt p i)=nmAt p i:=by
 obtain⟨a,b,c⟩:=h.2 i hi;refine⟨?_,b,c⟩;have d:i<p.length:=by rw[h.1];exact hi
 unfold nmAt;rw[zan,zae d]at a⊢;simp only[Option.getD_some]at a⊢
 congr 1
 omega
def uniV (a b v:Int):Int:=if v=(if a<=b then b else a)then(if a<=b then a else b)else v
def uniL (p:List Int) (x y:Nat):List Int:=p.map (uniV (nmAt p x) (nmAt p y))
theorem qn2 (p:List Int) (x y:Nat):(uniL p x y).length=p.length:=by simp[uniL]
theorem qd0 {p:List Int} {x y:Nat} (h:nmAt p x=nmAt p y):uniL p x y=p:=by
 unfold uniL;rw[h];refine(List.map_congr_left (g:=id) fun v _=>?_).trans (List.map_id p);unfold uniV;simp only[Int.le_refl,if_true]
 split
 .rename_i e;exact e.symm
 .rfl
section
variable {n:Nat} {p:List Int} (hp:ParP n p)
include hp
theorem q6j {x y i:Nat} (hi:i<n):nmAt (uniL p x y) i=if nmAt p i=max (nmAt p x) (nmAt p y)then min (nmAt p x) (nmAt p y)else nmAt p i:=by
 have b:(uniL p x y)[i]?=some (uniV (nmAt p x) (nmAt p y) (nmAt p i)):=by
  unfold uniL;rw[za6,(hp.at hi).1];rfl
 rw[q1t b];unfold uniV
 by_cases hxy:nmAt p x<=nmAt p y
 .have a:((nmAt p x:Nat):Int)<=((nmAt p y:Nat):Int):=by omega
  rw[zao a,zao a,Nat.max_eq_right hxy,zeg hxy]
  by_cases e:nmAt p i=nmAt p y
  .rw[zao e,zao (by rw[e])];omega
  .rw[zaj e,zaj (by omega)];omega
 .have a:¬((nmAt p x:Nat):Int)<=((nmAt p y:Nat):Int):=by omega
  rw[zaj a,zaj a,Nat.max_eq_left (by omega),Nat.min_eq_right (by omega)]
  by_cases e:nmAt p i=nmAt p x
  .rw[zao e,zao (by rw[e])];omega
  .rw[zaj e,zaj (by omega)];omega
theorem qac {i:Nat} (hi:i<n):nmAt p i<n:=by have:=(hp.at hi).2.1;omega
theorem qgd {x y:Nat} (f:x<n) (g:y<n):ParP n (uniL p x y):=by
 have j:=qac hp f;have k:=qac hp g;have a:min (nmAt p x) (nmAt p y)<n:=by omega
 have d:nmAt p (min (nmAt p x) (nmAt p y))=min (nmAt p x) (nmAt p y):=by
  rcases Nat.le_total (nmAt p x) (nmAt p y)with h|h
  .rw[zeg h];exact(hp.at f).2.2
  .rw[Nat.min_eq_right h];exact(hp.at g).2.2
 refine⟨by rw[qn2];exact hp.1,fun i c=>?_⟩;have e:=q6j hp (x:=x) (y:=y) c;have b:=hp.at c;refine⟨?_,?_,?_⟩
 .unfold uniL
  rw[zan,za6,b.1];show 0<=uniV _ _ _
  unfold uniV
  split
  .split<;>omega
  .omega
 .rw[e]
  split
  .omega
  .exact b.2.1
 .rw[e]
  by_cases h2:nmAt p i=max (nmAt p x) (nmAt p y)
  .rw[zao h2,q6j hp a,d]
   split<;>rfl
  .rw[zaj h2,q6j hp (qac hp c),b.2.2,zaj h2]
theorem qcz {x y i j:Nat} (hi:i<n) (a:j<n) (h:nmAt p i=nmAt p j):nmAt (uniL p x y) i=nmAt (uniL p x y) j:=by rw[q6j hp hi,q6j hp a,h]
theorem ql8 {x y:Nat} (a:x<n) (b:y<n):nmAt (uniL p x y) x=nmAt (uniL p x y) y:=by
 rw[q6j hp a,q6j hp b]
 rcases Nat.le_total (nmAt p x) (nmAt p y)with h|h
 .rw[Nat.max_eq_right h,zeg h,zao rfl]
  split<;>omega
 .rw[Nat.max_eq_left h,Nat.min_eq_right h,zao rfl]
  split<;>omega
omit hp in
def fixs (n:Nat) (p:List Int):Nat:=((List.range n).filter fun i=>nmAt p i==i).length
omit hp in
theorem qdd {α:Type} {P Q:α->Bool}:∀ {l:List α},(∀a∈l,P a=true->Q a=true)->(∃a∈l,Q a=true/\P a=false)->(l.filter P).length<(l.filter Q).length
 | [],_,⟨a,ha,_⟩=>by cases ha
 | b :: l, h, ⟨a, ha, h1, h2⟩ => by
   have hle : (l.filter P).length <= (l.filter Q).length := by
     rw [<- List.countP_eq_length_filter, <- List.countP_eq_length_filter];exact List.countP_mono_left fun x c => h x (zaw _ c)
   rcases zbq.1 ha with rfl | ha
   . rw [List.filter_cons_of_neg (by rw [h2]; decide), List.filter_cons_of_pos h1]
     simp only [za0];omega
   . have e := qdd (fun x c => h x (zaw _ c)) ⟨a, ha, h1, h2⟩
     have d := h b za2
     rcases e1 : P b with _ | _
     . rw [List.filter_cons_of_neg (by rw [e1]; decide)]
       rcases e2 : Q b with _ | _
       . rw [List.filter_cons_of_neg (by rw [e2]; decide)]; exact e
       . rw [List.filter_cons_of_pos e2]; simp only [za0]; omega
     . rw [List.filter_cons_of_pos e1, List.filter_cons_of_pos (d e1)]
       simp only [za0];omega
theorem qn3 {x y:Nat} (f:x<n) (g:y<n) (h:nmAt p x≠nmAt p y):fixs n (uniL p x y)<fixs n p:=by
 have d:max (nmAt p x) (nmAt p y)<n:=by have:=qac hp f;have:=qac hp g;omega
 have a:nmAt p (max (nmAt p x) (nmAt p y))=max (nmAt p x) (nmAt p y):=by
  rcases Nat.le_total (nmAt p x) (nmAt p y)with h|h
  .rw[Nat.max_eq_right h];exact(hp.at g).2.2
  .rw[Nat.max_eq_left h];exact(hp.at f).2.2
 refine qdd (fun i c b=>?_) ⟨max (nmAt p x) (nmAt p y),zdu.2 d,by simpa using a,?_⟩
 .rw[zdu]at c
  rw[zdp,q6j hp c]at b;rw[zdp]
  split at b
  .rename_i e
   have:=(hp.at c).2.1;omega
  .exact b
 .rw[zbi,q6j hp d,a,zao rfl]
  omega
end
def repI (n k:Nat) (p:List Int) (i j:Nat):Nat:=idx n ((digs n k i).set j (nmAt p ((digs n k i).getD j 0)))
def PrE (n:Nat) (p:List Int) (o:OpM) (i j:Nat):Prop:=nmAt p (nmAt o.2 i)=nmAt p (nmAt o.2 (repI n o.1.toNat p i j))
def q4d (n:Nat) (ops:List OpM) (p:List Int):Prop:=∀o∈ops,∀j,j<o.1.toNat->∀i,i<o.2.length->PrE n p o i j
theorem qko {n k:Nat} {p:List Int} (a:0<n) (b:ParP n p) {i j:Nat}:repI n k p i j<n ^ k:=by
 refine q9q k _ (by rw[zcn,q2d]) fun d hd=>?_
 rcases zd0 hd with h|h
 .exact q2u a h
 .subst h
  refine qac b ?_;rw[zan]
  rcases e:(digs n k i)[j]? with _|d
  .exact a
  .exact q2u a (zaf e)
theorem qh4 {n:Nat}:∀(k q i d:Nat),q<k->(digs n k i).getD (k - 1 - q) 0=i / n ^ q % n/\idx n (digs n k i)+d*n ^ q=idx n ((digs n k i).set (k - 1 - q) d)+(i / n ^ q % n)*n ^ q
 |0,q,i,d,h=>by omega
 | k + 1, 0, i, d, h => by
   have hl : (digs n k (i / n)).length = k := q2d n k _;rw [digs];simp only [zf3, Nat.sub_zero, zfu, Nat.div_one, Nat.mul_one];refine ⟨?_, ?_⟩
   . rw [zan, za9 (by omega), hl]
     simp
   . rw [zd1 _ _ (by omega), hl]
     simp only [zc8, List.set_cons_zero, q4f];omega
 | k + 1, q + 1, i, d, h => by
   have hl : (digs n k (i / n)).length = k := q2d n k _;obtain ⟨c, e⟩ := qh4 (n := n) k q (i / n) d (by omega);have a : k + 1 - 1 - (q + 1) = k - 1 - q := by omega
   have b : i / n ^ (q + 1) = i / n / n ^ q := by rw [zff, zfe, Nat.div_div_eq_div_mul]
   rw [digs, a, b];refine ⟨?_, ?_⟩
   . rw [zan, zbw (by omega), <- zan]
     exact c
   . rw [List.set_append_left _ _ (by omega), q4f, q4f]
     have f := zav (· * n) e;simp only [Nat.add_mul] at f;rw [zff, <- Nat.mul_assoc, <- Nat.mul_assoc];omega
theorem qms {n k q i:Nat} {p:List Int} (d:0<n) (e:q<k) (hi:i<n ^ k):(repI n k p i (k - 1 - q):Int)=(i:Int)+((nmAt p (i / n ^ q % n):Int) - ((i / n ^ q % n:Nat):Int))*((n ^ q:Nat):Int):=by
 obtain⟨b,a⟩:=qh4 (n:=n) k q i (nmAt p (i / n ^ q % n)) e;unfold repI;rw[b];rw[q9a d hi]at a;have c:((i+nmAt p (i / n ^ q % n)*n ^ q:Nat):Int)=((idx n ((digs n k i).set (k - 1 - q) (nmAt p (i / n ^ q % n)))+(i / n ^ q % n)*n ^ q:Nat):Int):=by rw[a]
 rw[Int.natCast_add,zbx,Int.natCast_add,zbx]at c;rw[Int.sub_mul];omega
structure PuI (n:Nat) (p out:List Int) (all:Prop):Prop where
 par:ParP n out
 keep:∀i j,i<n->j<n->nmAt p i=nmAt p j->nmAt out i=nmAt out j
 same:all->out=p
 back:out=p->all
theorem PuI.start {n:Nat} {p:List Int} (h:ParP n p):PuI n p p True:=⟨h,fun _ _ _ _ h=>h,fun _=>rfl,fun _=>trivial⟩
theorem PuI.congr {n:Nat} {p c:List Int} {a b:Prop} (h:PuI n p c a) (e:a↔b):PuI n p c b:=⟨h.par,h.keep,fun d=>h.same (e.2 d),fun d=>e.1 (h.back d)⟩
theorem qog {n:Nat} {p q:List Int} (a:ParP n p) (b:ParP n q) (h:∀i,i<n->nmAt p i=nmAt q i):p=q:=by
 apply zcp;intro i
 by_cases hi:i<n
 .rw[(a.at hi).1,(b.at hi).1,h i hi]
 .rw[zbs (by rw[a.1];omega),zbs (by rw[b.1];omega)]
theorem PuI.next {n:Nat} {p a:List Int} {c:Prop} (f:ParP n p) (h:PuI n p a c) {x y:Nat} (k:x<n) (l:y<n):PuI n p (uniL a x y) (c/\nmAt p x=nmAt p y):=by
 refine⟨qgd h.par k l,fun i j b d e=>qcz h.par b d (h.keep i j b d e),fun⟨r,g⟩=>?_,fun e=>?_⟩
 .have:=h.same r
  subst this;exact qd0 g
 .have o:nmAt p x=nmAt p y:=by rw[<-e];exact ql8 h.par k l
  refine⟨h.back ?_,o⟩;refine qog h.par f fun i b=>?_
  have q:∀i j,i<n->j<n->nmAt a i=nmAt a j->nmAt p i=nmAt p j:=fun i j b d m=>by
   rw[<-e];exact qcz h.par b d m
  have s:=h.par.at b;have t:=f.at b;have u:=h.keep (nmAt p i) i (by omega) b t.2.2;have v:=q (nmAt a i) i (by omega) b s.2.2;have w:=(h.par.at (show nmAt p i<n by omega)).2.1;have z:=(f.at (show nmAt a i<n by omega)).2.1;omega
theorem qbq:∀ {l m:List Int},l.Pairwise (· < ·)->m.Pairwise (· < ·)->(∀x,x∈l↔x∈m)->l=m
 | [], [],_,_,_=>rfl
 | [],b::m,_,_,h=>by have:=(h b).2 za2;cases this
 |a::l, [],_,_,h=>by have:=(h a).1 za2;cases this
 | a :: l, b :: m, hl, hm, h => by
   rw [zew] at hl hm;have e : a = b := by
     rcases zbq.1 ((h a).1 za2) with e | e
     . exact e
     . rcases zbq.1 ((h b).2 za2) with d | d
       . exact d.symm
       . have f := hm.1 a e
         have g := hl.1 b d;omega
   subst e
   congr 1
   refine qbq hl.2 hm.2 fun x => ⟨fun c => ?_, fun c => ?_⟩
   . rcases zbq.1 ((h x).1 (zaw _ c)) with e | e
     . subst e; have := hl.1 x c; omega
     . exact e
   . rcases zbq.1 ((h x).2 (zaw _ c)) with e | e
     . subst e; have := hm.1 x c; omega
     . exact e
theorem qkh {xs L:List Int} {y:Int} (h:xs.Pairwise (· < ·)) (v:PutP xs y L):L.Pairwise (· < ·)/\∀z,z∈L↔z∈xs\/z=y:=by
 obtain⟨k,A,o,⟨g,rfl⟩|⟨g,rfl⟩⟩:=v
 .refine⟨h,fun z=>⟨.inl,fun d=>?_⟩⟩
  rcases d with d|rfl
  .exact d
  .exact zaf g
 .have r:=h
  rw[<-zcw k xs,List.pairwise_append]at r;obtain⟨w,p,x⟩:=r;have m:∀z∈xs.drop k,y<z:=fun z d=>by
   rcases e:xs.drop k with _|⟨c,l⟩
   .rw[e]at d;cases d
   .have u:xs[k]?=some c:=by
     have:=zav (fun q=>q[0]?) e
     simpa[zda]using this
    have t:=g c u;rw[e]at d p
    rcases zbq.1 d with rfl|d
    .exact t
    .have:=(zew.1 p).1 z d
     omega
  have n:∀z∈xs.take k,z<y:=fun z d=>by
   obtain⟨i,f⟩:=zbh d;rw[zdx]at f
   split at f
   .rename_i hik
    exact o i hik z f
   .cases f
  refine⟨List.pairwise_append.2 ⟨w,zew.2 ⟨m,p⟩,fun a s b j=>?_⟩,fun z=>?_⟩
  .rcases zbq.1 j with rfl|j
   .exact n a s
   .exact x a s b j
  .rw[zat,zbq]
   have e:z∈xs↔z∈xs.take k\/z∈xs.drop k:=by rw[<-zat,zcw]
   rw[e];constructor
   .rintro(h|h|h)
    .exact .inl (.inl h)
    .exact .inr h
    .exact .inl (.inr h)
   .rintro((h|h)|h)
    .exact .inl h
    .exact .inr (.inr h)
    .exact .inr (.inl h)
theorem qh1 {n:Nat} {M:Nat->Bool} {y:Nat} {L:List Int} (e:y<n) (h:PutP (q1n n M) (y:Int) L):L=q1n n (fun z=>M z||z==y):=by
 obtain⟨c,d⟩:=qkh (q47 n M) h;refine qbq c (q47 _ _) fun z=>?_
 rw[d,q4y,q4y];constructor
 .rintro(⟨x,b,a,rfl⟩|rfl)
  .exact⟨x,b,by rw[a];rfl,rfl⟩
  .exact⟨y,e,by simp,rfl⟩
 .rintro⟨x,b,a,rfl⟩
  rw[zef,zdp]at a
  rcases a with a|rfl
  .exact .inl ⟨x,b,a,rfl⟩
  .exact .inr rfl
def varM (t:List Int) (y:Nat):Bool:=hasI (y:Int) t
def q5v (L R:List Int):List Int:=q1n 6 fun y=>varM L y||varM R y
def q71 (t:List Int) (k:Nat) (y:Nat):Bool:=hasI (y:Int) (t.take k)
theorem qio (t:List Int) (y:Nat):q71 t 0 y=false:=rfl
theorem qbn {t:List Int} {k:Nat} {v:Int} (h:t[k]?=some v) (y:Nat):q71 t (k+1) y=(q71 t k y||decide (v=(y:Int))):=by
 unfold q71;rw[zbj,h,zcd,zef,q61,q61,zat,zbt];simp only[Option.toList_some,zcf];exact⟨fun h=>h.imp id Eq.symm,fun h=>h.imp id Eq.symm⟩
theorem qev {t:List Int} {k:Nat} (h:t.length<=k) (y:Nat):q71 t k y=varM t y:=by unfold q71 varM;rw[zaq h]
theorem qd3 (L R:List Int) (y:Nat):varM (L++R) y=(varM L y||varM R y):=by
 unfold varM;rw[zcd,zef,q61,q61,q61,zat]
def setV (vars:List Int) (ds:List Nat):Nat->List Int->List Int
 |0,V=>V
 |k+1,V=>(setV vars ds k V).set (vars.getD k 0).toNat ((ds.getD k 0:Nat):Int)
theorem q9i (vars:List Int) (a:List Nat) (V:List Int):∀k,(setV vars a k V).length=V.length
 |0=>rfl
 |k+1=>by rw[setV,zcn,q9i vars a V k]
theorem qkr {n:Nat} {vars:List Int} {a:List Nat} {V:List Int} (hd:∀d∈a,d<n) (c:0<n) (b:∀x∈V,0<=x/\x<=(n:Int) - 1):∀k,∀x∈setV vars a k V,0<=x/\x<=(n:Int) - 1
 |0,x,hx=>b x hx
 | k + 1, x, hx => by
   rw [setV] at hx
   rcases zd0 hx with h | h
   . exact qkr hd c b k x h
   . subst h
     have : a.getD k 0 < n := by
       rw [zan]
       rcases e : a[k]? with _ | d
       . exact c
       . exact hd d (zaf e)
     omega
def mxV (vars:List Int):Nat:=(vars.getLast?.getD (-1)+1).toNat
def Wb (n:Nat) (vars:List Int):Nat->List Int
 |0=>List.replicate (mxV vars) 0
 |i+1=>setV vars (digs n vars.length i) vars.length (Wb n vars i)
theorem qis (n:Nat) (vars:List Int):∀i,(Wb n vars i).length=mxV vars
 |0=>by simp[Wb]
 |i+1=>by rw[Wb,q9i,qis n vars i]
theorem qir {n:Nat} (a:0<n) (vars:List Int):∀i,∀x∈Wb n vars i,0<=x/\x<=(n:Int) - 1
 | 0, x, hx => by
   rw [Wb] at hx;have := (List.mem_replicate.1 hx).2;omega
 | i + 1, x, hx => by
   rw [Wb] at hx;exact qkr (fun d hd => q2u a hd) a (qir a vars i) _ x hx
def TryP (n:Nat) (ops:List OpM) (L R:List Int) (i:Nat):Prop:=evT n ops (Wb n (q5v L R) (i+1)) L=evT n ops (Wb n (q5v L R) (i+1)) R
def q62 (n:Nat) (ops:List OpM) (L R:List Int):Prop:=∀i,i<n ^ (q5v L R).length->TryP n ops L R i
def askB (n:Nat) (ops:List OpM) (L R:List Int):Bool:=(q2q ops L &&q2q ops R) &&decide (n ^ (q5v L R).length<=5000)
noncomputable def q7r (n:Nat) (ops:List OpM) (L R:List Int):Bool:=askB n ops L R &&tt (q62 n ops L R)
def q45 (n:Nat) (ops:List OpM) (L R V:List Int):Bool:=q1v 0 ((n:Int) - 1) V &&(decide (V.length=mxV (q5v L R)) &&decide (evT n ops V L≠evT n ops V R))
theorem qgn {ops:List OpM}:∀ {l:List Int} {m:Nat},GoodS ops l m->∀v∈l,badV ops v=false
 | [],_,_,v,hv=>by cases hv
 | x :: l, m, h, v, hv => by
   obtain ⟨-, h1, h2⟩ := h.cons
   rcases zbq.1 hv with rfl | hv
   . exact h1
   . exact qgn h2 v hv
theorem q2z {ops:List OpM} {t:List Int} (h:q2q ops t=true):∀v∈t,badV ops v=false:=qgn (show GoodS ops t 1 from(q2t h).2)
theorem qbr:∀ {l:List Int},l.Pairwise (· < ·)->∀v∈l,v<=l.getLast?.getD (-1)
 | [],_,v,hv=>by cases hv
 | [a],_,v,hv=>by rw[zcf]at hv;subst hv;simp
 | a :: b :: l, h, v, hv => by
   rw [zew] at h;have ih := qbr h.2;rw [List.getLast?_cons_cons]
   rcases zbq.1 hv with rfl | hv
   . have c := h.1 b za2
     have d := ih b za2;omega
   . exact ih v hv
theorem qak (L R:List Int):(q5v L R).length<=6:=q3t _ _
theorem q5w (L R:List Int):∀v∈q5v L R,0<=v/\v<=5:=fun v a=>by
 have:=q4h (n:=6) v a;omega
theorem qoc (L R:List Int):mxV (q5v L R)<=6:=by
 unfold mxV
 rcases e:(q5v L R).getLast? with _|v
 .simp
 .have:=q5w L R v (List.mem_of_getLast? e)
  show(v+1).toNat<=6;omega
theorem q92 {ops:List OpM} {L R:List Int} (b:q2q ops L=true) (c:q2q ops R=true) {v:Int} (a:v∈L\/v∈R):v<(mxV (q5v L R):Int):=by
 by_cases h0:0<=v
 .have e:v<6:=by
   rcases a with a|a
   .exact(q21 (q2z b v a)).1
   .exact(q21 (q2z c v a)).1
  obtain⟨y,rfl⟩:=zam h0;have d:(y:Int)∈q5v L R:=by
   refine q4y.2 ⟨y,by omega,?_,rfl⟩;rw[zef];exact a.imp q61.2 q61.2
  have:=qbr (q47 _ _) _ d;unfold mxV;show(y:Int)<(((q1n 6 _).getLast?.getD (-1)+1).toNat:Int);omega
 .omega
theorem qlc {L R:List Int} {v:Int} (a:v∈q5v L R):v<(mxV (q5v L R):Int):=by
 have b:=qbr (q47 6 _) v a;have c:=(q5w L R v a).1;unfold mxV;show v<(((q1n 6 _).getLast?.getD (-1)+1).toNat:Int)
 omega
theorem qcg {vars:List Int} {v:Int} (h:vars.getLast?=some v) (a:0<=v):(mxV vars:Int)=v+1:=by
 unfold mxV;rw[h];show((v+1).toNat:Int)=v+1;omega
def HomP (n:Nat) (ops:List OpM) (f:List Int):Prop:=∀o∈ops,∀i,i<o.2.length->nmAt f (nmAt o.2 i)=nmAt o.2 (toI n o.1.toNat f i)
noncomputable def q3q (n:Nat) (ops:List OpM) (p:List Int):Bool:=tt (ParP n p) &&tt (q4d n ops p)
noncomputable def homB (n:Nat) (ops:List OpM) (f:List Int):Bool:=(decide (f.length=n) &&q1v 0 ((n:Int) - 1) f) &&tt (HomP n ops f)
noncomputable def subB (n:Nat) (ops:List OpM) (V:List Int):Bool:=(q1v 0 ((n:Int) - 1) V &&q20 V) &&decide ((genL n ops V).length=V.length)
noncomputable def genB (n:Nat) (ops:List OpM) (V:List Int):Bool:=(q1v 0 ((n:Int) - 1) V &&q20 V) &&decide ((genL n ops V).length=n)
theorem qnf {n:Nat} {ops:List OpM} {V:List Int} (h:∀v∈V,0<=v/\v<=(n:Int) - 1):∀v∈V,v∈genL n ops V:=fun v a=>by
 obtain⟨y,rfl⟩:=zam (h v a).1;have b:y<n:=by have:=(h _ a).2;omega
 refine q4y.2 ⟨y,b,qez n ops _ y b ?_,rfl⟩;refine q7q ?_;unfold inL;rw[za6,zeq b];show some (hasI (y:Int) V)=some true
 rw[q61.2 a]
theorem qp0 {n:Nat} {ops:List OpM} {V:List Int} (h:∀v∈V,0<=v/\v<=(n:Int) - 1) (d:q20 V=true):(genL n ops V).length=V.length↔genL n ops V=V:=by
 constructor
 .intro g
  have c:=qae.1 d;refine qbq (q47 _ _) c fun x=>⟨fun f=>?_,qnf h x⟩
  have a:V.Nodup:=c.imp fun h=>by omega
  by_cases hxV:x∈V
  .exact hxV
  .have:=qa4 (l:=x::V) (m:=genL n ops V) (zee.2 ⟨hxV,a⟩) fun y b=>by
    rcases zbq.1 b with rfl|b
    .exact f
    .exact qnf h y b
   simp only[za0]at this;omega
 .intro e
  rw[e]
noncomputable def q1l (x:qi) (f:q12):Bool:=
 if f.1=1 then q7r x.1.toNat x.2 f.2.1.1 f.2.1.2 &&decide (f.2.2.length=0)
 else if f.1=2 then askB x.1.toNat x.2 f.2.1.1 f.2.1.2 &&q45 x.1.toNat x.2 f.2.1.1 f.2.1.2 f.2.2
 else noEq f.2.1 &&(if f.1=3 then subB x.1.toNat x.2 f.2.2 else if f.1=4 then q3q x.1.toNat x.2 f.2.2 else if f.1=5 then genB x.1.toNat x.2 f.2.2 else if f.1=6 then homB x.1.toNat x.2 f.2.2 else false)
theorem q4p {n:Nat} {b:Bool} (h:decide (n=0)=b):((n:Int)==0)=b:=by rw[<-h,zcd,zdp,zbt];omega
abbrev LabM:Type:=(Bool×qi×List q12×Int)
def q19:Sh LabM:=(Sh.pair Sh.bool (Sh.pair qf (Sh.pair (Sh.rows qj 57) Sh.int)))
theorem q3j {w:World} {cs:List Value} {x:LabM} (h:q19.rd w cs x):∃(ABaseOps:Option Addr) (nBaseOps cBaseOps:Nat) (AFacts:Option Addr) (nFacts cFacts:Nat),cs= [.bool x.1,.int .i64 x.2.1.1,.slice ABaseOps nBaseOps cBaseOps,.slice AFacts nFacts cFacts,.int .i64 x.2.2.2]/\InR x.2.1.1/\RdN shOp.m shOp.rd w ABaseOps nBaseOps x.2.1.2/\RdN qj.m qj.rd w AFacts nFacts x.2.2.1/\InR x.2.2.2:=by
 obtain⟨_,_,rfl,⟨_,rfl,rfl⟩,⟨_,_,rfl,⟨_,_,rfl,⟨_,rfl,rfl,b,a⟩,⟨ABaseOps,nBaseOps,cBaseOps,rfl,e⟩⟩,⟨_,_,rfl,⟨AFacts,nFacts,cFacts,rfl,f⟩,⟨_,rfl,rfl,d,c⟩⟩⟩⟩:=h;exact⟨ABaseOps,nBaseOps,cBaseOps,AFacts,nFacts,cFacts,rfl,⟨b,a⟩,e,f,⟨d,c⟩⟩
theorem qp3 {w:World} {x:LabM} {a d:Option Addr} {b c e f:Nat} (g:InR x.2.1.1) (i:RdN shOp.m shOp.rd w a b x.2.1.2) (j:RdN qj.m qj.rd w d e x.2.2.1) (h:InR x.2.2.2):q19.rd w [.bool x.1,.int .i64 x.2.1.1,.slice a b c,.slice d e f,.int .i64 x.2.2.2] x:=
 ⟨[.bool x.1], [.int .i64 x.2.1.1,.slice a b c,.slice d e f,.int .i64 x.2.2.2],rfl,⟨_,rfl,rfl⟩,⟨[.int .i64 x.2.1.1,.slice a b c], [.slice d e f,.int .i64 x.2.2.2],rfl,⟨[.int .i64 x.2.1.1], [.slice a b c],rfl,⟨_,rfl,rfl,g.1,g.2⟩,⟨_,_,_,rfl,i⟩⟩,⟨[.slice d e f], [.int .i64 x.2.2.2],rfl,⟨_,_,_,rfl,j⟩,⟨_,rfl,rfl,h.1,h.2⟩⟩⟩⟩
theorem qky (cs:List Value) (x:LabM) (left:Int) (w:World) (h:q19.rd w cs x) (H:0<=left) (N:left<=1048576):
  Calls Tryz.prog 11 #[.agg cs.toArray,.int .i64 left] w (Bl w (.int .i64 (szR (q19.cnt x) left))):=by
 obtain⟨c,f,d,i,n,k,rfl,g,a,b,u⟩:=q3j h;obtain⟨O,B,G,K,o⟩:=q16 w #[.bool x.1,.int .i64 x.2.1.1,.slice c f d,.slice i n k,.int .i64 x.2.2.2] 42;have t:=a.le;have D:=b.le;have v:Hid (szR 0 left=left):=q5u H;have q:Hid (q19.cnt x=(0+((qf.cnt x.2.1)+((x.2.2.1.length+cntS qj.cnt x.2.2.1)+0)))):=rfl;replace a:=a.next G;replace b:=b.next G
 go_enter Tryz.func11,Tryz.ntmps11
 have C:=o.cell 1;clear C;have r:=o.cell 1;have s:=o.cell 2;simp at r s;rw[B]at r s;go_wp2_with fail;rw[<-B];refine(qcu [.int .i64 x.2.1.1,.slice c f d] x.2.1 left _ (q2o g a) (by omega) (by omega)).mono ?_;rintro e P ⟨rfl,l⟩;have I:=q9 G l rfl;replace o:=o.next l;replace a:=a.next l;replace b:=b.next l;clear r s;have j:Hid (szR (0+(qf.cnt x.2.1)) left=szR (qf.cnt x.2.1) left):=by show _=_;rw[<-q3c (by rw[v.out];omega),v.out]
 have z:=q4k (qf.cnt x.2.1) (left:=left) (by omega);obtain⟨y,E⟩:∃L,Hid (szR (qf.cnt x.2.1) left=L):=⟨_,rfl⟩;rw[E.out]at j z⊢
 by_cases z0:y<0
 .go_wp2_with fail
  go_ret;exact⟨q11 (q6h (by rw[j.out];omega) (by rw[q.out];omega) H),I⟩
 have C:=o.cell 3;simp at C;go_wp2_with fail;refine(qga _ _ _ _ y _ b (by omega) (by omega)).mono ?_;rintro e Q ⟨rfl,m⟩;have J:=q9 I m rfl;replace o:=o.next m;replace a:=a.next m;replace b:=b.next m;clear C;have p:Hid (szR ((0+(qf.cnt x.2.1))+(x.2.2.1.length+cntS qj.cnt x.2.2.1)) left=szR (x.2.2.1.length+cntS qj.cnt x.2.2.1) y):=by show _=_;rw[<-q3c (by rw[j.out];omega),j.out]
 have A:=q4k (x.2.2.1.length+cntS qj.cnt x.2.2.1) (left:=y) (by omega);obtain⟨M,F⟩:∃L,Hid (szR (x.2.2.1.length+cntS qj.cnt x.2.2.1) y=L):=⟨_,rfl⟩;rw[F.out]at p A⊢
 by_cases z1:M<0
 .go_wp2_with fail
  go_ret;exact⟨q11 (q6h (by rw[p.out];omega) (by rw[q.out];omega) H),J⟩
 go_wp2_with fail;go_ret;exact⟨q11 (by simp only[q.out,<-p.out];first|done|(congr 1;omega)),J⟩
theorem q55 (cs:List Value) (x:LabM) (w:World) (h:q19.rd w cs x) (hn:q19.cnt x<=1048576):
  Calls Tryz.prog 14 #[.agg cs.toArray] w (ToE q19 w x):=by
 obtain⟨o,s,r,A,D,C,rfl,I,y,J,z⟩:=q3j h;have hcn:(0+((qf.cnt x.2.1)+((x.2.2.1.length+cntS qj.cnt x.2.2.1)+0)))<=1048576:=hn;obtain⟨w0,hw0,T0,hsz0,E,B,t⟩:=q7k w #[.bool x.1,.int .i64 x.2.1.1,.slice o s r,.slice A D C,.int .i64 x.2.2.2] #[.bool false,.int .i64 0,.slice none 0 0,.slice none 0 0,.int .i64 0] #[.bool x.1,.int .i64 0,.slice none 0 0,.slice none 0 0,.int .i64 0] 42 27;have ad:=y.len;have eFacts:=J.len
 go_enter Tryz.func14,Tryz.ntmps14
 go_wp2_with fail;rw[<-hw0];refine(qcy [.int .i64 x.2.1.1,.slice o s r] x.2.1 _ (q2o I (y.next T0)) (by omega)).mono ?_;rintro e w1 ⟨csBase,q,rfl,n,l,K⟩;obtain⟨c,f,d,rfl,-,-⟩:=qv (qf.ord n);have hz1:=K.size;have T1:=q9 T0 K rfl;replace E:=E.next K;replace B:=B.next K;replace t:=t.next K;clear K;have R:=E.cell 0;have S:=E.cell 1;have T:=E.cell 2;have U:=E.cell 3;have V:=E.cell 4;have M:=t.cell 0;have Y:=t.frozen 0;have N:=t.cell 1;have Z:=t.frozen 1;have O:=t.cell 2;have aa:=t.frozen 2;have P:=t.cell 3;have ab:=t.frozen 3;have Q:=t.cell 4;have ac:=t.frozen 4;simp at R M S N T O U P V Q;go_wp2_with fail;clear R M Y S N Z T O aa U P ab V Q ac;obtain⟨w2,H⟩:∃wb,wb=((w1.setCell ⟨w.heap.size+1+1,1,none⟩ (.int .i64 x.2.1.1)).setCell ⟨w.heap.size+1+1,2,none⟩ (.slice c f d)):=⟨_,rfl⟩;have L:Blk w2 (w.heap.size+1+1) 27 #[.bool x.1,.int .i64 x.2.1.1,.slice c f d,.slice none 0 0,.int .i64 0]:=by rw[H];simpa using((t.set_ 1 (.int .i64 x.2.1.1)).set_ 2 (.slice c f d))
 replace E:Blk w2 w.heap.size 42 #[.bool x.1,.int .i64 x.2.1.1,.slice o s r,.slice A D C,.int .i64 x.2.2.2]:=by rw[H];exact((E.far (p:=⟨w.heap.size+1+1,1,none⟩) (by simp;try omega) (.int .i64 x.2.1.1)).far (p:=⟨w.heap.size+1+1,2,none⟩) (by simp;try omega) (.slice c f d))
 replace B:Blk w2 (w.heap.size+1) 27 #[.bool false,.int .i64 0,.slice none 0 0,.slice none 0 0,.int .i64 0]:=by rw[H];exact((B.far (p:=⟨w.heap.size+1+1,1,none⟩) (by simp;try omega) (.int .i64 x.2.1.1)).far (p:=⟨w.heap.size+1+1,2,none⟩) (by simp;try omega) (.slice c f d))
 replace t:=L;clear L;have T2:Below w.heap.size w w2:=by rw[H];exact((T1.setCell (by simp;try omega) (.int .i64 x.2.1.1)).setCell (by simp;try omega) (.slice c f d))
 have hz2:w2.heap.size=w1.heap.size:=by rw[H];simp
 replace n:qf.own w2 [.int .i64 x.2.1.1,.slice c f d] x.2.1 q:=by rw[H];exact Sh.oset (p:=⟨w.heap.size+1+1,2,none⟩) (Sh.oset (p:=⟨w.heap.size+1+1,1,none⟩) (n) l (by show w.heap.size+1+1<_;omega) (.int .i64 x.2.1.1)) l (by show w.heap.size+1+1<_;omega) (.slice c f d)
 rw[<-H];refine(qgc _ _ _ _ _ (J.next T2) (by omega)).mono ?_;rintro e w3 ⟨X,m,rfl,u,k,G⟩;obtain⟨g,j,i,hv,-⟩:=(Sh.rows qj 57).ord u;obtain rfl:X=.slice g j i:=by simpa using hv
 clear hv;have hz3:=G.size;have T3:=q9 T2 G rfl;replace E:=E.next G;replace B:=B.next G;replace t:=t.next G;replace n:=Sh.onext n G;clear G;have cR0:=B.cell 0;have fR0:=B.frozen 0;have cR1:=B.cell 1;have fR1:=B.frozen 1;have cR2:=B.cell 2;have fR2:=B.frozen 2;have cR3:=B.cell 3;have fR3:=B.frozen 3;have cR4:=B.cell 4;have fR4:=B.frozen 4;simp at cR0 cR1 cR2 cR3 cR4;have R:=E.cell 0;have S:=E.cell 1;have T:=E.cell 2;have U:=E.cell 3;have V:=E.cell 4;have M:=t.cell 0;have Y:=t.frozen 0;have N:=t.cell 1;have Z:=t.frozen 1;have O:=t.cell 2;have aa:=t.frozen 2;have P:=t.cell 3;have ab:=t.frozen 3;have Q:=t.cell 4;have ac:=t.frozen 4;simp at R M S N T O U P V Q;go_wp2_with fail;clear R M Y S N Z T O aa U P ab V Q ac;clear cR0 fR0 cR1 fR1 cR2 fR2 cR3 fR3 cR4 fR4;obtain⟨W,F⟩:∃wb,wb=((w3.setCell ⟨w.heap.size+1+1,3,none⟩ (.slice g j i)).setCell ⟨w.heap.size+1+1,4,none⟩ (.int .i64 x.2.2.2)):=⟨_,rfl⟩;have L:Blk W (w.heap.size+1+1) 27 #[.bool x.1,.int .i64 x.2.1.1,.slice c f d,.slice g j i,.int .i64 x.2.2.2]:=by rw[F];simpa using((t.set_ 3 (.slice g j i)).set_ 4 (.int .i64 x.2.2.2))
 replace E:Blk W w.heap.size 42 #[.bool x.1,.int .i64 x.2.1.1,.slice o s r,.slice A D C,.int .i64 x.2.2.2]:=by rw[F];exact((E.far (p:=⟨w.heap.size+1+1,3,none⟩) (by simp;try omega) (.slice g j i)).far (p:=⟨w.heap.size+1+1,4,none⟩) (by simp;try omega) (.int .i64 x.2.2.2))
 replace B:Blk W (w.heap.size+1) 27 #[.bool false,.int .i64 0,.slice none 0 0,.slice none 0 0,.int .i64 0]:=by rw[F];exact((B.far (p:=⟨w.heap.size+1+1,3,none⟩) (by simp;try omega) (.slice g j i)).far (p:=⟨w.heap.size+1+1,4,none⟩) (by simp;try omega) (.int .i64 x.2.2.2))
 replace t:=L;clear L;have T4:Below w.heap.size w W:=by rw[F];exact((T3.setCell (by simp;try omega) (.slice g j i)).setCell (by simp;try omega) (.int .i64 x.2.2.2))
 have hz4:W.heap.size=w3.heap.size:=by rw[F];simp
 replace n:qf.own W [.int .i64 x.2.1.1,.slice c f d] x.2.1 q:=by rw[F];exact Sh.oset (p:=⟨w.heap.size+1+1,4,none⟩) (Sh.oset (p:=⟨w.heap.size+1+1,3,none⟩) (n) l (by show w.heap.size+1+1<_;omega) (.slice g j i)) l (by show w.heap.size+1+1<_;omega) (.int .i64 x.2.2.2)
 replace u:(Sh.rows qj 57).own W [.slice g j i] x.2.2.1 m:=by rw[F];exact Sh.oset (p:=⟨w.heap.size+1+1,4,none⟩) (Sh.oset (p:=⟨w.heap.size+1+1,3,none⟩) (u) k (by show w.heap.size+1+1<_;omega) (.slice g j i)) k (by show w.heap.size+1+1<_;omega) (.int .i64 x.2.2.2)
 rw[<-F];have BRR:Blk (((((W.setCell ⟨w.heap.size+1,0,none⟩ (.bool x.1)).setCell ⟨w.heap.size+1,1,none⟩ (.int .i64 x.2.1.1)).setCell ⟨w.heap.size+1,2,none⟩ (.slice c f d)).setCell ⟨w.heap.size+1,3,none⟩ (.slice g j i)).setCell ⟨w.heap.size+1,4,none⟩ (.int .i64 x.2.2.2)) (w.heap.size+1) 27 #[.bool x.1,.int .i64 x.2.1.1,.slice c f d,.slice g j i,.int .i64 x.2.2.2]:=by simpa using(((((B).set_ 0 (.bool x.1)).set_ 1 (.int .i64 x.2.1.1)).set_ 2 (.slice c f d)).set_ 3 (.slice g j i)).set_ 4 (.int .i64 x.2.2.2)
 (try simp only[Exit.inBlock,Exit.then])
 refine zas (v:=.agg #[.bool x.1,.int .i64 x.2.1.1,.slice c f d,.slice g j i,.int .i64 x.2.2.2]) (zb3 rfl _ _ (w.heap.size+1) 27 #[.bool x.1,.int .i64 x.2.1.1,.slice c f d,.slice g j i,.int .i64 x.2.2.2] (0,0) _ (by simp) BRR zbk rfl (by kernel_rfl)) rfl ?_;have hsz:(((((W.setCell ⟨w.heap.size+1,0,none⟩ (.bool x.1)).setCell ⟨w.heap.size+1,1,none⟩ (.int .i64 x.2.1.1)).setCell ⟨w.heap.size+1,2,none⟩ (.slice c f d)).setCell ⟨w.heap.size+1,3,none⟩ (.slice g j i)).setCell ⟨w.heap.size+1,4,none⟩ (.int .i64 x.2.2.2)).heap.size=W.heap.size:=by simp
 refine⟨_,(q++m),rfl,⟨[.bool x.1], [.int .i64 x.2.1.1,.slice c f d,.slice g j i,.int .i64 x.2.2.2], [],(q++m),rfl,rfl,⟨_,rfl,rfl,rfl⟩,⟨[.int .i64 x.2.1.1,.slice c f d], [.slice g j i,.int .i64 x.2.2.2],q,m,rfl,rfl,(Sh.oset (p:=⟨w.heap.size+1,4,none⟩) (Sh.oset (p:=⟨w.heap.size+1,3,none⟩) (Sh.oset (p:=⟨w.heap.size+1,2,none⟩) (Sh.oset (p:=⟨w.heap.size+1,1,none⟩) (Sh.oset (p:=⟨w.heap.size+1,0,none⟩) (n) l (by show w.heap.size+1<_;omega) (.bool x.1)) l (by show w.heap.size+1<_;omega) (.int .i64 x.2.1.1)) l (by show w.heap.size+1<_;omega) (.slice c f d)) l (by show w.heap.size+1<_;omega) (.slice g j i)) l (by show w.heap.size+1<_;omega) (.int .i64 x.2.2.2)),⟨[.slice g j i], [.int .i64 x.2.2.2],m, [],rfl,(zc3 _).symm,(Sh.oset (p:=⟨w.heap.size+1,4,none⟩) (Sh.oset (p:=⟨w.heap.size+1,3,none⟩) (Sh.oset (p:=⟨w.heap.size+1,2,none⟩) (Sh.oset (p:=⟨w.heap.size+1,1,none⟩) (Sh.oset (p:=⟨w.heap.size+1,0,none⟩) (u) k (by show w.heap.size+1<_;omega) (.bool x.1)) k (by show w.heap.size+1<_;omega) (.int .i64 x.2.1.1)) k (by show w.heap.size+1<_;omega) (.slice c f d)) k (by show w.heap.size+1<_;omega) (.slice g j i)) k (by show w.heap.size+1<_;omega) (.int .i64 x.2.2.2)),⟨_,rfl,⟨rfl,z.1,z.2⟩,rfl⟩⟩⟩⟩,?_,(((((T4).setCell (by simp;try omega) (.bool x.1)).setCell (by simp;try omega) (.int .i64 x.2.1.1)).setCell (by simp;try omega) (.slice c f d)).setCell (by simp;try omega) (.slice g j i)).setCell (by simp;try omega) (.int .i64 x.2.2.2)⟩;rw[hsz];exact Iv.mono (Iv.app (lo:=w.heap.size) (hi:=W.heap.size) (a:=q) (b:=m) (Iv.mono l (by omega) (zad _)) (Iv.mono k (zad _) (by omega)) (by omega) (by omega) (by omega)) (by omega) (by omega)
theorem qov (x y:LabM):eqC x y=(eqC (x.1) (y.1) &&(eqC (x.2.1) (y.2.1) &&(eqC (x.2.2.1) (y.2.2.1) &&eqC (x.2.2.2) (y.2.2.2)))):=by
 obtain⟨a,b,c,d⟩:=x;obtain⟨e,f,g,h⟩:=y;simp only[q6o]
theorem q7p (cs X:List Value) (x y:LabM) (w:World) (h:q19.rd w cs x) (Z:q19.rd w X y):
  Calls Tryz.prog 17 #[.agg cs.toArray,.agg X.toArray] w (Bl w (.bool (eqC x y))):=by
 obtain⟨j,l,k,I,M,J,rfl,n,b,d,S⟩:=q3j h;obtain⟨f,i,g,F,H,G,rfl,m,a,c,R⟩:=q3j Z;obtain⟨w0,q,N,Y,s,t⟩:=q1p w #[.bool x.1,.int .i64 x.2.1.1,.slice j l k,.slice I M J,.int .i64 x.2.2.2] #[.bool y.1,.int .i64 y.2.1.1,.slice f i g,.slice F H G,.int .i64 y.2.2.2] 27 27;replace b:=b.next N;replace a:=a.next N;replace d:=d.next N;replace c:=c.next N;have T:=zaa (qov x y)
 go_enter Tryz.func17,Tryz.ntmps17
 rcases hd0:eqC (x.1) (y.1)with _|_
 .have ht:(x.1==y.1)=false:=qgk hd0
  have u:=zaa hd0;clear hd0;have z:=s.cell 0;have C:=t.cell 0;simp at z C;rw[q]at z C;go_wp2_with fail;go_ret;exact⟨qg (by rw[T.out,u.out];first|rfl|simp),by first|exact N|(rw[<-q];exact N)⟩
 have W:(x.1==y.1)=true:=qgk hd0;have u:=zaa hd0;clear hd0;have z:=s.cell 0;have C:=t.cell 0;simp at z C;rw[q]at z C
 rcases hd1:eqC (x.2.1) (y.2.1)with _|_
 .have r:=zaa hd1
  clear hd1;have A:=s.cell 1;have D:=t.cell 1;have B:=s.cell 2;have E:=t.cell 2;simp at A D B E;rw[q]at A D B E;go_wp2_with fail;rw[<-q];refine(q7o [.int .i64 x.2.1.1,.slice j l k] [.int .i64 y.2.1.1,.slice f i g] x.2.1 y.2.1 _ (q2o n b) (q2o m a)).mono ?_;rintro e w1 ⟨rfl,o⟩;rw[r.out];have V:=q9 N o rfl;go_wp2_with fail;go_ret;exact⟨qg (by rw[T.out,u.out,r.out];first|rfl|simp),V⟩
 have r:=zaa hd1;clear hd1;have A:=s.cell 1;have D:=t.cell 1;have B:=s.cell 2;have E:=t.cell 2;simp at A D B E;rw[q]at A D B E;go_wp2_with fail;rw[<-q];refine(q7o [.int .i64 x.2.1.1,.slice j l k] [.int .i64 y.2.1.1,.slice f i g] x.2.1 y.2.1 _ (q2o n b) (q2o m a)).mono ?_;rintro e w1 ⟨rfl,o⟩;rw[r.out];have V:=q9 N o rfl;clear A D B E z C W;replace s:=s.next o;replace t:=t.next o;replace b:=b.next o;replace a:=a.next o;replace d:=d.next o;replace c:=c.next o
 rcases hd2:eqC (x.2.2.1) (y.2.2.1)with _|_
 .have v:=zaa hd2
  clear hd2;have K:=s.cell 3;have L:=t.cell 3;simp at K L;go_wp2_with fail;refine(q9m _ _ _ _ _ _ _ _ _ d c).mono ?_;rintro e w2 ⟨rfl,p⟩;rw[v.out];have U:=q9 V p rfl;go_wp2_with fail;go_ret;exact⟨qg (by rw[T.out,u.out,r.out,v.out];first|rfl|simp),U⟩
 have v:=zaa hd2;clear hd2;have K:=s.cell 3;have L:=t.cell 3;simp at K L;go_wp2_with fail;refine(q9m _ _ _ _ _ _ _ _ _ d c).mono ?_;rintro e w2 ⟨rfl,p⟩;rw[v.out];have U:=q9 V p rfl;clear K L;replace s:=s.next p;replace t:=t.next p;replace b:=b.next p;replace a:=a.next p;replace d:=d.next p;replace c:=c.next p
 rcases hd3:eqC (x.2.2.2) (y.2.2.2)with _|_
 .have ht:(x.2.2.2 !=y.2.2.2)=true:=q33 hd3
  have O:=zaa hd3;clear hd3;have P:=s.cell 4;have Q:=t.cell 4;simp at P Q;go_wp2_with fail;go_ret;exact⟨qg (by rw[T.out,u.out,r.out,v.out,O.out];first|rfl|simp),by first|exact U|(rw[<-q];exact U)⟩
 have ht3:(x.2.2.2 !=y.2.2.2)=false:=q33 hd3;have O:=zaa hd3;clear hd3;have P:=s.cell 4;have Q:=t.cell 4;simp at P Q;go_wp2_with fail;go_ret;exact⟨qg (by rw[T.out,u.out,r.out,v.out,O.out];first|rfl|simp),U⟩
noncomputable def q63 (f:q12):List q12->Int->Int
 | [],_=> -1
 |g::l,k=>if eqC f g then k else q63 f l (k+1)
noncomputable def posF (xs:List q12) (f:q12):Int:=q63 f xs 0
def PfAt (xs:List q12) (f:q12) (k:Nat):Prop:=q63 f (xs.drop k) k=posF xs f
theorem PfAt.step {xs:List q12} {f g:q12} {k:Nat} (h:PfAt xs f k) (hd:xs.drop k=g::xs.drop (k+1)) (a:eqC f g=false):PfAt xs f (k+1):=by
 unfold PfAt at*;rw[<-h,hd,q63,zaj (by rw[a];decide)];rfl
theorem PfAt.stop {xs:List q12} {f g:q12} {k:Nat} (h:PfAt xs f k) (hd:xs.drop k=g::xs.drop (k+1)) (a:eqC f g=true):(k:Int)=posF xs f:=by
 unfold PfAt at*;rw[<-h,hd,q63,zao a]
theorem PfAt.done {xs:List q12} {f:q12} {k:Nat} (h:PfAt xs f k) (hd:xs.drop k= []): -1=posF xs f:=by
 unfold PfAt at*;rw[<-h,hd];rfl
theorem qlp {α:Type} (a b:α):eqC a b=eqC b a:=by
 rw[zcd];unfold eqC;simp only[zbt];exact⟨Eq.symm,Eq.symm⟩
theorem q5e (A:Option Addr) (n c:Nat) (ds:List Value) (xs:List q12) (f:q12) (w:World) (h:RdN qj.m qj.rd w A n xs) (I:qj.rd w ds f):
  Calls Tryz.prog 76 #[.slice A n c,.agg ds.toArray] w (Bl w (.int .i64 (posF xs f))):=by
 have d:=I;obtain⟨N,nL,X,O,nR,Y,P,nV,Z,rfl,-,-,-,-⟩:=q1u I;have hle:=h.le;obtain⟨x,t,v,r,BP⟩:=q16 w #[.int .i64 f.1,.slice N nL X,.slice O nR Y,.slice P nV Z] 57;have C:=zaa t;replace h:=h.next v;have HF:Hid (∀M,Below x.heap.size x M->qj.rd M [.int .i64 f.1,.slice N nL X,.slice O nR Y,.slice P nV Z] f):=fun M hz=>qj.stab (qj.stab d v.block) hz.block
 obtain⟨E,F,G,H⟩:=cl4 BP;clear t r d I
 go_enter Tryz.func76,Tryz.ntmps76
 go_upto_region 1 with fail;rw[<-C.out];go_wp2_with fail
 go_loopw [9] (fun i wr=>∃k:Nat,k<=n/\i=.int .i64 k/\Hid (PfAt xs f k)/\Below x.heap.size x wr) (fun i _=>n - (intOf i).toNat)
 case atStart=>exact⟨0,zah _,rfl,rfl,zab _ _⟩
 case round=>
  obtain⟨k,hk,rfl,y,l⟩:=hrel
  by_cases hlt:k<n
  .have hk0:(0:Int)<=(k:Int):=by omega
   have K:(k:Int)<(n:Int):=by omega
   obtain⟨b,o,vs,g,rfl,-,p,L,hd,-⟩:=(h.next l).at hlt;have q:=L;obtain⟨Q,mL,eL,R,mR,eR,S,mV,eV,rfl,-,-,-,-⟩:=q1u L;have cc0:wr.cell? ⟨b,o+k*4,none⟩=some (.int .i64 g.1):=p 0 _ rfl;have cc1:wr.cell? ⟨b,o+k*4+1,none⟩=some (.slice Q mL eL):=p 1 _ rfl;have cc2:wr.cell? ⟨b,o+k*4+2,none⟩=some (.slice R mR eR):=p 2 _ rfl;have cc3:wr.cell? ⟨b,o+k*4+3,none⟩=some (.slice S mV eV):=p 3 _ rfl;have T:=zaa hd;obtain⟨w1,u,V,s,BX⟩:=q16 wr #[.int .i64 g.1,.slice Q mL eL,.slice R mR eR,.slice S mV eV] 57;have D:=zaa u;have a:=q9 l V rfl;have U:=zaa (q8y _ _ f g w1 (HF.out _ a) (qj.stab q V.block));obtain⟨bb,j⟩:∃z,Hid (eqC f g=z):=⟨_,rfl⟩;rw[j.out]at U;have kP0:=qe a E;have kP1:=qe a F;have kP2:=qe a G;have kP3:=qe a H;obtain⟨cX0,cX1,cX2,cX3⟩:=cl4 BX;clear p L q hd u s;go_upto_region 4 with fail;rw[<-D.out];go_wp2_with fail;refine U.out.mono ?_;rintro e w2 ⟨rfl,J⟩;have W:=q9 a J rfl
   rcases bb with _|_
   .have B:=zaa (y.out.step T.out j.out)
    go_wp2_with fail
    go_roundw
    case rel=>exact⟨k+1,by omega,by go_num,B,W⟩
    case measure=>simp[intOf];try omega
   .go_wp2_with fail
    go_ret;exact⟨q11 (y.out.stop T.out j.out),q9 v W rfl⟩
  .have K:¬(k:Int)<(n:Int):=by omega
   have HE:Hid (xs.drop k= []):=zbe (by rw[h.len];omega);go_wp2_with fail;go_ret;exact⟨q11 (y.out.done HE.out),q9 v l rfl⟩
theorem qb9 (cs F:List Value) (x y:q1a) (w:World) (h:qu.rd w cs x) (M:qu.rd w F y):Calls Tryz.prog 169 #[.agg cs.toArray,.agg F.toArray] w (Bl w (.bool (eqC x y))):=by
 obtain⟨q,s,r,j,n,l,rfl,g,p⟩:=q1i h;obtain⟨k,o,m,b,f,c,rfl,a,i⟩:=q1i M;obtain⟨O,z,t,G,H,I⟩:=q1p w #[.slice q s r,.slice j n l] #[.slice k o m,.slice b f c] 55 55;have E:=zaa (q7a x y)
 rcases h1:eqC x.1 y.1 with _|_
 .have u:=zaa h1
  clear h1
  go_enter Tryz.func169,Tryz.ntmps169
  go_wp2_with fail;rw[<-z];refine(q1m (q3z _ _ _ _ _ _ _ _ _ (g.next qd t) (a.next qd t))).mono ?_;rintro e N ⟨rfl,d⟩;rw[q2l,u.out];have v:=q9 t d rfl;go_wp2_with fail;go_ret;exact⟨qg (by rw[E.out,u.out];rfl),v⟩
 .rcases h2:eqC x.2 y.2 with _|_
  all_goals
   have u:=zaa h1;have D:=zaa h2;clear h2
   go_enter Tryz.func169,Tryz.ntmps169
   go_wp2_with fail;rw[<-z];refine(q1m (q3z _ _ _ _ _ _ _ _ _ (g.next qd t) (a.next qd t))).mono ?_;rintro e N ⟨rfl,d⟩;rw[q2l,u.out];have v:=q9 t d rfl;have A:=H.next d;have B:=I.next d;have K:=A.cell 1;have L:=B.cell 1;simp at K L;go_wp2_with fail;refine(q1m (q3z _ _ _ _ _ _ _ _ _ (p.next qd v) (i.next qd v))).mono ?_;rintro e P ⟨rfl,C⟩;rw[q2l,D.out];have J:=q9 v C rfl;go_wp2_with fail;go_ret;exact⟨qg (by rw[E.out,u.out,D.out];rfl),J⟩
theorem qfi (cs R:List Value) (x y:q12) (w:World) (h:qj.rd w cs x) (Z:qj.rd w R y):Calls Tryz.prog 108 #[.agg cs.toArray,.agg R.toArray] w (Bl w (.bool (eqC x y))):=by
 obtain⟨p,r,d,j,l,b,A,E,C,rfl,P,s,n,F⟩:=q1u h;obtain⟨k,m,c,f,g,a,t,v,u,rfl,K,o,i,z⟩:=q1u Z;obtain⟨w0,D,B,S,U,V⟩:=q1p w #[.int .i64 x.1,.slice p r d,.slice j l b,.slice A E C] #[.int .i64 y.1,.slice k m c,.slice f g a,.slice t v u] 57 57;have N:=zaa (qf4 x y);have T:=q22 (x:=x.2.1) (cLeft:=d) (cRight:=b) (s.next qd B) (n.next qd B);have I:=q22 (x:=y.2.1) (cLeft:=c) (cRight:=a) (o.next qd B) (i.next qd B)
 rcases h0:eqC x.1 y.1 with _|_
 .have J:=zaa h0
  have ht:(x.1==y.1)=false:=by rw[<-h0,q87];rfl
  clear h0
  go_enter Tryz.func108,Tryz.ntmps108
  go_wp2_with fail;go_ret;exact⟨qg (by rw[N.out,J.out];rfl),by rw[<-D];exact B⟩
 .have J:=zaa h0
  have ht:(x.1==y.1)=true:=by rw[<-h0,q87];rfl
  clear h0
  rcases h1:eqC x.2.1 y.2.1 with _|_
  .have G:=zaa h1
   clear h1
   go_enter Tryz.func108,Tryz.ntmps108
   go_wp2_with fail;rw[<-D];refine(qb9 _ _ _ _ _ T I).mono ?_;rintro e w1 ⟨rfl,q⟩;rw[G.out];have H:=q9 B q rfl;go_wp2_with fail;go_ret;exact⟨qg (by rw[N.out,J.out,G.out];rfl),H⟩
  .rcases h2:eqC x.2.2 y.2.2 with _|_
   all_goals
    have G:=zaa h1;have Q:=zaa h2;clear h2
    go_enter Tryz.func108,Tryz.ntmps108
    go_wp2_with fail;rw[<-D];refine(qb9 _ _ _ _ _ T I).mono ?_;rintro e w1 ⟨rfl,q⟩;rw[G.out];have H:=q9 B q rfl;have L:=U.next q;have M:=V.next q;have X:=L.cell 3;have Y:=M.cell 3;simp at X Y;go_wp2_with fail;refine(q1m (q3z _ _ _ _ _ _ _ _ _ (F.next qd H) (z.next qd H))).mono ?_;rintro e w2 ⟨rfl,O⟩;rw[q2l,Q.out];have W:=q9 H O rfl;go_wp2_with fail;go_ret;exact⟨qg (by rw[N.out,J.out,G.out,Q.out];rfl),W⟩
theorem q7c (A:Option Addr) (n c:Nat) (Z:List Value) (xs:List q12) (f:q12) (w:World) (h:RdN qj.m qj.rd w A n xs) (O:qj.rd w Z f):
  Calls Tryz.prog 59 #[.slice A n c,.agg Z.toArray] w (Bl w (.int .i64 (posF xs f))):=by
 have e:=O;obtain⟨y,S,H,B,T,M,C,U,N,rfl,-,-,-,-⟩:=q1u O;have hle:=h.le;obtain⟨x,t,u,s,BP⟩:=q16 w #[.int .i64 f.1,.slice y S H,.slice B T M,.slice C U N] 57;have F:=zaa t;replace h:=h.next u;have HF:Hid (∀d,Below x.heap.size x d->qj.rd d [.int .i64 f.1,.slice y S H,.slice B T M,.slice C U N] f):=fun d v=>qj.stab (qj.stab e u.block) v.block
 obtain⟨I,J,K,L⟩:=cl4 BP;clear t s e O
 go_enter Tryz.func59,Tryz.ntmps59
 go_upto_region 1 with fail;rw[<-F.out];go_wp2_with fail
 go_loopw [5] (fun i wr=>∃k:Nat,k<=n/\i=.int .i64 k/\Hid (PfAt xs f k)/\Below x.heap.size x wr) (fun i _=>n - (intOf i).toNat)
 case atStart=>exact⟨0,zah _,rfl,rfl,zab _ _⟩
 case round=>
  obtain⟨k,hk,rfl,D,a⟩:=hrel
  by_cases hlt:k<n
  .have hk0:(0:Int)<=(k:Int):=by omega
   have Q:(k:Int)<(n:Int):=by omega
   obtain⟨b,o,vs,g,rfl,-,q,R,hd,-⟩:=(h.next a).at hlt;have r:=R;obtain⟨V,mL,eL,W,mR,eR,X,mV,eV,rfl,-,-,-,-⟩:=q1u R;have cc0:wr.cell? ⟨b,o+k*4,none⟩=some (.int .i64 g.1):=q 0 _ rfl;have cc1:wr.cell? ⟨b,o+k*4+1,none⟩=some (.slice V mL eL):=q 1 _ rfl;have cc2:wr.cell? ⟨b,o+k*4+2,none⟩=some (.slice W mR eR):=q 2 _ rfl;have cc3:wr.cell? ⟨b,o+k*4+3,none⟩=some (.slice X mV eV):=q 3 _ rfl;have Y:=zaa hd;have kP0:=qe a I;have kP1:=qe a J;have kP2:=qe a K;have kP3:=qe a L;obtain⟨G,l⟩:∃z,Hid (eqC g f=z):=⟨_,rfl⟩;have p:Hid (eqC f g=G):=by show _=_;rw[qlp];exact l.out
   have HS:Hid (∀d,Below wr.heap.size wr d->Calls Tryz.prog 108 #[.agg #[.int .i64 g.1,.slice V mL eL,.slice W mR eR,.slice X mV eV],.agg #[.int .i64 f.1,.slice y S H,.slice B T M,.slice C U N]] d (Bl d (.bool G))):=fun d v=>by
    have:=qfi _ _ g f d (qj.stab r v.block) (qj.stab (HF.out wr a) v.block)
    rwa [l.out]at this
   clear q R r hd;have j:Below wr.heap.size wr wr:=zab _ _;go_wp2_with fail
   go_region_law (first
    |(go_simp;go_at_call 108;(with_reducible refine(HS.out _ ?_).mono ?_);(first|exact j|exact qc j _);rintro e2 w2 ⟨rfl,P⟩;replace j:=q9 (by first|exact j|exact qc j _) P rfl))
   all_goals
    rcases G with _|_
    .have E:=zaa (D.out.step Y.out p.out)
     go_wp2_with fail
     go_roundw
     case rel=>exact⟨k+1,by omega,by go_num,E,q9 a j rfl⟩
     case measure=>simp[intOf];try omega
    .go_wp2_with fail
     go_ret;exact⟨q11 (D.out.stop Y.out p.out),q9 u (q9 a j rfl) rfl⟩
  .have Q:¬(k:Int)<(n:Int):=by omega
   have HE:Hid (xs.drop k= []):=zbe (by rw[h.len];omega);go_wp2_with fail;go_ret;exact⟨q11 (D.out.done HE.out),q9 u a rfl⟩
noncomputable def memF (pre:List q12) (f:q12):Bool:=decide (0<=posF pre f)
noncomputable def goFs (x:qi):List q12->List q12->Bool
 |_, []=>true
 |pre,f::r=>q1l x f && !memF pre f &&goFs x (pre++ [f]) r
noncomputable def labB (x:LabM):Bool:=
 decide (0<=x.2.2.2) &&decide (x.2.2.2<=9999) &&(if x.1=true then algB x.2.1 &&decide (x.2.2.1.length<=12) &&goFs x.2.1 [] x.2.2.1 else decide (x.2.1.1=0) &&decide (x.2.1.2.length=0) &&decide (x.2.2.1.length=0))
theorem qfo {x:LabM} (h:x.2.2.2<0):labB x=false:=by unfold labB;rw[zbn (show ¬ 0<=x.2.2.2 by omega)];rfl
theorem qfn {x:LabM} (h:9999<x.2.2.2):labB x=false:=by unfold labB;rw[zbn (show ¬x.2.2.2<=9999 by omega),zd9];rfl
theorem q7x {x:LabM} (a:0<=x.2.2.2) (b:x.2.2.2<=9999) (c:x.1=false):labB x=(decide (x.2.1.1=0) &&decide (x.2.1.2.length=0) &&decide (x.2.2.1.length=0)):=by
 unfold labB;rw[zbm a,zbm b,c];rfl
theorem q7w {x:LabM} (a:0<=x.2.2.2) (b:x.2.2.2<=9999) (c:x.1=true):labB x=(algB x.2.1 &&decide (x.2.2.1.length<=12) &&goFs x.2.1 [] x.2.2.1):=by
 unfold labB;rw[zbm a,zbm b,c];rfl
def FsAt (x:qi) (fs:List q12) (k:Nat):Prop:=goFs x (fs.take k) (fs.drop k)=goFs x [] fs
theorem FsAt.zero (x:qi) (fs:List q12):FsAt x fs 0:=rfl
theorem ql3 {α:Type} {xs:List α} {g:α} {k:Nat} (hd:xs.drop k=g::xs.drop (k+1)):xs.take (k+1)=xs.take k++ [g]:=by
 have a:xs[k]?=some g:=by
  have:=zav (fun l=>l[0]?) hd
  simpa using this
 rw[zbj,a];rfl
theorem FsAt.step {x:qi} {fs:List q12} {k:Nat} {g:q12} (h:FsAt x fs k) (hd:fs.drop k=g::fs.drop (k+1)) (a:q1l x g=true) (b:memF (fs.take k) g=false):FsAt x fs (k+1):=by
 unfold FsAt at*;rw[<-h,hd,goFs,a,b,ql3 hd];rfl
theorem FsAt.stop1 {x:qi} {fs:List q12} {k:Nat} {g:q12} (h:FsAt x fs k) (hd:fs.drop k=g::fs.drop (k+1)) (a:q1l x g=false):false=goFs x [] fs:=by
 unfold FsAt at*;rw[<-h,hd,goFs,a];rfl
theorem FsAt.stop2 {x:qi} {fs:List q12} {k:Nat} {g:q12} (h:FsAt x fs k) (hd:fs.drop k=g::fs.drop (k+1)) (a:memF (fs.take k) g=true):false=goFs x [] fs:=by
 unfold FsAt at*;rw[<-h,hd,goFs,a,Bool.not_true,zd9];rfl
theorem FsAt.done {x:qi} {fs:List q12} {k:Nat} (h:FsAt x fs k) (hd:fs.drop k= []):true=goFs x [] fs:=by
 unfold FsAt at*;rw[<-h,hd];rfl
theorem qg1 (f:q12) (l r:List q12) (k:Int):q63 f (l++r) k=(if q63 f l k= -1 then q63 f r (k+l.length)else q63 f l k)\/k<0:=by
 induction l generalizing k with
 |nil=>exact .inl (by simp[q63])
 | cons g l ih =>
   by_cases hk : k < 0
   . exact .inr hk
   . refine .inl ?_
     rw [List.cons_append, q63, q63]
     by_cases hg : eqC f g = true
     . rw [zao hg, zao hg, zaj (by omega)]
     . rw [zaj hg, zaj hg]
       rcases ih (k + 1) with h | h
       . rw [h, za0]
         congr 2
         omega
       . omega
theorem qmp (f:q12) (l:List q12) (k:Int) (a:0<=k):q63 f l k= -1\/(k<=q63 f l k/\q63 f l k<k+l.length):=by
 induction l generalizing k with
 |nil=>exact .inl rfl
 | cons g l ih =>
   rw [q63, za0]
   by_cases hg : eqC f g = true
   . rw [zao hg]; exact .inr ⟨Int.le_refl _, by omega⟩
   . rw [zaj hg]
     rcases ih (k + 1) (by omega) with h | h
     . exact .inl h
     . exact .inr (by omega)
theorem qmo {fs:List q12} {k:Nat} {g:q12} (hd:fs.drop k=g::fs.drop (k+1)):(posF fs g=(k:Int))↔memF (fs.take k) g=false:=by
 have a:(fs.take k).length=k:=by
  rw[za8];have:(fs.drop k).length≠0:=by rw[hd];simp
  rw[zcq]at this;omega
 have e:fs=fs.take k++g::fs.drop (k+1):=by rw[<-hd,zcw]
 have h:=(qg1 g (fs.take k) (g::fs.drop (k+1)) 0).resolve_right (by omega);rw[<-e]at h;have b:=qmp g (fs.take k) 0 (Int.le_refl _);have c:eqC g g=true:=by rw[q2e]
 rw[q63,zao c,a]at h;rw[a]at b;unfold memF posF;rw[zd5,h]
 by_cases hm:q63 g (fs.take k) 0= -1
 .rw[zao hm];exact⟨fun _=>by omega,fun _=>by omega⟩
 .rw[zaj hm];exact⟨fun _=>by omega,fun _=>by omega⟩
theorem RdN.take {α:Type} {m:Nat} {R:World->List Value->α->Prop} {w:World} {A:Option Addr} {n k:Nat} {xs:List α} (h:RdN m R w A n xs) (b:k<=n):RdN m R w A k (xs.take k):=
 ⟨by rw[za8,h.1];omega,zbb b h.2.1,fun i x a=>h.2.2 i x (by
  rw[zdx]at a
  split at a
  .exact a
  .exact absurd a (by simp))⟩
theorem qc4 (ae:∀(cs ds:List Value) (x:qi) (f:q12) (w:World),qf.rd w cs x->qj.rd w ds f->algB x=true->Calls Tryz.prog 75 #[.agg cs.toArray,.agg ds.toArray] w (Bl w (.bool (q1l x f)))) (cs:List Value) (x:LabM) (w:World) (h:q19.rd w cs x) (O:∀F n c,cs[3]?=some (.slice F n c)->n<=c):
  Calls Tryz.prog 41 #[.agg cs.toArray] w (Bl w (.bool (labB x))):=by
 obtain⟨P,⟨z,l⟩,q,r⟩:=x;obtain⟨B,k,d,F,n,c,rfl,qz,qB,qF,qr⟩:=q3j h;have hcn:n<=c:=O F n c rfl;clear O;have qA:qf.rd w [.int .i64 z,.slice B k d] (z,l):=q2o (x:=(z,l)) qz qB;have HLK:Hid (l.length=k):=qB.len;have T:Hid (q.length=n):=qF.len;have hlk:=qB.le;have hln:=qF.le;have hr0: -9223372036854775808<=r:=qr.1;have hr1:r<=9223372036854775807:=qr.2;show Calls Tryz.prog 41 #[.agg #[.bool P,.int .i64 z,.slice B k d,.slice F n c,.int .i64 r]] w (Bl w (.bool (labB (P,(z,l),q,r))))
 obtain⟨w0,hw0,I,hsz0,BP⟩:=q16 w #[.bool P,.int .i64 z,.slice B k d,.slice F n c,.int .i64 r] 27;have HW0:=zaa hw0;have H1:Hid (∀t,Below w0.heap.size w0 t->qf.rd t [.int .i64 z,.slice B k d] (z,l)):=fun t J=>qf.stab (qf.stab qA I.block) J.block
 have HIF:=zaa ae;have af:=zaa (qF.next I);obtain⟨cP0,ag,ah,ai,cP4⟩:=cl5 BP;clear hw0 hsz0 qz qB qF qr qA h ae
 go_enter Tryz.func41,Tryz.ntmps41
 go_upto_region 1 with fail;rw[<-HW0.out]
 by_cases hlo:r<0
 .have R:Hid (false=labB (P,(z,l),q,r)):=(qfo (x:=(P,(z,l),q,r)) hlo).symm
  go_wp2_with fail;go_ret;exact⟨qg R.out,I⟩
 by_cases hhi:9999<r
 .have R:Hid (false=labB (P,(z,l),q,r)):=(qfn (x:=(P,(z,l),q,r)) hhi).symm
  go_wp2_with fail;go_ret;exact⟨qg R.out,I⟩
 rcases P with _|_
 .have R:Hid (labB (false,(z,l),q,r)=(decide (z=0) &&decide (k=0) &&decide (n=0))):=by
   show _=_
   rw[<-HLK.out,<-T.out];exact q7x (x:=(false,(z,l),q,r)) (by show 0<=r;omega) (by show r<=9999;omega) rfl
  obtain⟨b1,aa⟩:∃b,Hid (decide (z=0)=b):=⟨_,rfl⟩;obtain⟨b2,ac⟩:∃b,Hid (decide (k=0)=b):=⟨_,rfl⟩;obtain⟨b3,ad⟩:∃b,Hid (decide (n=0)=b):=⟨_,rfl⟩;have e1:(z==0)=b1:=by rw[<-aa.out,zcd,zdp,zbt]
  have e2:((k:Int)==0)=b2:=q4p ac.out;have e3:((n:Int)==0)=b3:=q4p ad.out;have m:Hid ((b1 &&b2 &&b3)=labB (false,(z,l),q,r)):=by show _=_;rw[R.out,aa.out,ac.out,ad.out]
  rcases b1 with _|_<;>rcases b2 with _|_<;>rcases b3 with _|_
  all_goals
   go_wp2_with fail;go_ret;exact⟨qg m.out,I⟩
 .have R:Hid (labB (true,(z,l),q,r)=(algB (z,l) &&decide (n<=12) &&goFs (z,l) [] q)):=by
   show _=_
   rw[<-T.out];exact q7w (x:=(true,(z,l),q,r)) (by show 0<=r;omega) (by show r<=9999;omega) rfl
  have HA:=zaa (q5h _ (z,l) w0 (H1.out _ (zab _ _)));obtain⟨ab,Q⟩:∃b,Hid (algB (z,l)=b):=⟨_,rfl⟩;rw[Q.out]at HA;have S:Hid ((ab &&decide (n<=12) &&goFs (z,l) [] q)=labB (true,(z,l),q,r)):=by show _=_;rw[R.out,Q.out]
  go_wp2_with fail;refine HA.out.mono ?_;rintro e w1 ⟨rfl,v⟩;have kP0:=qe v cP0;have kP1:=qe v ag;have kP2:=qe v ah;have kP3:=qe v ai;have T1:=q9 I v rfl
  rcases ab with _|_
  .go_wp2_with fail
   go_ret;exact⟨qg S.out,T1⟩
  by_cases h12:n<=12
  case neg=>
   have hgt:(12:Int)<(n:Int):=by omega
   have m:Hid (false=labB (true,(z,l),q,r)):=by show _=_;rw[<-S.out,zbn h12];rfl
   go_wp2_with fail;go_ret;exact⟨qg m.out,T1⟩
  have hgt:¬(12:Int)<(n:Int):=by omega
  have m:Hid (goFs (z,l) [] q=labB (true,(z,l),q,r)):=by show _=_;rw[<-S.out,zbm h12];rfl
  go_wp2_with fail
  go_loopw [46] (fun i wr=>∃j:Nat,j<=n/\i=.int .i64 j/\Hid (FsAt (z,l) q j)/\Below w0.heap.size w0 wr) (fun i _=>n - (intOf i).toNat)
  case atStart=>exact⟨0,zah _,rfl,FsAt.zero _ _,v⟩
  case round=>
   obtain⟨j,hj,rfl,HF,V⟩:=hrel
   by_cases hlt:j<n
   .have hk0:(0:Int)<=(j:Int):=by omega
    have hk1:(j:Int)<(n:Int):=by omega
    obtain⟨b,o,vs,g,rfl,-,hc,W,hd,-⟩:=(af.out.next V).at hlt;have hrg:=W;obtain⟨X,mL,eL,Y,mR,eR,Z,mV,eV,rfl,-,-,-,-⟩:=q1u W;have cc0:wr.cell? ⟨b,o+j*4,none⟩=some (.int .i64 g.1):=hc 0 _ rfl;have cc1:wr.cell? ⟨b,o+j*4+1,none⟩=some (.slice X mL eL):=hc 1 _ rfl;have cc2:wr.cell? ⟨b,o+j*4+2,none⟩=some (.slice Y mR eR):=hc 2 _ rfl;have cc3:wr.cell? ⟨b,o+j*4+3,none⟩=some (.slice Z mV eV):=hc 3 _ rfl;have HD:=zaa hd;obtain⟨K,hw2,T2,hsz2,BX⟩:=q16 wr #[.int .i64 g.1,.slice X mL eL,.slice Y mR eR,.slice Z mV eV] 57;have HW2:=zaa hw2;have u:=q9 V T2 rfl;have Hg:Hid (∀t,Below K.heap.size K t->qj.rd t [.int .i64 g.1,.slice X mL eL,.slice Y mR eR,.slice Z mV eV] g):=fun t J=>qj.stab (qj.stab hrg T2.block) J.block
    obtain⟨tb,U⟩:∃b,Hid (q1l (z,l) g=b):=⟨_,rfl⟩;obtain⟨p,HP⟩:∃p,Hid (posF (q.take j) g=p):=⟨_,rfl⟩;have HI:Hid (∀t,Below K.heap.size K t->Calls Tryz.prog 75 #[.agg #[.int .i64 z,.slice B k d],.agg #[.int .i64 g.1,.slice X mL eL,.slice Y mR eR,.slice Z mV eV]] t (Bl t (.bool tb))):=fun t J=>by
     have:=HIF.out _ _ (z,l) g t (H1.out _ (q9 u J rfl)) (Hg.out _ J) Q.out
     rwa [U.out]at this
    have HX:Hid (∀t,Below K.heap.size K t->Calls Tryz.prog 76 #[.slice (some ⟨b,o,none⟩) j c,.agg #[.int .i64 g.1,.slice X mL eL,.slice Y mR eR,.slice Z mV eV]] t (Bl t (.int .i64 p))):=fun t J=>by
     have:=q5e (some ⟨b,o,none⟩) j c _ (q.take j) g t ((af.out.next (q9 u J rfl)).take (by omega)) (Hg.out _ J)
     rwa [HP.out]at this
    have E:=qe u ag;have G:=qe u ah;have H:=qe u ai;obtain⟨y,A,C,D⟩:=cl4 BX;have hjc:j<=c:=by omega
    clear hc W hrg hd hw2 hsz2;go_upto_region 10 with fail;rw[<-HW2.out];have a:Below K.heap.size K K:=zab _ _;have HM:Hid (memF (q.take j) g=decide (0<=p)):=by show _=_;unfold memF;rw[HP.out]
    rcases tb with _|_
    .have HO:Hid (false=labB (true,(z,l),q,r)):=(HF.out.stop1 HD.out U.out).trans m.out
     first|(go_region_law (first
      |(go_simp;go_at_call 75;(with_reducible refine(HI.out _ ?_).mono ?_);(first|exact a|exact zai a|exact qc (zab _ _) _|exact qc a _);rintro e1 wn ⟨rfl,s⟩;replace a:=q9 (by first|exact a|exact zai a|exact qc (zab _ _) _|exact qc a _) s rfl;have L:=qe a E;have M:=qe a G;have N:=qe a H;have x0:=qe a y;have x1:=qe a A;have x2:=qe a C;have x3:=qe a D)))|fail
     all_goals
      go_wp2_with fail;go_ret;exact⟨qg HO.out,q9 I (q9 u (by first|exact a|exact zai a) rfl) rfl⟩
    .by_cases hp:0<=p
     .first|(go_region_law (first
        |(go_simp;go_at_call 75;(with_reducible refine(HI.out _ ?_).mono ?_);(first|exact a|exact zai a|exact qc (zab _ _) _|exact qc a _);rintro e1 wn ⟨rfl,s⟩;replace a:=q9 (by first|exact a|exact zai a|exact qc (zab _ _) _|exact qc a _) s rfl;have L:=qe a E;have M:=qe a G;have N:=qe a H;have x0:=qe a y;have x1:=qe a A;have x2:=qe a C;have x3:=qe a D)
        |(go_simp;go_at_call 76;(with_reducible refine(HX.out _ ?_).mono ?_);(first|exact a|exact zai a|exact qc (zab _ _) _|exact qc a _);rintro e1 wn ⟨rfl,s⟩;replace a:=q9 (by first|exact a|exact zai a|exact qc (zab _ _) _|exact qc a _) s rfl;have L:=qe a E;have M:=qe a G;have N:=qe a H;have x0:=qe a y;have x1:=qe a A;have x2:=qe a C;have x3:=qe a D)))|fail
      all_goals
       go_wp2_with fail;go_ret;exact⟨qg ((HF.out.stop2 HD.out (by rw[HM.out,zbm hp])).trans m.out),q9 I (q9 u (by first|exact a|exact zai a) rfl) rfl⟩
     .first|(go_region_law (first
        |(go_simp;go_at_call 75;(with_reducible refine(HI.out _ ?_).mono ?_);(first|exact a|exact zai a|exact qc (zab _ _) _|exact qc a _);rintro e1 wn ⟨rfl,s⟩;replace a:=q9 (by first|exact a|exact zai a|exact qc (zab _ _) _|exact qc a _) s rfl;have L:=qe a E;have M:=qe a G;have N:=qe a H;have x0:=qe a y;have x1:=qe a A;have x2:=qe a C;have x3:=qe a D)
        |(go_simp;go_at_call 76;(with_reducible refine(HX.out _ ?_).mono ?_);(first|exact a|exact zai a|exact qc (zab _ _) _|exact qc a _);rintro e1 wn ⟨rfl,s⟩;replace a:=q9 (by first|exact a|exact zai a|exact qc (zab _ _) _|exact qc a _) s rfl;have L:=qe a E;have M:=qe a G;have N:=qe a H;have x0:=qe a y;have x1:=qe a A;have x2:=qe a C;have x3:=qe a D)))|fail
      all_goals
       have HF2:=zaa (HF.out.step HD.out U.out (by rw[HM.out,zbn hp]));have T3:=q9 u (by first|exact a|exact zai a) rfl;go_wp2_with fail
       go_roundw
       case rel=>exact⟨j+1,by omega,by go_num,HF2,T3⟩
       case measure=>simp[intOf];try omega
   .have hk1:¬(j:Int)<(n:Int):=by omega
    have HE:Hid (q.drop j= []):=zbe (by rw[T.out];omega);go_wp2_with fail;go_ret;exact⟨qg ((HF.out.done HE.out).trans m.out),q9 I V rfl⟩
theorem qm5 {x:LabM} (h:inB x.2.2.2 0 9999=false):labB x=false:=by
 unfold inB at h
 by_cases h0:0<=x.2.2.2
 .exact qfn (by simp[h0]at h;omega)
 .exact qfo (by omega)
theorem qds {x:LabM} (h:¬x.2.2.1.length<=12):labB x=false:=by
 unfold labB
 split
 .rw[zbn h,zd9,Bool.false_and,zd9]
 .rw[zbn (show ¬x.2.2.1.length=0 by omega),zd9,zd9]
theorem qen (HIT:∀(cs ds:List Value) (x:qi) (f:q12) (w:World),qf.rd w cs x->qj.rd w ds f->algB x=true->Calls Tryz.prog 58 #[.agg cs.toArray,.agg ds.toArray] w (Bl w (.bool (q1l x f)))) (cs:List Value) (x:LabM) (w:World) (h:q19.rd w cs x):
  Calls Tryz.prog 34 #[.agg cs.toArray] w (Bl w (.bool (labB x))):=by
 obtain⟨op,⟨z,l⟩,fs,r⟩:=x;obtain⟨B,G,d,F,n,c,rfl,qz,qB,qF,qr⟩:=q3j h;have qA:qf.rd w [.int .i64 z,.slice B G d] (z,l):=q2o (x:=(z,l)) qz qB;have HLK:Hid (l.length=G):=qB.len;have V:Hid (fs.length=n):=qF.len;have hln:=qF.le;show Calls Tryz.prog 34 #[.agg #[.bool op,.int .i64 z,.slice B G d,.slice F n c,.int .i64 r]] w (Bl w (.bool (labB (op,(z,l),fs,r))))
 obtain⟨w0,hw0,W,hsz0,BP⟩:=q16 w #[.bool op,.int .i64 z,.slice B G d,.slice F n c,.int .i64 r] 27;have HW0:=zaa hw0;have H1:Hid (∀q,Below w0.heap.size w0 q->qf.rd q [.int .i64 z,.slice B G d] (z,l)):=fun q hz=>qf.stab (qf.stab qA W.block) hz.block
 have HIF:=zaa HIT;have HQF:=zaa (qF.next W);obtain⟨cP0,cP1,cP2,cP3,cP4⟩:=cl5 BP;clear hw0 hsz0 qz qB qF qr qA h HIT
 go_enter Tryz.func34,Tryz.ntmps34
 go_upto_region 1 with fail;rw[<-HW0.out];obtain⟨ib,E⟩:∃b,inB r 0 9999=b:=⟨_,rfl⟩;have U:=zaa E
 rcases ib with _|_
 .have HL:Hid (false=labB (op,(z,l),fs,r)):=(qm5 (x:=(op,(z,l),fs,r)) E).symm
  clear E
  go_wp2_with (go_at_call 68;refine(q1w _ _ _ _).mono ?_;rintro e w' ⟨rfl,rfl⟩;rw[U.out])
  go_ret;exact⟨qg HL.out,W⟩
 have aa:0<=r/\r<=9999:=by unfold inB at E;simpa using E
 clear E
 by_cases h12:n<=12
 case neg=>
  have HL:Hid (false=labB (op,(z,l),fs,r)):=(qds (x:=(op,(z,l),fs,r)) (by rw[show(op,(z,l),fs,r).2.2.1=fs from rfl,V.out];exact h12)).symm;have hgt:(12:Int)<(n:Int):=by omega
  go_wp2_with (go_at_call 68;refine(q1w _ _ _ _).mono ?_;rintro e w' ⟨rfl,rfl⟩;rw[U.out])
  go_ret;exact⟨qg HL.out,W⟩
 have hgt:¬(12:Int)<(n:Int):=by omega
 rcases op with _|_
 .have HL:Hid (labB (false,(z,l),fs,r)=(decide (z=0) &&decide (G=0) &&decide (n=0))):=by
   show _=_
   rw[<-HLK.out,<-V.out];exact q7x (x:=(false,(z,l),fs,r)) aa.1 aa.2 rfl
  obtain⟨b1,HB1⟩:∃b,Hid (decide (z=0)=b):=⟨_,rfl⟩;obtain⟨b2,HB2⟩:∃b,Hid (decide (G=0)=b):=⟨_,rfl⟩;obtain⟨b3,HB3⟩:∃b,Hid (decide (n=0)=b):=⟨_,rfl⟩;have e1:(z==0)=b1:=by rw[<-HB1.out,zcd,zdp,zbt]
  have e2:((G:Int)==0)=b2:=q4p HB2.out;have e3:((n:Int)==0)=b3:=q4p HB3.out;have s:Hid ((b1 &&b2 &&b3)=labB (false,(z,l),fs,r)):=by show _=_;rw[HL.out,HB1.out,HB2.out,HB3.out]
  rcases b1 with _|_<;>rcases b2 with _|_<;>rcases b3 with _|_
  all_goals
   go_wp2_with (go_at_call 68;refine(q1w _ _ _ _).mono ?_;rintro e w' ⟨rfl,rfl⟩;rw[U.out])
   go_ret;exact⟨qg s.out,W⟩
 .have HL:Hid (labB (true,(z,l),fs,r)=(algB (z,l) &&decide (n<=12) &&goFs (z,l) [] fs)):=by
   show _=_
   rw[<-V.out];exact q7w (x:=(true,(z,l),fs,r)) aa.1 aa.2 rfl
  have HA:=zaa (q4x _ (z,l) w0 (H1.out _ (zab _ _)));obtain⟨ab,HAB⟩:∃b,Hid (algB (z,l)=b):=⟨_,rfl⟩;rw[HAB.out]at HA;have HLA:Hid ((ab &&decide (n<=12) &&goFs (z,l) [] fs)=labB (true,(z,l),fs,r)):=by show _=_;rw[HL.out,HAB.out]
  go_wp2_with (go_at_call 68;refine(q1w _ _ _ _).mono ?_;rintro e w' ⟨rfl,rfl⟩;rw[U.out])
  refine HA.out.mono ?_;rintro e w1 ⟨rfl,hb1⟩;have kP3:=qe hb1 cP3;have T1:=q9 W hb1 rfl
  rcases ab with _|_
  .go_wp2_with fail
   go_ret;exact⟨qg HLA.out,T1⟩
  have s:Hid (goFs (z,l) [] fs=labB (true,(z,l),fs,r)):=by show _=_;rw[<-HLA.out,zbm h12];rfl
  go_wp2_with fail
  go_loopw [3] (fun i wr=>∃k:Nat,k<=n/\i=.int .i64 k/\Hid (FsAt (z,l) fs k)/\Below w0.heap.size w0 wr) (fun i _=>n - (intOf i).toNat)
  case atStart=>exact⟨0,zah _,rfl,FsAt.zero _ _,hb1⟩
  case round=>
   obtain⟨k,hj,rfl,HF,m⟩:=hrel;have M:=qe m cP1;have N:=qe m cP2;have O:=qe m cP3
   by_cases hlt:k<n
   .have hk0:(0:Int)<=(k:Int):=by omega
    have hk1:(k:Int)<(n:Int):=by omega
    obtain⟨b,o,vs,g,rfl,-,hc,hrr,hd,-⟩:=(HQF.out.next m).at hlt;have hrg:=hrr;obtain⟨Q,mL,X,R,mR,Y,T,mV,Z,rfl,-,-,-,-⟩:=q1u hrr;have H:wr.cell? ⟨b,o+k*4,none⟩=some (.int .i64 g.1):=hc 0 _ rfl;have I:wr.cell? ⟨b,o+k*4+1,none⟩=some (.slice Q mL X):=hc 1 _ rfl;have J:wr.cell? ⟨b,o+k*4+2,none⟩=some (.slice R mR Y):=hc 2 _ rfl;have L:wr.cell? ⟨b,o+k*4+3,none⟩=some (.slice T mV Z):=hc 3 _ rfl;have HD:=zaa hd;have Hg:Hid (∀q,Below wr.heap.size wr q->qj.rd q [.int .i64 g.1,.slice Q mL X,.slice R mR Y,.slice T mV Z] g):=fun q hz=>qj.stab hrg hz.block
    obtain⟨tb,HTB⟩:∃b,Hid (q1l (z,l) g=b):=⟨_,rfl⟩;obtain⟨p,HP⟩:∃p,Hid (posF fs g=p):=⟨_,rfl⟩;have HI:Hid (∀q,Below wr.heap.size wr q->Calls Tryz.prog 58 #[.agg #[.int .i64 z,.slice B G d],.agg #[.int .i64 g.1,.slice Q mL X,.slice R mR Y,.slice T mV Z]] q (Bl q (.bool tb))):=fun q hz=>by
     have:=HIF.out _ _ (z,l) g q (H1.out _ (q9 m hz rfl)) (Hg.out _ hz) HAB.out
     rwa [HTB.out]at this
    have HX:Hid (∀q,Below wr.heap.size wr q->Calls Tryz.prog 59 #[.slice (some ⟨b,o,none⟩) n c,.agg #[.int .i64 g.1,.slice Q mL X,.slice R mR Y,.slice T mV Z]] q (Bl q (.int .i64 p))):=fun q hz=>by
     have:=q7c (some ⟨b,o,none⟩) n c _ fs g q (HQF.out.next (q9 m hz rfl)) (Hg.out _ hz)
     rwa [HP.out]at this
    clear hc hrr hrg hd;go_upto_region 10 with fail;have a:Below wr.heap.size wr wr:=zab _ _
    rcases tb with _|_
    .have HO:Hid (false=labB (true,(z,l),fs,r)):=(HF.out.stop1 HD.out HTB.out).trans s.out
     refine zb1 (S:=fun w'=>w'.cell? ⟨w.heap.size,1,none⟩=some (.int .i64 z)/\w'.cell? ⟨w.heap.size,2,none⟩=some (.slice B G d)/\w'.cell? ⟨w.heap.size,3,none⟩=some (.slice (some ⟨b,o,none⟩) n c)/\w'.cell? ⟨b,o+k*4,none⟩=some (.int .i64 g.1)/\w'.cell? ⟨b,o+k*4+1,none⟩=some (.slice Q mL X)/\w'.cell? ⟨b,o+k*4+2,none⟩=some (.slice R mR Y)/\w'.cell? ⟨b,o+k*4+3,none⟩=some (.slice T mV Z)) (by kernel_rfl) ⟨M,N,O,H,I,J,L⟩ (fun hHeld0=>?_);refine tp 0 (.pointer (some ⟨w.heap.size,1,none⟩)) rfl ?_;refine tk 1 (.agg #[.int .i64 z,.slice B G d]) rfl (.inl ⟨by kernel_rfl,fun wv j=>by(obtain⟨t,u,v,y,A,C,D⟩:=j);go_simp⟩) ?_;refine tp 2 (.pointer (some ⟨w.heap.size,3,none⟩)) rfl ?_;refine tk 3 (.slice (some ⟨b,o,none⟩) n c) rfl (.inl ⟨by kernel_rfl,fun wv j=>by(obtain⟨t,u,v,y,A,C,D⟩:=j);go_simp⟩) ?_;refine tp 4 (.int .i64 k) rfl ?_;refine tp 5 (.pointer (some ⟨b,o+k*4,none⟩)) rfl ?_;refine tk 6 (.agg #[.int .i64 g.1,.slice Q mL X,.slice R mR Y,.slice T mV Z]) rfl (.inl ⟨by kernel_rfl,fun wv j=>by(obtain⟨t,u,v,y,A,C,D⟩:=j);go_simp⟩) ?_
     (try simp only[Act.put,zA,zB,zC,zD,zE,zF])
     refine zft (rs:= [7]) (by kernel_rfl) (by simp) ?_;refine zd3 rfl (fun K hK=>?_) AllReadyH.nil;go_simp;refine(HI.out _ (by first|exact a|exact zai a|exact qc (zab _ _) _|exact qc a _)).mono ?_;rintro e' wn ⟨rfl,P⟩;replace a:=q9 (by first|exact a|exact zai a|exact qc (zab _ _) _|exact qc a _) P rfl;go_wp2_with fail;refine hK.out _ _ ⟨qe a M,qe a N,qe a O,qe a H,qe a I,qe a J,qe a L⟩ (fun hHeld1=>?_);clear hK K hHeld0;refine tp 8 (.bool true) rfl ?_;refine tp 9 (.bool true) rfl ?_;refine tu 10 rfl ?_;refine tu 11 rfl ?_;refine tu 12 rfl ?_;refine tu 13 rfl ?_;refine tu 14 rfl ?_;refine tu 15 rfl ?_;refine tu 16 rfl ?_;refine tu 17 rfl ?_;refine tu 18 rfl ?_;refine tu 19 rfl ?_;refine tp 20 (.bool true) rfl ?_
     (try simp only[Act.put,zA,zB,zC,zD,zE,zF])
     refine zbg (by kernel_rfl) ?_ _;go_wp2_with fail;go_ret;exact⟨qg HO.out,q9 W (q9 m (by first|exact a|exact zai a) rfl) rfl⟩
    .have HPM:=zaa (qmo (fs:=fs) (k:=k) (g:=g) HD.out)
     obtain⟨bb,hbb⟩:∃b,(p !=(k:Int))=b:=⟨_,rfl⟩;have HBB:=zaa hbb;refine zb1 (S:=fun w'=>w'.cell? ⟨w.heap.size,1,none⟩=some (.int .i64 z)/\w'.cell? ⟨w.heap.size,2,none⟩=some (.slice B G d)/\w'.cell? ⟨w.heap.size,3,none⟩=some (.slice (some ⟨b,o,none⟩) n c)/\w'.cell? ⟨b,o+k*4,none⟩=some (.int .i64 g.1)/\w'.cell? ⟨b,o+k*4+1,none⟩=some (.slice Q mL X)/\w'.cell? ⟨b,o+k*4+2,none⟩=some (.slice R mR Y)/\w'.cell? ⟨b,o+k*4+3,none⟩=some (.slice T mV Z)) (by kernel_rfl) ⟨M,N,O,H,I,J,L⟩ (fun hHeld0=>?_);refine tp 0 (.pointer (some ⟨w.heap.size,1,none⟩)) rfl ?_;refine tk 1 (.agg #[.int .i64 z,.slice B G d]) rfl (.inl ⟨by kernel_rfl,fun wv j=>by(obtain⟨t,u,v,y,A,C,D⟩:=j);go_simp⟩) ?_;refine tp 2 (.pointer (some ⟨w.heap.size,3,none⟩)) rfl ?_;refine tk 3 (.slice (some ⟨b,o,none⟩) n c) rfl (.inl ⟨by kernel_rfl,fun wv j=>by(obtain⟨t,u,v,y,A,C,D⟩:=j);go_simp⟩) ?_;refine tp 4 (.int .i64 k) rfl ?_;refine tp 5 (.pointer (some ⟨b,o+k*4,none⟩)) rfl ?_;refine tk 6 (.agg #[.int .i64 g.1,.slice Q mL X,.slice R mR Y,.slice T mV Z]) rfl (.inl ⟨by kernel_rfl,fun wv j=>by(obtain⟨t,u,v,y,A,C,D⟩:=j);go_simp⟩) ?_
     (try simp only[Act.put,zA,zB,zC,zD,zE,zF])
     refine zft (rs:= [7]) (by kernel_rfl) (by simp) ?_;refine zd3 rfl (fun K hK=>?_) AllReadyH.nil;go_simp;refine(HI.out _ (by first|exact a|exact zai a|exact qc (zab _ _) _|exact qc a _)).mono ?_;rintro e' wn ⟨rfl,P⟩;replace a:=q9 (by first|exact a|exact zai a|exact qc (zab _ _) _|exact qc a _) P rfl;go_wp2_with fail;refine hK.out _ _ ⟨qe a M,qe a N,qe a O,qe a H,qe a I,qe a J,qe a L⟩ (fun hHeld1=>?_);clear hK K hHeld0;refine tp 8 (.bool false) rfl ?_;refine tp 9 (.bool false) rfl ?_;refine tp 10 (.pointer (some ⟨w.heap.size,3,none⟩)) rfl ?_;refine tk 11 (.slice (some ⟨b,o,none⟩) n c) rfl (.inl ⟨by kernel_rfl,fun wv j=>by(obtain⟨t,u,v,y,A,C,D⟩:=j);go_simp⟩) ?_;refine tp 12 (.pointer (some ⟨w.heap.size,3,none⟩)) rfl ?_;refine tk 13 (.slice (some ⟨b,o,none⟩) n c) rfl (.inl ⟨by kernel_rfl,fun wv j=>by(obtain⟨t,u,v,y,A,C,D⟩:=j);go_simp⟩) ?_;refine tp 14 (.int .i64 k) rfl ?_;refine tp 15 (.pointer (some ⟨b,o+k*4,none⟩)) rfl ?_;refine tk 16 (.agg #[.int .i64 g.1,.slice Q mL X,.slice R mR Y,.slice T mV Z]) rfl (.inl ⟨by kernel_rfl,fun wv j=>by(obtain⟨t,u,v,y,A,C,D⟩:=j);go_simp⟩) ?_;refine tp 18 (.int .i64 k) rfl ?_
     (try simp only[Act.put,zA,zB,zC,zD,zE,zF])
     refine zft (rs:= [17]) (by kernel_rfl) (by simp) ?_;refine zd3 rfl (fun K hK=>?_) AllReadyH.nil;go_simp;refine(HX.out _ (by first|exact a|exact zai a|exact qc (zab _ _) _|exact qc a _)).mono ?_;rintro e' wn ⟨rfl,P⟩;replace a:=q9 (by first|exact a|exact zai a|exact qc (zab _ _) _|exact qc a _) P rfl;go_wp2_with fail;refine hK.out _ _ ⟨qe a M,qe a N,qe a O,qe a H,qe a I,qe a J,qe a L⟩ (fun hHeld2=>?_);clear hK K hHeld1;refine tp 19 (.bool bb) rfl ?_;refine tp 20 (.bool bb) rfl ?_
     (try simp only[Act.put,zA,zB,zC,zD,zE,zF])
     refine zbg (by kernel_rfl) ?_ _;clear hbb
     rcases bb with _|_
     .have HP2:Hid (p=(k:Int)):=by have:=HBB.out;show p=(k:Int);simpa[bne_iff_ne]using this
      have HF2:=zaa (HF.out.step HD.out HTB.out (HPM.out.1 (HP.out.trans HP2.out)));have T3:=q9 m (by first|exact a|exact zai a) rfl;go_wp2_with fail
      go_roundw
      case rel=>exact⟨k+1,by omega,by go_num,HF2,T3⟩
      case measure=>simp[intOf];try omega
     .have HP2:Hid (¬p=(k:Int)):=by have:=HBB.out;show ¬p=(k:Int);simpa[bne_iff_ne]using this
      have HM:Hid (memF (fs.take k) g=true):=by
       show _=_
       rcases hm:memF (fs.take k) g with _|_
       .exact absurd (HP.out.symm.trans (HPM.out.2 hm)) HP2.out
       .rfl
      go_wp2_with fail;go_ret;exact⟨qg ((HF.out.stop2 HD.out HM.out).trans s.out),q9 W (q9 m (by first|exact a|exact zai a) rfl) rfl⟩
   .have hk1:¬(k:Int)<(n:Int):=by omega
    have HE:Hid (fs.drop k= []):=zbe (by rw[V.out];omega);go_wp2_with fail;go_ret;exact⟨qg ((HF.out.done HE.out).trans s.out),q9 W m rfl⟩
def bls (L:List Bool):List Value:=L.map fun b=>.bool b
theorem q64 {L:List Bool} {y:Nat} (h:y<L.length):(bls L)[y]?=some (.bool (gB L y)):=by unfold bls;rw[za6,qlt h];rfl
theorem q78 (L:List Bool) (y:Nat) (b:Bool):(bls L).set y (.bool b)=bls (L.set y b):=by simp[bls,List.map_set]
theorem qnu (n:Nat):bls (List.replicate n false)=List.replicate n (.bool false):=by simp[bls]
theorem qjd:(Tryz.prog.info? 4).map (fun i=>(i.zero,i.size,i.bytes))=some (some (.bool false),1,1):=by kernel_rfl
theorem qa1 (w:World) {ops:Array Oper} {d:List Oper} {o:Oper} {a:Act} {Q:Exit->Act->World->Prop} (p:o.guard=none) (l c:Operand) (f:o.op=Op.makeSlice 146 l c)
  (n:Nat) (r:a.eval l=.int .i64 n) (m:a.eval c=.int .i64 n) (b:n<=17592186044416)
  (hK:∀w',w'.ownsRow w.heap.size 4 1 (.slice (some ⟨w.heap.size,0,none⟩) n n) n (bls (List.replicate n false))->w.grownBy w' none->wpList Tryz.prog ops Q d (a.put o.dst (.slice (some ⟨w.heap.size,0,none⟩) n n)) w'):
  wpList Tryz.prog ops Q (o::d) a w:=by
 obtain⟨s,q,g,h,i⟩:=info_parts qjd;refine wpList_make_full w p l c 146 f w.heap.size 4 s (.bool false) 1 Tryz.underlying146 q g h .i64 .i64 n n n r m rfl rfl (by rw[i];omega) (by unfold maxLen;omega) (zad _) ?_;intro w' j k;refine hK w' ?_ k;have e:(madeCells (Value.bool false).cells (n*1)).toList=List.replicate n (.bool false):=by rw[Nat.mul_one];exact toList_madeCells_one (.bool false) n
 rw[qnu,<-e];exact j
theorem qgw {w:World} {base:Nat} {e:TypeId} {A:Option Addr} {n c k:Nat} {xs:List Value} (h:w.ownsRow base e 1 (.slice A n c) n xs) (s:k<=n):w.ownsRow base e 1 (.slice A k c) k (xs.take k):=by
 obtain⟨q,b⟩:=h;refine⟨by rw[za8];omega,?_⟩
 rcases b with⟨b,r⟩|⟨g,i,a,p,j,l,m,d,f,o⟩
 .left
  injection b with e1 e2 e3
  subst e1;subst e3;obtain rfl:k=0:=by omega
  exact⟨rfl,rfl⟩
 .right
  injection p with e1 e2 e3
  subst e1;subst e3;refine⟨g,_,a,rfl,j,l,by omega,d,f,?_⟩;rw[<-o,List.take_take]
  congr 1
  omega
def OwI (w:World) (L:List Int) (e:Ending) (w':World):Prop:=∃A c,e=.returned (.slice A L.length c)/\w'.ownsRow w.heap.size 3 1 (.slice A L.length c) L.length (ints L)/\Below w.heap.size w w'
theorem qmc (n:Nat) (M:Nat->Bool) (b:n<=1048576):∀v∈q1n n M, -9223372036854775808<=v/\v<=9223372036854775807:=fun v a=>by
 have:=q4h v a;omega
theorem qbc (A:Option Addr) (n c:Nat) (L:List Bool) (w:World) (h:RdL RB w A n L) (J:n<=1000):
  Calls Tryz.prog 178 #[.slice A n c] w (OwI w (q1n n (gB L))):=by
 have C:=qm w (.cells #[] 3);have t:=zaa h.len
 go_enter Tryz.func178,Tryz.ntmps178
 go_wp2_with fail
 go_loopw [3,4,5,9] (fun s _ _ i wr=>∃(k m:Nat) (g:Option Addr) (j:Nat),k<=n/\i=.int .i64 k/\s=.slice g m j/\m=(q1n k (gB L)).length/\wr.ownsRow w.heap.size 3 1 (.slice g m j) m (ints (q1n k (gB L)))/\Below w.heap.size w wr) (fun _ _ _ i _=>n - (intOf i).toNat)
 case atStart=>exact⟨0,0,some ⟨w.heap.size,0,none⟩,0,zah _,rfl,rfl,rfl,zby w #[] 0 (zad _) (zah _) rfl,C⟩
 case round=>
  obtain⟨k,m,g,j,I,rfl,rfl,p,e,d⟩:=hrel;have F:m<=k:=by rw[p];exact q3t k (gB L)
  by_cases hlt:k<n
  .have E:(0:Int)<=(k:Int):=by omega
   have r:(k:Int)<(n:Int):=by omega
   obtain⟨b,o,u,v,rfl,H,rfl,-,x⟩:=(h.next qai d).at hlt;have z:=zaa (q7q x);have l:=zaa (qbb k (gB L));rw[z.out]at l;have a:=zaa p;clear x p
   rcases v with _|_
   .go_wp2_with fail
    go_roundw
    case rel=>exact⟨k+1,m,g,j,by omega,by go_num,rfl,by rw[l.out];simpa using a.out,by rw[l.out];simpa using e,d⟩
    case measure=>simp[intOf];omega
   .have G:=d.size
    go_wp2_with (at_builtin;refine app1 wr rfl _ _ 43 3 rfl (.int .i64 0) 8 zax q15 rfl (by decide) w.heap.size m j g (ints (q1n k (gB L))) rfl e (.int .i64 (k:Int)) rfl rfl (by omega) (by omega) ?_;intro y B K f D q)
    go_roundw
    case rel=>exact⟨k+1,m+1,y,B,by omega,by go_num,rfl,by rw[l.out];simpa using a.out,by rw[l.out];simpa[ints]using f,d.trans q⟩
    case measure=>simp[intOf];omega
  .have r:¬(k:Int)<(n:Int):=by omega
   obtain rfl:k=n:=by omega
   have a:=zaa p;clear p;go_wp2_with fail;go_ret;exact⟨g,j,by rw[a.out];rfl,by rw[<-a.out];exact e,d⟩
theorem qj9 {n y:Nat} {S:List Int} (h:y<n):gB (inL n S) y=hasI (y:Int) S:=by
 refine q7q ?_;unfold inL;rw[za6,zeq h];rfl
theorem qc5 {n k x:Nat} {S:List Int} (c:S[k]?=some (x:Int)) (a:x<n):(inL n (S.take k)).set x true=inL n (S.take (k+1)):=by
 refine qj8 (n:=n) (by rw[zcn,q5f]) (q5f _ _) fun y b=>?_
 rw[qdg (by rw[q5f];exact a),qj9 b,qj9 b,zbj,c];rw[zcd]
 by_cases e:y=x
 .subst e;simp[q61]
 .rw[zaj e,q61,q61,zat]
  constructor
  .exact .inl
  .rintro(h|h)
   .exact h
   .simp at h;omega
theorem q7z {n:Nat} {o:OpM} (h:OpP n o):∃(a:Nat) (tb:List Int),o=((a:Int),tb)/\a<=3:=by
 obtain⟨k,tb⟩:=o;obtain⟨a,b⟩:=zam h.1;have c:=h.2.1;simp only at b c;exact⟨a,tb,by rw[b],by omega⟩
theorem qj3 (cs:List Value) (x:qi) (A:Option Addr) (n c:Nat) (t:List Int) (H:Nat) (w:World) (h:qf.rd w cs x) (R:RdL RI w A n t) (N:Nat) (z:∀o∈x.2,OpP N o) (hl:x.2.length<=4) (hn:n<=60) (ha:H<=n):
  Calls Tryz.prog 215 #[.agg cs.toArray,.slice A n c,.int .i64 H] w (Bl w (.int .i64 (endI x.2 t H))):=by
 obtain⟨a,g⟩:=x;obtain⟨B,m,d,rfl,-,T⟩:=qv h;have E:=T.len;have hm4:m<=4:=by simp only at hl E;omega
 have U:=zaa R.len;obtain⟨w0,P,G,hsz0,BP⟩:=q16 w #[.int .i64 a,.slice B m d] 24;have W:=zaa P;replace T:=T.next G;replace R:=R.next qd G;have V:=zaa E;have r:=zaa z;clear P z E hl h
 go_enter Tryz.func215,Tryz.ntmps215
 go_wp2_with fail;rw[<-W.out]
 go_loopw [2,7,8] (fun p q _ wr=>∃k f:Nat,k<=n/\p=.int .i64 k/\q=.int .i64 f/\Hid (EnI g t H k f)/\Below w0.heap.size w0 wr) (fun p _ _ _=>n - (intOf p).toNat)
 case atStart=>exact⟨H,1,ha,rfl,rfl,EnI.start _ _ _,zab _ _⟩
 case round=>
  obtain⟨k,f,hk,rfl,rfl,C,i⟩:=hrel;have q':=T.next i;have ab:f<=1000:=by have:=C.out.2.2;omega
  have cP:=(BP.next i).cell 1;simp at cP
  rcases zc9 f with rfl|J
  .have aa:¬(0:Int)<((0:Nat):Int):=by omega
   go_wp2_with fail;go_ret;exact⟨q11 C.out.done.symm,q9 G i rfl⟩
  .have aa:(0:Int)<(f:Int):=by omega
   by_cases hlt:k<n
   .have hk0:(0:Int)<=(k:Int):=by omega
    have hk1:(k:Int)<(n:Int):=by omega
    have Z:¬(n:Int)<=(k:Int):=by omega
    obtain⟨b,o,u,v,rfl,hc,⟨rfl,hv0,hv1⟩,-,hx⟩:=(R.next qd i).at hlt;have Q:=zaa hx;clear hx
    by_cases h6:6<=v
    .have l:Hid (badV g v=true):=by show _=_;unfold badV;rw[zbm h6];rfl
     go_wp2_with fail;go_ret;exact⟨q11 (C.out.bad J Q.out l.out).symm,q9 G i rfl⟩
    .by_cases hlo:v< -(m:Int)
     .have l:Hid (badV g v=true):=by show _=_;unfold badV;rw[V.out,zbm hlo,Bool.or_true]
      go_wp2_with fail;go_ret;exact⟨q11 (C.out.bad J Q.out l.out).symm,q9 G i rfl⟩
     .have l:Hid (badV g v=false):=by show _=_;unfold badV;rw[V.out,zbn hlo,zbn h6];rfl
      by_cases hv:0<=v
      .have I:Hid (EnI g t H (k+1) (f - 1)):=by
        have e:adV g v=0:=by unfold adV;rw[zao hv]
        have:=C.out.next J Q.out l.out (by omega);rw[e]at this;exact this
       go_wp2_with fail
       go_roundw
       case rel=>exact⟨k+1,f - 1,by omega,by go_num,by go_num,I,i⟩
       case measure=>simp[intOf];omega
      .obtain⟨ob,F,s,K,-,D⟩:=qk8 r.out l.out hv
       have h3:=qn8 r.out l.out;have e:adV g v=arF g v:=by unfold adV;rw[zaj hv]
       rw[e]at h3;have I:=zaa (C.out.next J Q.out l.out (by omega));rw[e]at I;obtain⟨X,tb,rfl,har⟩:=q7z s;have L:arF g v=X:=by rw[K];simp
       rw[L]at I;obtain⟨j,hj⟩:∃j,j=(-1 - v).toNat:=⟨_,rfl⟩;rw[<-hj]at F D;have Y:j<m:=by rw[<-V.out];exact D
       obtain⟨b2,o2,vs,y,rfl,-,M,O,-,S⟩:=q'.at Y;rw[F]at S;injection S with S
       subst S;obtain⟨B',m',d',rfl,-,qt⟩:=rdOp O;have cc0:wr.cell? ⟨b2,o2+j*2,none⟩=some (.int .i64 (X:Int)):=M 0 _ rfl;have ej:(-1:Int) - v=(j:Int):=by omega
       have hj0:(0:Int)<=(j:Int):=by omega
       have hj1:(j:Int)<(m:Int):=by omega
       clear M O F D hj e K L s qt q';go_wp2_with fail
       go_roundw
       case rel=>exact⟨k+1,f - 1+X,by omega,by go_num,by go_num,I,i⟩
       case measure=>simp[intOf];omega
   .have Z:(n:Int)<=(k:Int):=by omega
    go_wp2_with fail;go_ret;exact⟨q11 (C.out.over J (by rw[U.out];exact hlt)).symm,q9 G i rfl⟩
theorem qb5 (cs:List Value) (x:qi) (A:Option Addr) (n c:Nat) (t:List Int) (w:World) (h:qf.rd w cs x) (i:RdL RI w A n t) (N:Nat) (a:∀o∈x.2,OpP N o) (r:x.2.length<=4):
  Calls Tryz.prog 199 #[.agg cs.toArray,.slice A n c] w (Bl w (.bool (q2q x.2 t))):=by
 have C:=i.le;have g:=zaa i.len;have f:=h;obtain⟨B,m,d,rfl,-,D⟩:=qv h;obtain⟨E,j,k,s,u⟩:=q16 w #[.int .i64 x.1,.slice B m d] 24;have b:=zaa j;replace f:=qf.stab f k.block;replace i:=i.next qd k;obtain⟨p,q⟩:=cl2 u;rw[b.out]at p q;clear j D
 by_cases h60:n<=60
 .have y:(n:Int)<=60:=by omega
  have v:=zaa (qj3 _ x A n c t 0 E f i N a r h60 (by omega));have l:Hid (q2q x.2 t=decide (endI x.2 t 0=(n:Int))):=by
   show _=_
   unfold q2q;rw[g.out,zbm h60];rfl
  clear a r
  go_enter Tryz.func199,Tryz.ntmps199
  go_wp2_with fail;rw[<-b.out];refine v.out.mono ?_;rintro e F ⟨rfl,z⟩;go_wp2_with fail;go_ret;exact⟨qg (by rw[l.out,zcd];simp),q9 k z rfl⟩
 .have y:¬(n:Int)<=60:=by omega
  have l:Hid (q2q x.2 t=false):=by show _=_;unfold q2q;rw[g.out,zbn h60];rfl
  clear a r
  go_enter Tryz.func199,Tryz.ntmps199
  go_wp2_with fail;go_ret;exact⟨qg l.out.symm,by first|exact qm _ _|(rw[<-b.out];exact k)⟩
theorem qjo (cs:List Value) (x:qi) (A:Option Addr) (n c:Nat) (t:List Int) (I:Nat) (w:World) (h:qf.rd w cs x) (ht:RdL RI w A n t) (N:Nat) (E:∀o∈x.2,OpP N o) (hl:x.2.length<=4) (hn:n<=60) (ha:I<=n):
  Calls Tryz.prog 195 #[.agg cs.toArray,.slice A n c,.int .i64 I] w (Bl w (.int .i64 (endI x.2 t I))):=by
 obtain⟨a,i⟩:=x;obtain⟨B,m,d,rfl,-,qo⟩:=qv h;have L:=qo.len;have hm4:m<=4:=by simp only at hl L;omega
 have HLN:=zaa ht.len;obtain⟨w0,W,l,hsz0,BP⟩:=q16 w #[.int .i64 a,.slice B m d] 24;have HW0:=zaa W;replace qo:=qo.next l;replace ht:=ht.next qd l;have X:=zaa L;have C:=zaa E;clear W E L hl h
 go_enter Tryz.func195,Tryz.ntmps195
 go_wp2_with fail;rw[<-HW0.out]
 go_loopw [7,8] (fun q p wr=>∃k f:Nat,k<=n/\p=.int .i64 k/\q=.int .i64 f/\0<f/\Hid (EnI i t I k f)/\Below w0.heap.size w0 wr) (fun _ p _=>n - (intOf p).toNat)
 case atStart=>exact⟨I,1,ha,rfl,rfl,Nat.one_pos,EnI.start _ _ _,zab _ _⟩
 case round=>
  obtain⟨k,f,hk,rfl,rfl,R,P,g⟩:=hrel;have q':=qo.next g;have hneed:f<=1000:=by have:=P.out.2.2;omega
  have cP:=(BP.next g).cell 1;simp at cP
  by_cases hlt:k<n
  .have hk0:(0:Int)<=(k:Int):=by omega
   have hk1:(k:Int)<(n:Int):=by omega
   obtain⟨b,o,u,v,rfl,hc,⟨rfl,hv0,hv1⟩,-,hx⟩:=(ht.next qd g).at hlt;have Y:=zaa hx;clear hx
   by_cases hv:0<=v
   .have hvn:¬v<0:=by omega
    by_cases h6:6<=v
    .have s:Hid (badV i v=true):=by show _=_;unfold badV;rw[zbm h6];rfl
     go_wp2_with fail;go_ret;exact⟨q11 (P.out.bad R Y.out s.out).symm,(by first|exact q9 l g rfl|exact qc (q9 l g rfl) _|exact qc (qc (q9 l g rfl) _) _|exact qc (qc (qc (q9 l g rfl) _) _) _)⟩
    .have z:¬v< -(m:Int):=by omega
     have s:Hid (badV i v=false):=by show _=_;unfold badV;rw[X.out,zbn z,zbn h6];rfl
     have G:Hid (EnI i t I (k+1) (f - 1)):=by
      have e:adV i v=0:=by unfold adV;rw[zao hv]
      have:=P.out.next R Y.out s.out (by omega);rw[e]at this;exact this
     obtain⟨r,H⟩:∃r,Hid (f=r+1):=⟨f - 1,by show _=_;omega⟩;have M:=H.out;subst M
     rcases zc9 r with rfl|Z
     .have e0:(((0+1:Nat):Int) - 1==0)=true:=by rfl
      go_wp2_with fail;go_ret;exact⟨q11 (by have:=G.out.done;rw[this];omega),(by first|exact q9 l g rfl|exact qc (q9 l g rfl) _|exact qc (qc (q9 l g rfl) _) _|exact qc (qc (qc (q9 l g rfl) _) _) _)⟩
     .have e0:(((r+1:Nat):Int) - 1==0)=false:=by rw[zbi];omega
      go_wp2_with fail
      go_roundw
      case rel=>exact⟨k+1,r,by omega,by go_num,by go_num,Z,G,(by first|exact g|exact qc (g) _|exact qc (qc (g) _) _|exact qc (qc (qc (g) _) _) _)⟩
      case measure=>simp[intOf];omega
   .have hvn:v<0:=by omega
    by_cases z:v< -(m:Int)
    .have s:Hid (badV i v=true):=by show _=_;unfold badV;rw[X.out,zbm z,Bool.or_true]
     have F:Hid (inB v (-(m:Int)) (-1)=false):=by show _=_;unfold inB;rw[zbn (by omega)];rfl
     go_wp2_with fail
     go_quiet ((go_at_call 68;first|exact q1k (q2v F.out)|exact q1e (q2v F.out)))
     go_wp2_with fail;go_ret;exact⟨q11 (P.out.bad R Y.out s.out).symm,(by first|exact q9 l g rfl|exact qc (q9 l g rfl) _|exact qc (qc (q9 l g rfl) _) _|exact qc (qc (qc (q9 l g rfl) _) _) _)⟩
    .have h6:¬ 6<=v:=by omega
     have s:Hid (badV i v=false):=by show _=_;unfold badV;rw[X.out,zbn z,zbn h6];rfl
     have F:Hid (inB v (-(m:Int)) (-1)=true):=by show _=_;unfold inB;rw[zbm (by omega),zbm (by omega)];rfl
     obtain⟨ob,O,D,S,-,K⟩:=qk8 C.out s.out hv;have h3:=qn8 C.out s.out;have e:adV i v=arF i v:=by unfold adV;rw[zaj hv]
     rw[e]at h3;have G:=zaa (P.out.next R Y.out s.out (by omega));rw[e]at G;obtain⟨J,tb,rfl,har⟩:=q7z D;have T:arF i v=J:=by rw[S];simp
     rw[T]at G;obtain⟨j,hj⟩:∃j,j=(-1 - v).toNat:=⟨_,rfl⟩;rw[<-hj]at O K;have hjm:j<m:=by rw[<-X.out];exact K
     obtain⟨b2,o2,vs,y,rfl,-,U,V,-,hy⟩:=q'.at hjm;rw[O]at hy;injection hy with hy
     subst hy;obtain⟨B',m',d',rfl,-,qt⟩:=rdOp V;have cc0:wr.cell? ⟨b2,o2+j*2,none⟩=some (.int .i64 (J:Int)):=U 0 _ rfl;have ej:(-1:Int) - v=(j:Int):=by omega
     have hj0:(0:Int)<=(j:Int):=by omega
     have hj1:(j:Int)<(m:Int):=by omega
     obtain⟨r,H⟩:∃r,Hid (f=r+1):=⟨f - 1,by show _=_;omega⟩;have M:=H.out;subst M;have Q:Hid (EnI i t I (k+1) (r+J)):=by have:=G.out;rwa [zf3]at this
     clear U V O K hj e S T D qt q' G
     rcases zc9 (r+J)with Z|Z
     .obtain⟨rfl,rfl⟩:r=0/\J=0:=by omega
      go_wp2_with fail
      go_quiet ((go_at_call 68;first|exact q1k (q2v F.out)|exact q1e (q2v F.out)))
      go_wp2_with fail
      go_quiet (fail)
      go_wp2_with fail;go_ret;exact⟨q11 (by have:=Q.out.done;rw[this];omega),(by first|exact q9 l g rfl|exact qc (q9 l g rfl) _|exact qc (qc (q9 l g rfl) _) _|exact qc (qc (qc (q9 l g rfl) _) _) _)⟩
     .have e0:(((r+1:Nat):Int) - 1+(J:Int)==0)=false:=by rw[zbi];omega
      go_wp2_with fail
      go_quiet ((go_at_call 68;first|exact q1k (q2v F.out)|exact q1e (q2v F.out)))
      go_wp2_with fail
      go_quiet (fail)
      go_wp2_with fail
      go_roundw
      case rel=>exact⟨k+1,r+J,by omega,by go_num,by go_num,Z,Q,(by first|exact g|exact qc (g) _|exact qc (qc (g) _) _|exact qc (qc (qc (g) _) _) _)⟩
      case measure=>simp[intOf];omega
  .have hk2:¬(k:Int)<(n:Int):=by omega
   go_wp2_with fail;go_ret;exact⟨q11 (P.out.over R (by rw[HLN.out];exact hlt)).symm,q9 l g rfl⟩
theorem qb8 (cs:List Value) (x:qi) (A:Option Addr) (n c:Nat) (t:List Int) (w:World) (h:qf.rd w cs x) (k:RdL RI w A n t) (N:Nat) (a:∀o∈x.2,OpP N o) (p:x.2.length<=4):
  Calls Tryz.prog 157 #[.agg cs.toArray,.slice A n c] w (Bl w (.bool (q2q x.2 t))):=by
 have C:=k.le;have f:=zaa k.len;have g:=h;obtain⟨B,m,d,rfl,-,E⟩:=qv h;obtain⟨F,l,j,s,u⟩:=q16 w #[.int .i64 x.1,.slice B m d] 24;have b:=zaa l;replace g:=qf.stab g j.block;replace k:=k.next qd j;obtain⟨q,r⟩:=cl2 u;rw[b.out]at q r;clear l E
 rcases zc9 n with rfl|G
 .have i:Hid (q2q x.2 t=false):=by
   rcases e:q2q x.2 t with _|_
   .rfl
   .have:=qcw e;have:=f.out;omega
  clear a p
  go_enter Tryz.func157,Tryz.ntmps157
  go_wp2_with fail;go_ret;exact⟨qg i.out.symm,by first|exact qm _ _|(rw[<-b.out];exact j)⟩
 have D:(0:Int)<(n:Int):=by omega
 by_cases h60:n<=60
 .have y:(n:Int)<=60:=by omega
  have v:=zaa (qjo _ x A n c t 0 F g k N a p h60 (by omega));have i:Hid (q2q x.2 t=decide (endI x.2 t 0=(n:Int))):=by
   show _=_
   unfold q2q;rw[f.out,zbm h60];rfl
  clear a p
  go_enter Tryz.func157,Tryz.ntmps157
  go_wp2_with fail;rw[<-b.out];refine v.out.mono ?_;rintro e H ⟨rfl,z⟩;go_wp2_with fail;go_ret;exact⟨qg (by rw[i.out,zcd];simp),q9 j z rfl⟩
 .have y:¬(n:Int)<=60:=by omega
  have i:Hid (q2q x.2 t=false):=by show _=_;unfold q2q;rw[f.out,zbn h60];rfl
  clear a p
  go_enter Tryz.func157,Tryz.ntmps157
  go_wp2_with fail;go_ret;exact⟨qg i.out.symm,by first|exact qm _ _|(rw[<-b.out];exact j)⟩
end Go.Proofs.YtfnmkbpogbekpaaGreatDoor
