import Derived.Test.YtfnmkbpogbekpaaGreatDoorQ4
set_option linter.unusedVariables false
set_option linter.unusedSimpArgs false
set_option maxRecDepth 100000
set_option maxHeartbeats 32000000
namespace Go.Proofs.YtfnmkbpogbekpaaGreatDoor
open Go.RowKit
theorem qn {P:Program} {fn:Func} {p u:Tmp} {c:TypeId} (h:fn.results= #[.cell p c,.tmp u]) (a:Array Value) (w:World) (g:Nat) (t:TypeId) (cs:Array Value) (e:Nat×Nat) (d:TypeDesc) (b:Value)
  (j:a.getD p undef=.pointer (some ⟨g,0,none⟩)) (i:w.heap[g]?=some (.cells cs t e))
  (k:P.underlying c=some d) (hd:(match d with| .struct _| .array _ _=>true|_=>false)=true) (hi:(P.info? c).map (·.size)=some cs.size) (f:a.getD u undef=b):
  (results fn a).run P w=.ok (.tuple #[.agg cs,b]) w:=by
 rw[results_cell_tmp h,j,f];simp[asAddr,Result.andThen,run_loadVar_row w g t c cs e d i k hd hi]
theorem q4z (w:World) (a b d:Array Value) (tp c e:TypeId):∃w3,w3=((w.alloc (.cells a tp)).alloc (.cells b c)).alloc (.cells d e)/\Below w.heap.size w w3/\w3.heap.size=w.heap.size+3/\Blk w3 w.heap.size tp a/\Blk w3 (w.heap.size+1) c b/\Blk w3 (w.heap.size+1+1) e d:=by
 refine⟨_,rfl,qbh w _ _ _,by simp,((Blk.new w tp a).alloc _).alloc _,?_,?_⟩
 .have:=((Blk.new (w.alloc (.cells a tp)) c b).alloc (.cells d e))
  rwa [show(w.alloc (.cells a tp)).heap.size=w.heap.size+1 by simp]at this
 .have:=Blk.new ((w.alloc (.cells a tp)).alloc (.cells b c)) e d
  rwa [show((w.alloc (.cells a tp)).alloc (.cells b c)).heap.size=w.heap.size+1+1 by simp]at this
theorem qs8 {w w':World} {p:Addr} {v:Value} (a:Below w.heap.size w w') (h:w.cell? p=some v):w'.cell? p=some v:=(a.cell (q50 h)).trans h
theorem qpc {w w':World} {g:Nat} (h:w.grownBy w' (some g)) {p:Addr} (d:p.block=g) (v:Value):w.grownBy (w'.setCell p v) (some g):=
 ⟨h.os,h.tape,h.output,by simpa using h.size,fun k c a=>(za8 w' p v k (by intro b;rw[b,d]at a;exact a rfl)).trans (h.block k c a)⟩
theorem q4j (w:World) (r:Option Nat):w.grownBy w r:=⟨rfl,rfl,rfl,zad _,fun _ _ _=>rfl⟩
theorem q49 {w d e:World} {r:Option Nat} (h:w.grownBy d r) (k:d.grownBy e r):w.grownBy e r:=
 ⟨k.os.trans h.os,k.tape.trans h.tape,k.output.trans h.output,za7 h.size k.size,fun b c a=>(k.block b (zcu c h.size) a).trans (h.block b c a)⟩
theorem qnj {w w':World} {r:Option Nat} (h:Below w.heap.size w w'):w.grownBy w' r:=⟨h.os,h.tape,h.output,h.size,fun b a _=>h.block b a⟩
theorem q9k {w w':World} {r:Option Nat} (h:w.grownBy w' r) (z:Nat):w.grownBy (w'.drewN z) r:=⟨h.os,h.tape,h.output,h.size,fun b c a=>h.block b c a⟩
theorem qli (A:Option Addr) (m c n:Nat) (S:List Int) (w:World) (h:RdL RI w A m S) (hS:∀v∈S,0<=v/\v<=(n:Int) - 1) (N:n<=1000):
  Calls Tryz.prog 180 #[.slice A m c,.int .i64 n] w fun e w'=>e=.returned (.slice (some ⟨w.heap.size,0,none⟩) n n)/\w'.ownsRow w.heap.size 4 1 (.slice (some ⟨w.heap.size,0,none⟩) n n) n (bls (inL n S))/\Below w.heap.size w w':=by
 have D:=zaa hS;have C:=zaa h.len;have H:=h.le;clear hS
 go_enter Tryz.func180,Tryz.ntmps180
 go_wp2_with (at_make;refine qam w rfl _ _ rfl n rfl rfl (by omega) ?_;intro O d l)
 have j:=(zac w.heap.size w).grown l (zad _) (by simp);clear l
 go_loopw [12] (fun i wr=>∃k:Nat,k<=m/\i=.int .i64 k/\wr.ownsRow w.heap.size 4 1 (.slice (some ⟨w.heap.size,0,none⟩) n n) n (bls (inL n (S.take k)))/\Below w.heap.size w wr) (fun i _=>m - (intOf i).toNat)
 case atStart=>
  refine⟨0,zah _,rfl,?_,j⟩;have e:inL n (S.take 0)=List.replicate n false:=by
   unfold inL;rw[zcw];exact List.eq_replicate_iff.2 ⟨by simp,fun b E=>by obtain⟨y,-,rfl⟩:=zbe.1 E;rfl⟩
  rw[e];exact d
 case round=>
  clear d j;obtain⟨k,M,rfl,a,f⟩:=hrel
  by_cases hlt:k<m
  .have G:(0:Int)<=(k:Int):=by omega
   have s:(k:Int)<(m:Int):=by omega
   obtain⟨b,o,u,v,rfl,B,⟨rfl,I,J⟩,-,z⟩:=h.at hlt;have t:=D.out v (zaf z);obtain⟨x,rfl⟩:=zan t.1;have q:x<n:=by omega
   have g:=zaa (qco z q);replace B:=qs8 f B;have r:wr.cell? ⟨w.heap.size,x,none⟩=some (.bool (gB (inL n (S.take k)) x)):=by rw[a.cellAt x (by omega),q66 (by rw[q5s];exact q)]
   have F:=a.frozenAt x;have p:=(a.stored x (.bool true)).1;rw[q7i,g.out]at p;have K:(0:Int)<=(x:Int):=by omega
   have L:(x:Int)<(n:Int):=by omega
   clear z a;go_wp2_with fail
   go_roundw
   case rel=>exact⟨k+1,by omega,by go_num,p,f.setCell (zad _) _⟩
   case measure=>simp[intOf];try omega
  .have s:¬(k:Int)<(m:Int):=by omega
   rw[zar (by rw[C.out];omega)]at a;go_wp2_with fail;go_ret;exact⟨rfl,a,f⟩
theorem qje (A:Option Addr) (n c:Nat) (L:List Bool) (w:World) (h:RdL RB w A n L) (K:n<=1000):
  Calls Tryz.prog 166 #[.slice A n c] w (OwI w (q1m n (gB L))):=by
 have y:=qm w (.cells #[] 3);have x:=zb7 (base:=w.heap.size) (e:=3) (size:=1) w #[] 0 (zad _) (zah _) rfl
 go_enter Tryz.func166,Tryz.ntmps166
 go_wp2_with fail
 go_loopw [3,4] (fun s i wr=>∃(k m:Nat) (j:Option Addr) (l:Nat),k<=n/\i=.int .i64 k/\s=.slice j m l/\m=(q1m k (gB L)).length/\wr.ownsRow w.heap.size 3 1 (.slice j m l) m (ints (q1m k (gB L)))/\Below w.heap.size w wr) (fun _ i _=>n - (intOf i).toNat)
 case atStart=>exact⟨0,0,_,_,zah _,rfl,rfl,rfl,x,y⟩
 case round=>
  clear x y;obtain⟨k,m,j,l,J,rfl,rfl,q,f,d⟩:=hrel;have G:m<=k:=by rw[q];exact q4u k (gB L)
  by_cases hlt:k<n
  .have F:(0:Int)<=(k:Int):=by omega
   have t:(k:Int)<(n:Int):=by omega
   obtain⟨b,o,u,v,rfl,I,rfl,-,z⟩:=(h.next qax d).at hlt;have C:=zaa (q7y z);have p:=zaa (qbu k (gB L));rw[C.out]at p;have a:=zaa q;clear z q
   rcases v with _|_
   .go_wp2_with fail
    go_roundw
    case rel=>exact⟨k+1,m,j,l,by omega,by go_num,rfl,by rw[p.out];simpa using a.out,by rw[p.out];simpa using f,d⟩
    case measure=>simp[intOf];try omega
   .have H:=d.size
    go_wp2_with (at_builtin;refine app1 wr rfl _ _ 43 3 rfl (.int .i64 0) 8 za1 q14 rfl (by decide) w.heap.size m l j (ints (q1m k (gB L))) rfl f (.int .i64 (k:Int)) rfl rfl (by omega) (by omega) ?_;intro B D M g E r)
    go_roundw
    case rel=>exact⟨k+1,m+1,B,D,by omega,by go_num,rfl,by rw[p.out];simpa using a.out,by rw[p.out];simpa[ints]using g,d.trans r⟩
    case measure=>simp[intOf];try omega
  .have t:¬(k:Int)<(n:Int):=by omega
   obtain rfl:k=n:=by omega
   have a:=zaa q;clear q;go_wp2_with fail;go_ret;exact⟨j,l,by rw[a.out];rfl,by rw[<-a.out];exact f,d⟩
theorem q89 {n:Nat} {o:OpM} (h:OpP n o):∃(a:Nat) (tb:List Int),o=((a:Int),tb)/\a<=3:=by
 obtain⟨k,tb⟩:=o;obtain⟨a,b⟩:=zan h.1;have c:=h.2.1;simp only at b c;exact⟨a,tb,by rw[b],by omega⟩
theorem qkj (cs:List Value) (x:qi) (A:Option Addr) (n c:Nat) (t:List Int) (H:Nat) (w:World) (h:qf.rd w cs x) (R:RdL RI w A n t) (N:Nat) (z:∀o∈x.2,OpP N o) (hl:x.2.length<=4) (hn:n<=60) (ha:H<=n):
  Calls Tryz.prog 215 #[.agg cs.toArray,.slice A n c,.int .i64 H] w (Bl w (.int .i64 (endI x.2 t H))):=by
 obtain⟨a,g⟩:=x;obtain⟨B,m,d,rfl,-,T⟩:=qv h;have E:=T.len;have hm4:m<=4:=by simp only at hl E;omega
 have U:=zaa R.len;obtain⟨w0,P,G,hsz0,BP⟩:=q15 w #[.int .i64 a,.slice B m d] 24;have W:=zaa P;replace T:=T.next G;replace R:=R.next qd G;have V:=zaa E;have r:=zaa z;clear P z E hl h
 go_enter Tryz.func215,Tryz.ntmps215
 go_wp2_with fail;rw[<-W.out]
 go_loopw [2,7,8] (fun p q _ wr=>∃k f:Nat,k<=n/\p=.int .i64 k/\q=.int .i64 f/\Hid (EnI g t H k f)/\Below w0.heap.size w0 wr) (fun p _ _ _=>n - (intOf p).toNat)
 case atStart=>exact⟨H,1,ha,rfl,rfl,EnI.start _ _ _,zac _ _⟩
 case round=>
  obtain⟨k,f,hk,rfl,rfl,C,i⟩:=hrel;have q':=T.next i;have ab:f<=1000:=by have:=C.out.2.2;omega
  have cP:=(BP.next i).cell 1;simp at cP
  rcases zdb f with rfl|J
  .have aa:¬(0:Int)<((0:Nat):Int):=by omega
   go_wp2_with fail;go_ret;exact⟨q11 C.out.done.symm,q9 G i rfl⟩
  .have aa:(0:Int)<(f:Int):=by omega
   by_cases hlt:k<n
   .have hk0:(0:Int)<=(k:Int):=by omega
    have hk1:(k:Int)<(n:Int):=by omega
    have Z:¬(n:Int)<=(k:Int):=by omega
    obtain⟨b,o,u,v,rfl,hc,⟨rfl,hv0,hv1⟩,-,hx⟩:=(R.next qd i).at hlt;have Q:=zaa hx;clear hx
    by_cases h6:6<=v
    .have l:Hid (badV g v=true):=by show _=_;unfold badV;rw[zbh h6];rfl
     go_wp2_with fail;go_ret;exact⟨q11 (C.out.bad J Q.out l.out).symm,q9 G i rfl⟩
    .by_cases hlo:v< -(m:Int)
     .have l:Hid (badV g v=true):=by show _=_;unfold badV;rw[V.out,zbh hlo,Bool.or_true]
      go_wp2_with fail;go_ret;exact⟨q11 (C.out.bad J Q.out l.out).symm,q9 G i rfl⟩
     .have l:Hid (badV g v=false):=by show _=_;unfold badV;rw[V.out,zbi hlo,zbi h6];rfl
      by_cases hv:0<=v
      .have I:Hid (EnI g t H (k+1) (f - 1)):=by
        have e:adV g v=0:=by unfold adV;rw[zam hv]
        have:=C.out.next J Q.out l.out (by omega);rw[e]at this;exact this
       go_wp2_with fail
       go_roundw
       case rel=>exact⟨k+1,f - 1,by omega,by go_num,by go_num,I,i⟩
       case measure=>simp[intOf];omega
      .obtain⟨ob,F,s,K,-,D⟩:=qjm r.out l.out hv
       have h3:=qp5 r.out l.out;have e:adV g v=arF g v:=by unfold adV;rw[zaj hv]
       rw[e]at h3;have I:=zaa (C.out.next J Q.out l.out (by omega));rw[e]at I;obtain⟨X,tb,rfl,har⟩:=q89 s;have L:arF g v=X:=by rw[K];simp
       rw[L]at I;obtain⟨j,hj⟩:∃j,j=(-1 - v).toNat:=⟨_,rfl⟩;rw[<-hj]at F D;have Y:j<m:=by rw[<-V.out];exact D
       obtain⟨b2,o2,vs,y,rfl,-,M,O,-,S⟩:=q'.at Y;rw[F]at S;injection S with S
       subst S;obtain⟨B',m',d',rfl,-,qt⟩:=rdOp O;have cc0:wr.cell? ⟨b2,o2+j*2,none⟩=some (.int .i64 (X:Int)):=M 0 _ rfl;have ej:(-1:Int) - v=(j:Int):=by omega
       have hj0:(0:Int)<=(j:Int):=by omega
       have hj1:(j:Int)<(m:Int):=by omega
       clear M O F D hj e K L s qt q';go_wp2_with fail
       go_roundw
       case rel=>exact⟨k+1,f - 1+X,by omega,by go_num,by go_num,I,i⟩
       case measure=>simp[intOf];omega
   .have Z:(n:Int)<=(k:Int):=by omega
    go_wp2_with fail;go_ret;exact⟨q11 (C.out.over J (by rw[U.out];exact hlt)).symm,q9 G i rfl⟩
theorem qbm (cs:List Value) (x:qi) (A:Option Addr) (n c:Nat) (t:List Int) (w:World) (h:qf.rd w cs x) (i:RdL RI w A n t) (N:Nat) (a:∀o∈x.2,OpP N o) (r:x.2.length<=4):
  Calls Tryz.prog 199 #[.agg cs.toArray,.slice A n c] w (Bl w (.bool (q2e x.2 t))):=by
 have C:=i.le;have g:=zaa i.len;have f:=h;obtain⟨B,m,d,rfl,-,D⟩:=qv h;obtain⟨E,j,k,s,u⟩:=q15 w #[.int .i64 x.1,.slice B m d] 24;have b:=zaa j;replace f:=qf.stab f k.block;replace i:=i.next qd k;obtain⟨p,q⟩:=cl2 u;rw[b.out]at p q;clear j D
 by_cases h60:n<=60
 .have y:(n:Int)<=60:=by omega
  have v:=zaa (qkj _ x A n c t 0 E f i N a r h60 (by omega));have l:Hid (q2e x.2 t=decide (endI x.2 t 0=(n:Int))):=by
   show _=_
   unfold q2e;rw[g.out,zbh h60];rfl
  clear a r
  go_enter Tryz.func199,Tryz.ntmps199
  go_wp2_with fail;rw[<-b.out];refine v.out.mono ?_;rintro e F ⟨rfl,z⟩;go_wp2_with fail;go_ret;exact⟨qg (by rw[l.out,zcc];simp),q9 k z rfl⟩
 .have y:¬(n:Int)<=60:=by omega
  have l:Hid (q2e x.2 t=false):=by show _=_;unfold q2e;rw[g.out,zbi h60];rfl
  clear a r
  go_enter Tryz.func199,Tryz.ntmps199
  go_wp2_with fail;go_ret;exact⟨qg l.out.symm,by first|exact qm _ _|(rw[<-b.out];exact k)⟩
theorem qla (cs:List Value) (x:qi) (A:Option Addr) (n c:Nat) (t:List Int) (I:Nat) (w:World) (h:qf.rd w cs x) (ht:RdL RI w A n t) (N:Nat) (E:∀o∈x.2,OpP N o) (hl:x.2.length<=4) (hn:n<=60) (ha:I<=n):
  Calls Tryz.prog 195 #[.agg cs.toArray,.slice A n c,.int .i64 I] w (Bl w (.int .i64 (endI x.2 t I))):=by
 obtain⟨a,i⟩:=x;obtain⟨B,m,d,rfl,-,qo⟩:=qv h;have L:=qo.len;have hm4:m<=4:=by simp only at hl L;omega
 have HLN:=zaa ht.len;obtain⟨w0,W,l,hsz0,BP⟩:=q15 w #[.int .i64 a,.slice B m d] 24;have HW0:=zaa W;replace qo:=qo.next l;replace ht:=ht.next qd l;have X:=zaa L;have C:=zaa E;clear W E L hl h
 go_enter Tryz.func195,Tryz.ntmps195
 go_wp2_with fail;rw[<-HW0.out]
 go_loopw [7,8] (fun q p wr=>∃k f:Nat,k<=n/\p=.int .i64 k/\q=.int .i64 f/\0<f/\Hid (EnI i t I k f)/\Below w0.heap.size w0 wr) (fun _ p _=>n - (intOf p).toNat)
 case atStart=>exact⟨I,1,ha,rfl,rfl,Nat.one_pos,EnI.start _ _ _,zac _ _⟩
 case round=>
  obtain⟨k,f,hk,rfl,rfl,R,P,g⟩:=hrel;have q':=qo.next g;have hneed:f<=1000:=by have:=P.out.2.2;omega
  have cP:=(BP.next g).cell 1;simp at cP
  by_cases hlt:k<n
  .have hk0:(0:Int)<=(k:Int):=by omega
   have hk1:(k:Int)<(n:Int):=by omega
   obtain⟨b,o,u,v,rfl,hc,⟨rfl,hv0,hv1⟩,-,hx⟩:=(ht.next qd g).at hlt;have Y:=zaa hx;clear hx
   by_cases hv:0<=v
   .have hvn:¬v<0:=by omega
    by_cases h6:6<=v
    .have s:Hid (badV i v=true):=by show _=_;unfold badV;rw[zbh h6];rfl
     go_wp2_with fail;go_ret;exact⟨q11 (P.out.bad R Y.out s.out).symm,(by first|exact q9 l g rfl|exact qc (q9 l g rfl) _|exact qc (qc (q9 l g rfl) _) _|exact qc (qc (qc (q9 l g rfl) _) _) _)⟩
    .have z:¬v< -(m:Int):=by omega
     have s:Hid (badV i v=false):=by show _=_;unfold badV;rw[X.out,zbi z,zbi h6];rfl
     have G:Hid (EnI i t I (k+1) (f - 1)):=by
      have e:adV i v=0:=by unfold adV;rw[zam hv]
      have:=P.out.next R Y.out s.out (by omega);rw[e]at this;exact this
     obtain⟨r,H⟩:∃r,Hid (f=r+1):=⟨f - 1,by show _=_;omega⟩;have M:=H.out;subst M
     rcases zdb r with rfl|Z
     .have e0:(((0+1:Nat):Int) - 1==0)=true:=by rfl
      go_wp2_with fail;go_ret;exact⟨q11 (by have:=G.out.done;rw[this];omega),(by first|exact q9 l g rfl|exact qc (q9 l g rfl) _|exact qc (qc (q9 l g rfl) _) _|exact qc (qc (qc (q9 l g rfl) _) _) _)⟩
     .have e0:(((r+1:Nat):Int) - 1==0)=false:=by rw[zbj];omega
      go_wp2_with fail
      go_roundw
      case rel=>exact⟨k+1,r,by omega,by go_num,by go_num,Z,G,(by first|exact g|exact qc (g) _|exact qc (qc (g) _) _|exact qc (qc (qc (g) _) _) _)⟩
      case measure=>simp[intOf];omega
   .have hvn:v<0:=by omega
    by_cases z:v< -(m:Int)
    .have s:Hid (badV i v=true):=by show _=_;unfold badV;rw[X.out,zbh z,Bool.or_true]
     have F:Hid (inB v (-(m:Int)) (-1)=false):=by show _=_;unfold inB;rw[zbi (by omega)];rfl
     go_wp2_with fail
     go_quiet ((go_at_call 68;first|exact q1o (q36 F.out)|exact q1f (q36 F.out)))
     go_wp2_with fail;go_ret;exact⟨q11 (P.out.bad R Y.out s.out).symm,(by first|exact q9 l g rfl|exact qc (q9 l g rfl) _|exact qc (qc (q9 l g rfl) _) _|exact qc (qc (qc (q9 l g rfl) _) _) _)⟩
    .have h6:¬ 6<=v:=by omega
     have s:Hid (badV i v=false):=by show _=_;unfold badV;rw[X.out,zbi z,zbi h6];rfl
     have F:Hid (inB v (-(m:Int)) (-1)=true):=by show _=_;unfold inB;rw[zbh (by omega),zbh (by omega)];rfl
     obtain⟨ob,O,D,S,-,K⟩:=qjm C.out s.out hv;have h3:=qp5 C.out s.out;have e:adV i v=arF i v:=by unfold adV;rw[zaj hv]
     rw[e]at h3;have G:=zaa (P.out.next R Y.out s.out (by omega));rw[e]at G;obtain⟨J,tb,rfl,har⟩:=q89 D;have T:arF i v=J:=by rw[S];simp
     rw[T]at G;obtain⟨j,hj⟩:∃j,j=(-1 - v).toNat:=⟨_,rfl⟩;rw[<-hj]at O K;have hjm:j<m:=by rw[<-X.out];exact K
     obtain⟨b2,o2,vs,y,rfl,-,U,V,-,hy⟩:=q'.at hjm;rw[O]at hy;injection hy with hy
     subst hy;obtain⟨B',m',d',rfl,-,qt⟩:=rdOp V;have cc0:wr.cell? ⟨b2,o2+j*2,none⟩=some (.int .i64 (J:Int)):=U 0 _ rfl;have ej:(-1:Int) - v=(j:Int):=by omega
     have hj0:(0:Int)<=(j:Int):=by omega
     have hj1:(j:Int)<(m:Int):=by omega
     obtain⟨r,H⟩:∃r,Hid (f=r+1):=⟨f - 1,by show _=_;omega⟩;have M:=H.out;subst M;have Q:Hid (EnI i t I (k+1) (r+J)):=by have:=G.out;rwa [zf8]at this
     clear U V O K hj e S T D qt q' G
     rcases zdb (r+J)with Z|Z
     .obtain⟨rfl,rfl⟩:r=0/\J=0:=by omega
      go_wp2_with fail
      go_quiet ((go_at_call 68;first|exact q1o (q36 F.out)|exact q1f (q36 F.out)))
      go_wp2_with fail
      go_quiet (fail)
      go_wp2_with fail;go_ret;exact⟨q11 (by have:=Q.out.done;rw[this];omega),(by first|exact q9 l g rfl|exact qc (q9 l g rfl) _|exact qc (qc (q9 l g rfl) _) _|exact qc (qc (qc (q9 l g rfl) _) _) _)⟩
     .have e0:(((r+1:Nat):Int) - 1+(J:Int)==0)=false:=by rw[zbj];omega
      go_wp2_with fail
      go_quiet ((go_at_call 68;first|exact q1o (q36 F.out)|exact q1f (q36 F.out)))
      go_wp2_with fail
      go_quiet (fail)
      go_wp2_with fail
      go_roundw
      case rel=>exact⟨k+1,r+J,by omega,by go_num,by go_num,Z,Q,(by first|exact g|exact qc (g) _|exact qc (qc (g) _) _|exact qc (qc (qc (g) _) _) _)⟩
      case measure=>simp[intOf];omega
  .have hk2:¬(k:Int)<(n:Int):=by omega
   go_wp2_with fail;go_ret;exact⟨q11 (P.out.over R (by rw[HLN.out];exact hlt)).symm,q9 l g rfl⟩
theorem qbr (cs:List Value) (x:qi) (A:Option Addr) (n c:Nat) (t:List Int) (w:World) (h:qf.rd w cs x) (k:RdL RI w A n t) (N:Nat) (a:∀o∈x.2,OpP N o) (p:x.2.length<=4):
  Calls Tryz.prog 157 #[.agg cs.toArray,.slice A n c] w (Bl w (.bool (q2e x.2 t))):=by
 have C:=k.le;have f:=zaa k.len;have g:=h;obtain⟨B,m,d,rfl,-,E⟩:=qv h;obtain⟨F,l,j,s,u⟩:=q15 w #[.int .i64 x.1,.slice B m d] 24;have b:=zaa l;replace g:=qf.stab g j.block;replace k:=k.next qd j;obtain⟨q,r⟩:=cl2 u;rw[b.out]at q r;clear l E
 rcases zdb n with rfl|G
 .have i:Hid (q2e x.2 t=false):=by
   rcases e:q2e x.2 t with _|_
   .rfl
   .have:=qdh e;have:=f.out;omega
  clear a p
  go_enter Tryz.func157,Tryz.ntmps157
  go_wp2_with fail;go_ret;exact⟨qg i.out.symm,by first|exact qm _ _|(rw[<-b.out];exact j)⟩
 have D:(0:Int)<(n:Int):=by omega
 by_cases h60:n<=60
 .have y:(n:Int)<=60:=by omega
  have v:=zaa (qla _ x A n c t 0 F g k N a p h60 (by omega));have i:Hid (q2e x.2 t=decide (endI x.2 t 0=(n:Int))):=by
   show _=_
   unfold q2e;rw[f.out,zbh h60];rfl
  clear a p
  go_enter Tryz.func157,Tryz.ntmps157
  go_wp2_with fail;rw[<-b.out];refine v.out.mono ?_;rintro e H ⟨rfl,z⟩;go_wp2_with fail;go_ret;exact⟨qg (by rw[i.out,zcc];simp),q9 j z rfl⟩
 .have y:¬(n:Int)<=60:=by omega
  have i:Hid (q2e x.2 t=false):=by show _=_;unfold q2e;rw[f.out,zbi h60];rfl
  clear a p
  go_enter Tryz.func157,Tryz.ntmps157
  go_wp2_with fail;go_ret;exact⟨qg i.out.symm,by first|exact qm _ _|(rw[<-b.out];exact j)⟩
theorem qkl {N:Nat} {ops:List OpM} {vals:List Int}:∀l:List Int,(evS N ops vals l).length<=l.length
 | []=>zad _
 | v :: l => by
   have ih := qkl (N := N) (ops := ops) (vals := vals) l;unfold evS
   split
   . simp only [za0]; omega
   . simp only [za0, zct]; omega
theorem qrh {N:Nat} {ops:List OpM} {vals t:List Int} (B:0<N) (c:∀o∈ops,OpP N o) (f:∀y∈vals,0<=y/\y<=(N:Int) - 1) (G:q2e ops t=true) (b:∀v∈t,v<(vals.length:Int)) {k:Nat} {v:Int} (z:t[k]?=some v):
  (0<=v->∃y:Nat,vals[v.toNat]?=some (y:Int)/\y<N/\evS N ops vals (t.drop k)=y::evS N ops vals (t.drop (k+1)))/\
  (¬ 0<=v->∃(ar:Nat) (tb:List Int) (u:Nat),ops[(-1 - v).toNat]?=some ((ar:Int),tb)/\(-1 - v).toNat<ops.length/\ar<=3/\ar<=(evS N ops vals (t.drop (k+1))).length/\(∀d∈evS N ops vals (t.drop (k+1)),d<N)/\tb[idx N ((evS N ops vals (t.drop (k+1))).take ar)]?=some (u:Int)/\u<N/\evS N ops vals (t.drop k)=u::(evS N ops vals (t.drop (k+1))).drop ar):=by
 have I:=(zag.1 z).1;have e:t.drop k=v::t.drop (k+1):=by rw[zbq I,(zag.1 z).2]
 obtain⟨m,r⟩:=GoodS.drop k (show GoodS ops t 1 from(q28 G).2);rw[e]at r⊢;obtain⟨M,H,E⟩:=r.cons;have g:=qhg B c f E fun x K=>b x (zdt K)
 refine⟨fun h=>?_,fun h=>?_⟩
 .have p:v.toNat<vals.length:=by have:=b v (zaf z);omega
  have L:=f _ (zce p);obtain⟨y,A⟩:=zan L.1;have j:vals[v.toNat]?=some (y:Int):=by rw[zae p,A]
  exact⟨y,j,by omega,qq4 h j⟩
 .obtain⟨o,J,i,C,s,p⟩:=qjm c H h
  obtain⟨ar,tb,rfl,F⟩:=q89 i;have q:arF ops v=ar:=by rw[C];simp
  have a:=(r.room (n:=N) (vals:=vals)).2 h;rw[q]at a;obtain⟨u,D,w⟩:=qpt B i (l:=(evS N ops vals (t.drop (k+1))).take ar) (by rw[za9];simp;omega) fun d hd=>g d (zbt hd)
  refine⟨ar,tb,u,J,p,F,a,g,D,w,?_⟩;have:=qrg (n:=N) (vals:=vals) (l:=t.drop (k+1)) (o:=((ar:Int),tb)) (x:=u) h C s (by simpa using D)
  simpa using this
theorem qik {α:Type} (S:List α) (a:Nat):S.reverse.take (S.length - a)=(S.drop a).reverse:=by
 rw[List.take_reverse]
 congr 1
 by_cases h:a<=S.length
 .congr 1;omega
 .rw[zbk (show S.length<=a by omega),zbk (by omega)]
theorem qme {S:List Nat} {q d:Nat} (h:S[q]?=some d):(ints (nats S.reverse))[S.length - 1 - q]?=some (.int .i64 (d:Int)):=by
 have a:=(zag.1 h).1;unfold ints nats;rw[za2,za2,List.getElem?_reverse (by omega),show S.length - 1 - (S.length - 1 - q)=q by omega,h];rfl
theorem q71 (a b:List Nat):nats (a++b)=nats a++nats b:=by simp[nats]
theorem q3c (a b:List Int):ints (a++b)=ints a++ints b:=by simp[ints]
theorem qe5 (a:List Int) (k:Nat):(ints a).take k=ints (a.take k):=by simp[ints,List.map_take]
theorem qep (a:List Nat) (k:Nat):(nats a).take k=nats (a.take k):=by simp[nats,List.map_take]
theorem qpd {N:Nat} (a:N<=8) {l:List Nat} (b:l.length<=3) (hd:∀d∈l,d<N):idx N l<=4096:=by
 have:=qaa a (l:=l) (by omega) hd;omega
theorem q9j (cs:List Value) (x:qi) (A B0:Option Addr) (n c m0 c0:Nat) (t vals:List Int) (w:World) (h:qf.rd w cs x) (hx:AlgP x) (ht:RdL RI w A n t) (hv:RdL RI w B0 m0 vals) (hT:q2e x.2 t=true) (K:∀v∈t,v<(vals.length:Int)) (ab:∀y∈vals,0<=y/\y<=x.1 - 1):
  Calls Tryz.prog 175 #[.agg cs.toArray,.slice A n c,.slice B0 m0 c0] w (Bl w (.int .i64 ((evT x.1.toNat x.2 vals t:Nat):Int))):=by
 obtain⟨a,ops⟩:=x;obtain⟨hx1,hx2,hx3,Q⟩:=hx;simp only at hx1 hx2 hx3 Q hT ab;obtain⟨N,rfl⟩:=zan (show 0<=a by omega);rw[za5]at Q;show Calls Tryz.prog 175 _ w (Bl w (.int .i64 ((evT (Int.toNat (N:Int)) ops vals t:Nat):Int)))
 rw[za5];have hN0:0<N:=by omega
 have hN8:N<=8:=by omega
 obtain⟨B,m,d,rfl,-,qo⟩:=qv h;have ae:=qo.len;simp only at ae;have hn60:n<=60:=by have:=(q28 hT).1;have:=ht.len;omega
 have hn0:0<n:=by have:=qdh hT;have:=ht.len;omega
 have HAT:Hid (∀k v,t[k]?=some v->_):=fun k v hv=>qrh hN0 Q ab hT K hv
 have HE1:Hid (∀k,(evS N ops vals (t.drop k)).length<=60):=fun k=>by have:=qkl (N:=N) (ops:=ops) (vals:=vals) (t.drop k);rw[zct]at this;have:=ht.len;omega
 have X:Hid (evS N ops vals (t.drop n)= []):=by show _=_;rw[zbk (by rw[ht.len];exact zad _)];rfl
 have HE0:Hid ((evS N ops vals (t.drop 0)).length=1):=qa4 (show GoodS ops t 1 from(q28 hT).2);have V:Hid (evT N ops vals t=(evS N ops vals (t.drop 0)).headD 0):=rfl;obtain⟨E,hE⟩:∃E:Nat->List Nat,(fun k=>evS N ops vals (t.drop k))=E:=⟨_,rfl⟩;have hE':∀k,evS N ops vals (t.drop k)=E k:=fun k=>congrFun hE k
 simp only[hE']at HAT HE1 X HE0 V;have HML:=zaa ae;clear hE hE' Q ab hT K hx3 ae h;obtain⟨I,hw0,T0,hsz0,BP⟩:=q15 w #[.int .i64 (N:Int),.slice B m d] 24;have HW0:=zaa hw0;replace qo:=qo.next T0;replace ht:=ht.next qd T0;replace hv:=hv.next qd T0;clear hw0 hsz0
 go_enter Tryz.func175,Tryz.ntmps175
 obtain⟨ii,hi,hz0,hz1,hz2⟩:=info_parts q14;go_upto_region 1 with fail;rw[<-HW0.out]
 go_wp2_with (at_make;refine wpList_make_own I rfl _ _ 43 rfl I.heap.size 3 ii (.int .i64 0) 1 za1 hi hz0 hz1 .i64 .i64 n n rfl rfl rfl (by rw[hz2];omega) (by unfold maxLen;omega) (zad _) ?_;intro L f hg1)
 have hb1:=(zac I.heap.size I).grown hg1 (zad _) (by simp);clear hg1 hi hz0 hz1 hz2
 go_loopw [7,8] (fun s i wr=>∃(k q:Nat) (A1:Option Addr) (Y:Nat),k<=n/\i=.int .i64 ((k:Int) - 1)/\s=.slice A1 q Y/\q=(E k).length/\wr.ownsRow I.heap.size 3 1 (.slice A1 q Y) q (ints (nats (E k).reverse))/\Below I.heap.size I wr) (fun _ i _=>(intOf i+1).toNat)
 case atStart=>
  refine⟨n,0,_,_,zad _,rfl,rfl,?_,?_,hb1⟩
  .rw[X.out];rfl
  .rw[X.out];exact f
 case round=>
  clear f hb1;obtain⟨k,q,A1,Y,hk,rfl,rfl,hq,l,C⟩:=hrel;have hq60:q<=60:=by rw[hq];exact HE1.out k
  have HQ:=zaa hq;clear hq;have Z:=(BP.next C).cell 0;have cP1:=(BP.next C).cell 1;simp at Z cP1;have hzr:=C.size
  rcases k with _|k
  .skip
   obtain⟨u,hu⟩:∃u,E 0= [u]:=by
    have:=HE0.out
    rcases e:E 0 with _|⟨u,_|⟨_,_⟩⟩
    .rw[e]at this;simp at this
    .exact⟨u,rfl⟩
    .rw[e]at this;simp at this
   have hq1:q=1:=by rw[HQ.out,hu];rfl
   subst hq1;obtain⟨g,rfl,-,-⟩:=q2o l (by omega);have hc0:wr.cell? ⟨g,0,none⟩=some (.int .i64 (u:Int)):=by
    rw[l.cellAt 0 (by omega),hu];rfl
   have HR2:Hid (evT N ops vals t=u):=by show _=_;rw[V.out,hu];rfl
   clear l hu;go_wp2_with fail;go_ret;exact⟨q11 (by rw[HR2.out]),q9 T0 C rfl⟩
  .skip
   have e1:((k+1:Nat):Int) - 1=(k:Int):=by omega
   rw[e1];clear e1;have hk0:(0:Int)<=(k:Int):=by omega
   have hk1:(k:Int)<(n:Int):=by omega
   obtain⟨b,o,uu,v,rfl,hc,⟨rfl,hv0,hv1⟩,-,hxv⟩:=(ht.next qd C).at (k:=k) (by omega);obtain⟨hA,hB⟩:=HAT.out k v hxv;clear hxv
   by_cases h0v:0<=v
   .obtain⟨y,R,hyN,he⟩:=hA h0v
    obtain⟨j,rfl⟩:=zan h0v;rw[za5]at R;have ad:j<m0:=by rw[<-hv.len];exact(zag.1 R).1
    obtain⟨b2,o2,u2,y2,rfl,O,⟨rfl,-,-⟩,-,T⟩:=(hv.next qd C).at ad;rw[R]at T;injection T with T
    subst T;have hj1:(j:Int)<(m0:Int):=by omega
    have hj0:(0:Int)<=(j:Int):=by omega
    have J:Hid (E k=y::E (k+1)):=he;clear he hA hB R
    go_wp2_with (at_builtin;refine app1 wr rfl _ _ 43 3 rfl (.int .i64 0) 8 za1 q14 rfl (by decide) I.heap.size q Y A1 _ rfl l (.int .i64 (y:Int)) rfl rfl (by omega) (by omega) ?_;intro A2 c2 w2 ag hg2 hb2)
    go_roundw
    case rel=>exact⟨k,q+1,A2,c2,by omega,by go_num,rfl,by rw[J.out,za0,<-HQ.out],by rw[J.out,List.reverse_cons,q71,q3c];exact ag,C.trans hb2⟩
    case measure=>simp[intOf];try omega
   .obtain⟨W,tb,u,af,ac,h3,G,aa,D,huN,he⟩:=hB (by omega)
    clear hA hB;obtain⟨j,hj⟩:∃j,j=(-1 - v).toNat:=⟨_,rfl⟩;rw[<-hj]at af ac;have ad:j<m:=by rw[<-HML.out];exact ac
    obtain⟨b2,o2,vs,y,rfl,-,O,hr2,-,R⟩:=(qo.next C).at ad;rw[af]at R;injection R with R
    subst R;obtain⟨B',m',d',rfl,-,qt⟩:=rdOp hr2;have cc0:wr.cell? ⟨b2,o2+j*2,none⟩=some (.int .i64 (W:Int)):=O 0 _ rfl;have cc1:wr.cell? ⟨b2,o2+j*2+1,none⟩=some (.slice B' m' d'):=O 1 _ rfl;have ej:(-1:Int) - v=(j:Int):=by omega
    have hj0:(0:Int)<=(j:Int):=by omega
    have hj1:(j:Int)<(m:Int):=by omega
    obtain⟨S,HS⟩:∃S,Hid (E (k+1)=S):=⟨_,rfl⟩;rw[HS.out]at G aa D he l;have J:=zaa he;have H:Hid (q=S.length):=by show _=_;rw[HQ.out,HS.out]
    have har:W<=q:=by rw[H.out];exact G
    have HDL:=zaa aa;have HTU:=zaa D;obtain⟨L,hw1,T1,hsz1,BX⟩:=q15 wr #[.int .i64 (W:Int),.slice B' m' d'] 122;have HW1:=zaa hw1;have f:=qp l T1;have Z:=((BP.next C).next T1).cell 0;have BX0:=BX.cell 0;have BX1:=BX.cell 1;simp at Z BX0 BX1;have qt1:=qt.next qd T1;have hT1:=q9 C T1 rfl;have hz1:wr.heap.size<L.heap.size:=by omega
    have hz2:wr.heap.size≠L.heap.size:=by omega
    clear af ac hj hr2 O qt G aa D he hw1 l HQ hsz1;go_wp2_with fail;rw[<-HW1.out]
    go_loopw [11,12] (fun at_ kk wi=>∃p:Nat,p<=W/\kk=.int .i64 p/\at_=.int .i64 ((idx N (S.take p):Nat):Int)/\Drawn L wi) (fun _ kk _=>W - (intOf kk).toNat)
    case atStart=>exact⟨0,zah _,rfl,rfl,Drawn.zero _⟩
    case round=>
     obtain⟨p,hp,rfl,rfl,z,rfl⟩:=hrel;obtain⟨P,HP⟩:∃P,Hid (idx N (S.take p)=P):=⟨_,rfl⟩;have hP:P<=4096:=by rw[<-HP.out];exact qpd hN8 (by rw[za9];omega) fun d hd=>HDL.out d (zbt hd)
     rw[HP.out]
     by_cases hlt:p<W
     .have hpl:p<S.length:=by have:=H.out;omega
      have M:S[p]?=some S[p]:=zae hpl;have hdN:=HDL.out _ (zce hpl)
      generalize S[p]=d at M hdN
      have HT:Hid (idx N (S.take (p+1))=P*N+d):=by show _=_;rw[q9l M,HP.out]
      have hM:P*N<=4096*8:=zci hP hN8;have HEE:Hid ((P:Int)*(N:Int)=((P*N:Nat):Int)):=(zbw _ _).symm;obtain⟨g,rfl,-,-⟩:=q2o f (by omega);obtain⟨r,hr⟩:∃r,r=q - 1 - p:=⟨_,rfl⟩;have hcr:L.cell? ⟨g,r,none⟩=some (.int .i64 (d:Int)):=by
       rw[f.cellAt r (by omega),hr,H.out];exact qme M
      have er:(q:Int) - 1 - (p:Int)=(r:Int):=by omega
      have hr0:(0:Int)<=(r:Int):=by omega
      have hr1:(r:Int)<(q:Int):=by omega
      have hp1:(p:Int)<(W:Int):=by omega
      have hw1:IntKind.i64.wrap ((P:Int)*(N:Int))=(P:Int)*(N:Int):=by rw[zdg];omega
      have hw2:IntKind.i64.wrap ((P:Int)*(N:Int)+(d:Int))=(P:Int)*(N:Int)+(d:Int):=by rw[zdg];omega
      have hws1:IntKind.i64.wrap ((q:Int) - 1)=(q:Int) - 1:=by rw[zdg];omega
      have hws2:IntKind.i64.wrap (r:Int)=(r:Int):=by rw[zdg];omega
      clear hM M hr;go_wp2_with fail
      go_quiet (fail)
      go_wp2_with fail
      go_roundw
      case rel=>exact⟨p+1,by omega,by go_num,by rw[HT.out,HEE.out];simp,(by first|exact Drawn.zero _|exact Drawn.at_ _ _|exact(Drawn.at_ _ _).more _|exact((Drawn.at_ _ _).more _).more _)⟩
      case measure=>simp[intOf];try omega
     .obtain rfl:p=W:=by omega
      have hp1:¬(p:Int)<(p:Int):=by omega
      have D:=HTU.out;rw[HP.out]at D;have hPm:P<m':=by rw[<-qt1.len];exact(zag.1 D).1
      obtain⟨b3,o3,u3,y3,rfl,hc3,⟨rfl,-,-⟩,-,U⟩:=qt1.at hPm;rw[D]at U;injection U with U
      subst U;have hP0:(0:Int)<=(P:Int):=by omega
      have hP1:(P:Int)<(m':Int):=by omega
      obtain⟨s,hs⟩:∃s,s=q - p:=⟨_,rfl⟩;have F:=qi1 f (k:=s) (by omega);rw[qe5,qep,show s=S.length - p by rw[hs,H.out],qik,<-show s=S.length - p by rw[hs,H.out]]at F;have hqc:=qda f;have es:(q:Int) - (p:Int)=(s:Int):=by omega
      have hs0:(0:Int)<=(s:Int):=by omega
      have hs1:(s:Int)<=(Y:Int):=by omega
      have hs2:(s:Int)<=(q:Int):=by omega
      have hs60:s<=60:=by omega
      have HSL:Hid (s+1=(E k).length):=by show _=_;rw[J.out,za0,zct,hs,H.out]
      have ai:((L.drewN z).drew).ownsRow I.heap.size 3 1 (.slice A1 s Y) s (ints (nats (S.drop p).reverse)):=F;have hzz:I.heap.size<=((L.drewN z).drew).heap.size:=hT1.size;have hws2:IntKind.i64.wrap (s:Int)=(s:Int):=by rw[zdg];omega
      have cA:((L.drewN (z+1)).alloc (.cells #[.int .i64 (u:Int)] 3)).cell? ⟨wr.heap.size,0,none⟩=some (.int .i64 (p:Int)):=qe (w:=L.drewN (z+1)) (qm _ _) BX0;clear hs F D HP;go_wp2_with fail
      go_region_law (first
       |(refine qmm ((L.drewN z).drew) rfl (.tmp 67) (.tmp 73) 43 3 rfl (.int .i64 0) 8 za1 q14 rfl (by decide) I.heap.size s Y A1 (ints (nats (S.drop p).reverse)) (by rfl) ai (.int .i64 (u:Int)) rfl (by rfl) (by omega) (by exact hzz) ?_;intro A5 c5 w5 ah hg5 hb5;have T5:Below I.heap.size I w5:=(hT1.trans (qc (zac _ _) z)).trans ((zai (zac _ _)).trans hb5)))
      all_goals
       go_wp2_with fail
       go_roundw
       case rel=>exact⟨k,s+1,A5,c5,by omega,by go_num,rfl,HSL.out,by rw[J.out,List.reverse_cons,q71,q3c];exact ah,T5⟩
       case measure=>simp[intOf];try omega
theorem q7k (cs:List Value) (x:qi) (A:Option Addr) (n c j N ar u:Nat) (l:List Nat) (X:List Int) (w:World) (h:qf.rd w cs x) (E:x.1=(N:Int)) (k:N<=8) (I:RdL RI w A n (nats l)) (hd:∀d∈l,d<N) (hn:n<=3) (f:x.2[j]?=some ((ar:Int),X)) (S:X[idx N l]?=some (u:Int)):
  Calls Tryz.prog 196 #[.agg cs.toArray,.int .i64 j,.slice A n c] w (Bl w (.int .i64 (u:Int))):=by
 obtain⟨a,ops⟩:=x;simp only at E f;subst E;obtain⟨B,m,d,rfl,-,G⟩:=qv h;have K:Hid (l.length=n):=by show _=_;rw[<-I.len,q72]
 have i:=zaa hd;have Q:j<m:=by rw[<-G.len];exact(zag.1 f).1
 obtain⟨Y,D,g,C,BP⟩:=q15 w #[.int .i64 (N:Int),.slice B m d] 24;have M:=zaa D;replace G:=G.next g;replace I:=I.next qd g;obtain⟨b2,o2,vs,y,rfl,-,s,t,-,F⟩:=G.at Q;simp only at F;rw[f]at F;injection F with F
 subst F;obtain⟨Z,U,d',rfl,-,V⟩:=rdOp t;have cc1:Y.cell? ⟨b2,o2+j*2+1,none⟩=some (.slice Z U d'):=s 1 _ rfl;have hj0:(0:Int)<=(j:Int):=by omega
 have hj1:(j:Int)<(m:Int):=by omega
 have r:idx N l<U:=by rw[<-V.len];exact(zag.1 S).1
 obtain⟨b3,o3,u3,y3,rfl,O,⟨rfl,-,-⟩,-,e⟩:=V.at r;simp only at e;rw[S]at e;injection e with e
 subst e;obtain⟨cP0,cP1⟩:=cl2 BP;clear D C hd f S t s V G h
 go_enter Tryz.func196,Tryz.ntmps196
 go_wp2_with fail;rw[<-M.out]
 go_loopw [7,8] (fun at_ T wi=>∃p:Nat,p<=n/\T=.int .i64 p/\at_=.int .i64 ((idx N (l.take p):Nat):Int)/\Drawn Y wi) (fun _ T _=>n - (intOf T).toNat)
 case atStart=>exact⟨0,zah _,rfl,rfl,Drawn.zero _⟩
 case round=>
  obtain⟨p,hp,rfl,rfl,z,rfl⟩:=hrel;obtain⟨P,H⟩:∃P,Hid (idx N (l.take p)=P):=⟨_,rfl⟩;have hP:P<=4096:=by rw[<-H.out];exact qpd k (by rw[za9];omega) fun d hd=>i.out d (zbt hd)
  rw[H.out]
  by_cases hlt:p<n
  .skip
   obtain⟨b,o,v,q,rfl,hc,⟨rfl,-,-⟩,-,W⟩:=I.at hlt;obtain⟨d,hd,rfl⟩:=qhv W;have hdN:=i.out d (zaf hd);have HT:Hid (idx N (l.take (p+1))=P*N+d):=by show _=_;rw[q9l hd,H.out]
   have hM:P*N<=4096*8:=zci hP k;have J:Hid ((P:Int)*(N:Int)=((P*N:Nat):Int)):=(zbw _ _).symm;have R:(p:Int)<(n:Int):=by omega
   have hp0:(0:Int)<=(p:Int):=by omega
   have hw1:IntKind.i64.wrap ((P:Int)*(N:Int))=(P:Int)*(N:Int):=by rw[zdg];omega
   have hw2:IntKind.i64.wrap ((P:Int)*(N:Int)+(d:Int))=(P:Int)*(N:Int)+(d:Int):=by rw[zdg];omega
   clear hM W hd;go_wp2_with fail
   go_quiet (fail)
   go_wp2_with fail
   go_roundw
   case rel=>exact⟨p+1,by omega,by go_num,by rw[HT.out,J.out];simp,(by first|exact Drawn.zero _|exact Drawn.at_ _ _|exact(Drawn.at_ _ _).more _|exact((Drawn.at_ _ _).more _).more _)⟩
   case measure=>simp[intOf];try omega
  .obtain rfl:p=n:=by omega
   have R:¬(p:Int)<(p:Int):=by omega
   have L:Hid (idx N l=P):=by
    show _=_
    rw[<-H.out,zar (by rw[K.out];exact zad _)]
   rw[L.out]at O r;have hP0:(0:Int)<=(P:Int):=by omega
   have hP1:(P:Int)<(U:Int):=by omega
   go_wp2_with fail;go_ret;exact⟨rfl,(by first|exact g|exact qc (g) _|exact qc (qc (g) _) _|exact qc (qc (qc (g) _) _) _)⟩
theorem q5v (cs:List Value) (x:qi) (A B0:Option Addr) (n c m0 c0:Nat) (t vals:List Int) (w:World) (h:qf.rd w cs x) (hx:AlgP x) (ht:RdL RI w A n t) (W:RdL RI w B0 m0 vals) (hT:q2e x.2 t=true) (V:∀v∈t,v<(vals.length:Int)) (hin:∀y∈vals,0<=y/\y<=x.1 - 1):
  Calls Tryz.prog 160 #[.agg cs.toArray,.slice A n c,.slice B0 m0 c0] w (Bl w (.int .i64 ((evT x.1.toNat x.2 vals t:Nat):Int))):=by
 obtain⟨a,ops⟩:=x;obtain⟨hx1,hx2,hx3,ad⟩:=hx;simp only at hx1 hx2 hx3 ad hT hin;obtain⟨N,rfl⟩:=zan (show 0<=a by omega);rw[za5]at ad;show Calls Tryz.prog 160 _ w (Bl w (.int .i64 ((evT (Int.toNat (N:Int)) ops vals t:Nat):Int)))
 rw[za5];have hN0:0<N:=by omega
 have hN8:N<=8:=by omega
 have hrd:=h;obtain⟨B,m,d,rfl,-,qo⟩:=qv h;have hml:=qo.len;simp only at hml;have hn60:n<=60:=by have:=(q28 hT).1;have:=ht.len;omega
 have hn0:0<n:=by have:=qdh hT;have:=ht.len;omega
 have HAT:Hid (∀k v,t[k]?=some v->_):=fun k v W=>qrh hN0 ad hin hT V W
 have HE1:Hid (∀k,(evS N ops vals (t.drop k)).length<=60):=fun k=>by have:=qkl (N:=N) (ops:=ops) (vals:=vals) (t.drop k);rw[zct]at this;have:=ht.len;omega
 have HEN:Hid (evS N ops vals (t.drop n)= []):=by show _=_;rw[zbk (by rw[ht.len];exact zad _)];rfl
 have HE0:Hid ((evS N ops vals (t.drop 0)).length=1):=qa4 (show GoodS ops t 1 from(q28 hT).2);have HRES:Hid (evT N ops vals t=(evS N ops vals (t.drop 0)).headD 0):=rfl;obtain⟨E,hE⟩:∃E:Nat->List Nat,(fun k=>evS N ops vals (t.drop k))=E:=⟨_,rfl⟩;have hE':∀k,evS N ops vals (t.drop k)=E k:=fun k=>congrFun hE k
 simp only[hE']at HAT HE1 HEN HE0 HRES;have HML:=zaa hml;clear hE hE' ad hin hT V hx3 hml h;obtain⟨H,hw0,T0,hsz0,BP⟩:=q15 w #[.int .i64 (N:Int),.slice B m d] 24;have HW0:=zaa hw0;replace qo:=qo.next T0;replace ht:=ht.next qd T0;replace W:=W.next qd T0;have HRD:Hid (∀I,Below H.heap.size H I->qf.rd I [.int .i64 (N:Int),.slice B m d] ((N:Int),ops)):=fun I X=>qf.stab (qf.stab hrd T0.block) X.block
 have hb1:=qm H (.cells #[] 3);have Q:(H.alloc (.cells #[] 3)).ownsRow H.heap.size 3 1 (.slice (some ⟨H.heap.size,0,none⟩) 0 0) 0 []:=zb7 H #[] 0 (zad _) (zah _) rfl;clear hw0 hsz0 hrd
 go_enter Tryz.func160,Tryz.ntmps160
 go_upto_region 1 with fail;rw[<-HW0.out];go_wp2_with fail
 go_loopw [7,8] (fun s i wr=>∃(k q:Nat) (A1:Option Addr) (c1:Nat),k<=n/\i=.int .i64 ((k:Int) - 1)/\s=.slice A1 q c1/\q=(E k).length/\wr.ownsRow H.heap.size 3 1 (.slice A1 q c1) q (ints (nats (E k).reverse))/\Below H.heap.size H wr) (fun _ i _=>(intOf i+1).toNat)
 case atStart=>
  refine⟨n,0,_,_,zad _,rfl,rfl,?_,?_,hb1⟩
  .rw[HEN.out];rfl
  .rw[HEN.out];exact Q
 case round=>
  clear Q hb1;obtain⟨k,q,A1,c1,hk,rfl,rfl,hq,F,D⟩:=hrel;have hq60:q<=60:=by rw[hq];exact HE1.out k
  have HQ:=zaa hq;clear hq;have Z:=(BP.next D).cell 0;have aa:=(BP.next D).cell 1;simp at Z aa;have hzr:=D.size
  rcases k with _|k
  .skip
   obtain⟨u,hu⟩:∃u,E 0= [u]:=by
    have:=HE0.out
    rcases e:E 0 with _|⟨u,_|⟨_,_⟩⟩
    .rw[e]at this;simp at this
    .exact⟨u,rfl⟩
    .rw[e]at this;simp at this
   have hq1:q=1:=by rw[HQ.out,hu];rfl
   subst hq1;obtain⟨g,rfl,-,-⟩:=q2o F (by omega);have hc0:wr.cell? ⟨g,0,none⟩=some (.int .i64 (u:Int)):=by
    rw[F.cellAt 0 (by omega),hu];rfl
   have HR2:Hid (evT N ops vals t=u):=by show _=_;rw[HRES.out,hu];rfl
   clear F hu;go_wp2_with fail;go_ret;exact⟨q11 (by rw[HR2.out]),q9 T0 D rfl⟩
  .skip
   have e1:((k+1:Nat):Int) - 1=(k:Int):=by omega
   rw[e1];clear e1;have hk0:(0:Int)<=(k:Int):=by omega
   have hk1:(k:Int)<(n:Int):=by omega
   obtain⟨b,o,uu,v,rfl,hc,⟨rfl,hv0,hv1⟩,-,hxv⟩:=(ht.next qd D).at (k:=k) (by omega);obtain⟨hA,hB⟩:=HAT.out k v hxv;clear hxv
   by_cases h0v:0<=v
   .obtain⟨y,hy,hyN,he⟩:=hA h0v
    obtain⟨j,rfl⟩:=zan h0v;rw[za5]at hy;have hjm:j<m0:=by rw[<-W.len];exact(zag.1 hy).1
    obtain⟨b2,o2,u2,y2,rfl,hc2,⟨rfl,-,-⟩,-,hy2⟩:=(W.next qd D).at hjm;rw[hy]at hy2;injection hy2 with hy2
    subst hy2;have hj1:(j:Int)<(m0:Int):=by omega
    have hj0:(0:Int)<=(j:Int):=by omega
    have O:Hid (E k=y::E (k+1)):=he;clear he hA hB hy
    go_wp2_with (at_builtin;refine app1 wr rfl _ _ 43 3 rfl (.int .i64 0) 8 za1 q14 rfl (by decide) H.heap.size q c1 A1 _ rfl F (.int .i64 (y:Int)) rfl rfl (by omega) (by omega) ?_;intro A2 c2 w2 l hg2 hb2)
    go_roundw
    case rel=>exact⟨k,q+1,A2,c2,by omega,by go_num,rfl,by rw[O.out,za0,<-HQ.out],by rw[O.out,List.reverse_cons,q71,q3c];exact l,D.trans hb2⟩
    case measure=>simp[intOf];try omega
   .obtain⟨ar,tb,u,ac,hjl,h3,M,hdl,htu,huN,he⟩:=hB (by omega)
    clear hA hB;obtain⟨j,hj⟩:∃j,j=(-1 - v).toNat:=⟨_,rfl⟩;rw[<-hj]at ac hjl;have hjm:j<m:=by rw[<-HML.out];exact hjl
    obtain⟨b2,o2,vs,y,rfl,-,hc2,hr2,-,hy⟩:=(qo.next D).at hjm;rw[ac]at hy;injection hy with hy
    subst hy;obtain⟨B',m',d',rfl,-,qt⟩:=rdOp hr2;have cc0:wr.cell? ⟨b2,o2+j*2,none⟩=some (.int .i64 (ar:Int)):=hc2 0 _ rfl;have ej:(-1:Int) - v=(j:Int):=by omega
    have hj0:(0:Int)<=(j:Int):=by omega
    have hj1:(j:Int)<(m:Int):=by omega
    obtain⟨S,HS⟩:∃S,Hid (E (k+1)=S):=⟨_,rfl⟩;rw[HS.out]at M hdl htu he F;have O:=zaa he;have L:Hid (q=S.length):=by show _=_;rw[HQ.out,HS.out]
    have har:ar<=q:=by rw[L.out];exact M
    have HDL:=zaa hdl;have HTU:=zaa htu;have HOB:=zaa ac;obtain⟨Y,HWO⟩:∃Y:World,Y=wr:=⟨_,rfl⟩;subst HWO;have hbA:=qm Y (.cells #[] 3);have C:(Y.alloc (.cells #[] 3)).ownsRow Y.heap.size 3 1 (.slice (some ⟨Y.heap.size,0,none⟩) 0 0) 0 []:=zb7 Y #[] 0 (zad _) (zah _) rfl;clear ac hjl hj hr2 hc2 qt M hdl htu he HQ;go_wp2_with fail
    go_loopw [10,11] (fun ag kk wi=>∃(p:Nat) (A2:Option Addr) (c2:Nat),p<=ar/\kk=.int .i64 p/\ag=.slice A2 p c2/\wi.ownsRow Y.heap.size 3 1 (.slice A2 p c2) p (ints (nats (S.take p)))/\Below Y.heap.size Y wi) (fun _ kk _=>ar - (intOf kk).toNat)
    case atStart=>exact⟨0,_,_,zah _,rfl,rfl,C,hbA⟩
    case round=>
     clear C hbA;obtain⟨p,A2,c2,hp,rfl,rfl,C,J⟩:=hrel;have cc0:=qe J cc0;have Z:=qe J Z;have aa:=qe J aa;have l:=qp F J;have hzi:=J.size
     by_cases hlt:p<ar
     .have hpl:p<S.length:=by have:=L.out;omega
      have ab:S[p]?=some S[p]:=zae hpl
      generalize S[p]=d at ab
      have HTK:Hid (S.take (p+1)=S.take p++ [d]):=by show _=_;rw[zbp,ab];rfl
      obtain⟨g,rfl,-,-⟩:=q2o l (by omega);obtain⟨r,hr⟩:∃r,r=q - 1 - p:=⟨_,rfl⟩;have hcr:=l.cellAt r (by omega);rw[hr,L.out,qme ab,<-L.out,<-hr]at hcr;have er:(q:Int) - 1 - (p:Int)=(r:Int):=by omega
      have hr0:(0:Int)<=(r:Int):=by omega
      have hr1:(r:Int)<(q:Int):=by omega
      have hp1:(p:Int)<(ar:Int):=by omega
      clear ab hr l
      go_wp2_with (at_builtin;refine app1 _ rfl _ _ 43 3 rfl (.int .i64 0) 8 za1 q14 rfl (by decide) _ p c2 A2 _ rfl C (.int .i64 (d:Int)) rfl rfl (by omega) (by omega) ?_;intro A3 c3 w3 z hg3 hb3)
      go_roundw
      case rel=>exact⟨p+1,A3,c3,by omega,by go_num,rfl,by rw[HTK.out,q71,q3c];exact z,J.trans hb3⟩
      case measure=>simp[intOf];try omega
     .obtain rfl:p=ar:=by omega
      have hp1:¬(p:Int)<(p:Int):=by omega
      obtain⟨s,hs⟩:∃s,s=q - p:=⟨_,rfl⟩;have z:=qi1 l (k:=s) (by omega);rw[qe5,qep,show s=S.length - p by rw[hs,L.out],qik,<-show s=S.length - p by rw[hs,L.out]]at z;have hqc:=qda l;have es:(q:Int) - (p:Int)=(s:Int):=by omega
      have hs0:(0:Int)<=(s:Int):=by omega
      have hs1:(s:Int)<=(c1:Int):=by omega
      have hs2:(s:Int)<=(q:Int):=by omega
      have hs60:s<=60:=by omega
      have hws2:IntKind.i64.wrap (s:Int)=(s:Int):=by rw[zdg];omega
      have HSL:Hid (s+1=(E k).length):=by show _=_;rw[O.out,za0,zct,hs,L.out]
      have hubd: -9223372036854775808<=(u:Int)/\(u:Int)<=9223372036854775807:=by omega
      have HUB:=zaa hubd;have HDB:Hid (∀v∈nats (S.drop p).reverse, -9223372036854775808<=v/\v<=9223372036854775807):=fun v W=>by
       obtain⟨dd,P,rfl⟩:=zbe.1 W;have:=HDL.out dd (zdt (List.mem_reverse.1 P));omega
      have HDA:Hid (∀v∈nats (S.take p), -9223372036854775808<=v/\v<=9223372036854775807):=fun v W=>by
       obtain⟨dd,P,rfl⟩:=zbe.1 W;have:=HDL.out dd (zbt P);omega
      have r1:=q12 (R:=RI) z (q1r HDB.out);have r2:=q12 (R:=RI) C (q1r HDA.out);have HC1:=zaa fun(I:World) (X:Below wr.heap.size wr I)=>q2s A1 s c1 _ I (r1.next qd X) (by omega)
      have HC2:=zaa fun(I:World) (X:Below wr.heap.size wr I)=>q7k [.int .i64 (N:Int),.slice (some ⟨b2,o2,none⟩) m d] ((N:Int),ops) A2 p c2 j N p u (S.take p) tb I (HRD.out I ((q9 D J rfl).trans (X.mono (za7 hzr hzi)))) rfl hN8 (r2.next qd X) (fun dd P=>HDL.out dd (zbt P)) (by omega) HOB.out HTU.out
      have HZ:Hid (H.heap.size<=wr.heap.size):=za7 hzr hzi;have T:=q9 D J rfl;have KP0:Hid (∀I,Below wr.heap.size wr I->I.cell? ⟨w.heap.size,0,none⟩=some (.int .i64 (N:Int))):=fun I X=>qe X Z
      have KP1:Hid (∀I,Below wr.heap.size wr I->I.cell? ⟨w.heap.size,1,none⟩=some (.slice (some ⟨b2,o2,none⟩) m d)):=fun I X=>qe X aa
      have f:Below wr.heap.size wr wr:=zac _ _;clear hs z r1 r2 l hubd;go_wp2_with fail
      go_region_law (first
       |(go_simp;go_at_call 110;(with_reducible refine(HC1.out _ ?_).mono ?_);(first|exact f|exact qc f _|exact f.alloc f.size _|exact(qc f _).alloc f.size _);rintro e w5 ⟨A5,c5,rfl,K,hb5⟩;replace K:=ql (base':=H.heap.size) K (za7 HZ.out (by first|exact f.size|exact(f.alloc f.size _).size));replace f:=q9 (by first|exact f|exact qc f _|exact f.alloc f.size _|exact(qc f _).alloc f.size _) hb5 rfl;have cQ0:=KP0.out _ f;have cQ1:=KP1.out _ f)
       |(go_simp;go_at_call 196;(with_reducible refine(HC2.out _ ?_).mono ?_);(first|exact f|exact qc f _);rintro e w6 ⟨rfl,hb6⟩;replace f:=q9 (by first|exact f|exact qc f _) hb6 rfl;(try replace K:=qp (w':=w6) (by exact K) hb6))
       |(refine q1b (R:=RI) _ rfl (.tmp 69) (.tmp 74) 43 3 rfl (.int .i64 0) 8 za1 q14 rfl (by decide) H.heap.size s c5 A5 (ints (nats (S.drop p).reverse)) (by rfl) (by first|exact K|exact K.alloc _) (some ⟨w6.heap.size,0,none⟩) 1 1 [(u:Int)] (fun y=>.int .i64 y) (fun _=>rfl) (by rfl) (by first|exact q5y (q5k _ (by rfl)) HUB.out|exact(q5y (q5k _ (by rfl)) HUB.out).next qd hb5) (fun _ _ _ hr=>hr.1) (by omega) (za7 HZ.out (by first|exact f.size|exact(f.alloc f.size _).size)) ?_;intro A7 c7 w7 U hg7 G;have T7:Below H.heap.size H w7:=(by first|exact((q9 T f rfl)).trans G|exact(qc (q9 T f rfl) _).trans G|exact((q9 T f rfl).alloc (za7 HZ.out f.size) _).trans G|exact((qc (q9 T f rfl) _).alloc (za7 HZ.out f.size) _).trans G))
       |(refine q1b (R:=RI) _ rfl (.tmp 69) (.tmp 74) 43 3 rfl (.int .i64 0) 8 za1 q14 rfl (by decide) H.heap.size s c5 A5 (ints (nats (S.drop p).reverse)) (by rfl) (by first|exact K|exact K.alloc _) (some ⟨w5.heap.size,0,none⟩) 1 1 [(u:Int)] (fun y=>.int .i64 y) (fun _=>rfl) (by rfl) (by first|exact q5y (q5k _ (by rfl)) HUB.out) (fun _ _ _ hr=>hr.1) (by omega) (za7 HZ.out (by first|exact f.size|exact(f.alloc f.size _).size)) ?_;intro A7 c7 w7 U hg7 G;have T7:Below H.heap.size H w7:=(by first|exact((q9 T f rfl)).trans G|exact(qc (q9 T f rfl) _).trans G|exact((q9 T f rfl).alloc (za7 HZ.out f.size) _).trans G|exact((qc (q9 T f rfl) _).alloc (za7 HZ.out f.size) _).trans G)))
      all_goals
       go_wp2_with fail
       go_roundw
       case rel=>exact⟨k,s+1,A7,c7,by omega,by go_num,rfl,HSL.out,by rw[O.out,List.reverse_cons,q71,q3c];exact U,T7⟩
       case measure=>simp[intOf];try omega
def vmTo (xss:List (List Int)) (k y:Nat):Bool:=(xss.take k).any fun t=>hasI (y:Int) t
theorem qn0 {a:List (List Int)} {k:Nat} {t:List Int} (h:a[k]?=some t) (y:Nat):vmTo a (k+1) y=(vmTo a k y||varM t y):=by
 unfold vmTo varM;rw[zbp,h];simp
theorem qir (L R:List Int) (y:Nat):vmTo [L,R] 2 y=(varM L y||varM R y):=by
 unfold vmTo varM;simp
theorem qc8 (A:Option Addr) (n c:Nat) (f:List (List Int)) (w:World) (h:RdL (RV RI) w A n f) (W:∀t∈f,∀v∈t,v<6) (hn:n<=1000):
  Calls Tryz.prog 174 #[.slice A n c] w (OwI w (q1m 6 (vmTo f n))):=by
 have H6:=zaa W;clear W
 go_enter Tryz.func174,Tryz.ntmps174
 go_wp2_with (at_make;refine qam w rfl _ _ rfl 6 rfl rfl (by omega) ?_;intro w1 p F)
 have D:=(zac w.heap.size w).grown F (zad _) (by simp);clear F
 go_loopw [11] (fun i wr=>∃(k:Nat) (H:List Bool),k<=n/\i=.int .i64 k/\H.length=6/\Hid (∀y,y<6->gB H y=vmTo f k y)/\wr.ownsRow w.heap.size 4 1 (.slice (some ⟨w.heap.size,0,none⟩) 6 6) 6 (bls H)/\Below w.heap.size w wr) (fun i _=>n - (intOf i).toNat)
 case atStart=>exact⟨0,List.replicate 6 false,zah _,rfl,rfl,(fun y s=>q7y (List.getElem?_replicate.trans (zam s))),p,D⟩
 case round=>
  clear p D;obtain⟨k,H,hk,rfl,g,z,a,j⟩:=hrel;have hle:=h.le
  by_cases hlt:k<n
  .have hk0:(0:Int)<=(k:Int):=by omega
   have O:(k:Int)<(n:Int):=by omega
   obtain⟨b,o,v,t,rfl,X,⟨B,m,d,rfl,S⟩,-,T⟩:=h.at hlt;have HX:=zaa T;have J:=zaa (H6.out t (zaf T));have htl:=S.le;have K:=zaa S.len;have M:=qe j X;clear T X;go_wp2_with fail
   go_loopw [17] (fun i Y=>∃(q:Nat) (H:List Bool),q<=m/\i=.int .i64 q/\H.length=6/\Hid (∀y,y<6->gB H y=(vmTo f k y||q79 t q y))/\Y.ownsRow w.heap.size 4 1 (.slice (some ⟨w.heap.size,0,none⟩) 6 6) 6 (bls H)/\Below w.heap.size w Y) (fun i _=>m - (intOf i).toNat)
   case atStart=>exact⟨0,H,zah _,rfl,g,(fun y s=>by rw[z.out y s,qk0,Bool.or_false]),a,j⟩
   case round=>
    clear a g z j M;obtain⟨q,H,hq,rfl,g,z,a,r⟩:=hrel
    by_cases hlq:q<m
    .have hq0:(0:Int)<=(q:Int):=by omega
     have Q:(q:Int)<(m:Int):=by omega
     obtain⟨b2,o2,u,v,rfl,E,⟨rfl,hv0,hv1⟩,-,C⟩:=S.at hlq;have hv6:=J.out v (zaf C);have U:=zaa (qc7 C);replace E:=qe r E;clear C
     by_cases h0:0<=v
     .obtain⟨x,rfl⟩:=zan h0
      have hx6:x<6:=by omega
      have N:wr.cell? ⟨w.heap.size,x,none⟩=some (.bool (gB H x)):=by rw[a.cellAt x (by omega),q66 (by omega)]
      have hfz:wr.frozen? ⟨w.heap.size,x,none⟩=false:=a.frozenAt x;have I:=(a.stored x (.bool true)).1;rw[q7i]at I;have l:Hid (∀y,y<6->gB (H.set x true) y=(vmTo f k y||q79 t (q+1) y)):=fun y s=>by
       rw[qe1 (by omega),U.out y]
       by_cases e:y=x
       .subst e;simp
       .rw[zaj e,z.out y s,zbi (by omega)];simp
      clear a;go_wp2_with fail
      go_roundw
      case rel=>exact⟨q+1,H.set x true,by omega,by go_num,by rw[zcg];exact g,l,I,r.setCell (zad _) _⟩
      case measure=>simp[intOf];try omega
     .have l:Hid (∀y,y<6->gB H y=(vmTo f k y||q79 t (q+1) y)):=fun y s=>by
       rw[U.out y,z.out y s,zbi (by omega)];simp
      go_wp2_with fail
      go_roundw
      case rel=>exact⟨q+1,H,by omega,by go_num,g,l,a,r⟩
      case measure=>simp[intOf];try omega
    .have Q:¬(q:Int)<(m:Int):=by omega
     have l:Hid (∀y,y<6->gB H y=vmTo f (k+1) y):=fun y s=>by
      rw[z.out y s,qn0 HX.out,qfi (by rw[K.out];omega)]
     go_wp2_with fail
     go_roundw
     case rel=>exact⟨k+1,H,by omega,by go_num,g,l,a,r⟩
     case measure=>simp[intOf];try omega
  .have O:¬(k:Int)<(n:Int):=by omega
   obtain rfl:k=n:=by omega
   have G:=q12 (R:=RB) a (fun x _=>rfl);have V:=zaa (qbv (some ⟨w.heap.size,0,none⟩) 6 6 H wr G (by omega));have HE:Hid (q1m 6 (gB H)=q1m 6 (vmTo f k)):=q22 z.out;rw[HE.out]at V;clear a G;go_wp2_with fail;refine V.out.mono ?_;rintro e w2 ⟨Z,c2,rfl,P,L⟩;go_wp2_with fail;go_ret;exact⟨Z,c2,rfl,ql P j.size,j.trans (L.mono j.size)⟩
theorem q8r (A:Option Addr) (n c:Nat) (t:List Int) (w:World) (h:RdL RI w A n t) (P:∀v∈t,v<6):
  Calls Tryz.prog 158 #[.slice A n c] w (OwI w (q1m 6 (varM t))):=by
 have T:=zaa P;have C:=zaa h.len;have Y:=h.le;have q:=qm w (.cells #[] 3);have g:(w.alloc (.cells #[] 3)).ownsRow w.heap.size 3 1 (.slice (some ⟨w.heap.size,0,none⟩) 0 0) 0 []:=zb7 w #[] 0 (zad _) (zah _) rfl;clear P
 go_enter Tryz.func158,Tryz.ntmps158
 go_wp2_with fail
 go_loopw [3,4] (fun s i wr=>∃(k b m l:Nat),k<=n/\i=.int .i64 k/\s=.slice (some ⟨b,0,none⟩) m l/\m=(q1m 6 (q79 t k)).length/\wr.ownsRow w.heap.size 3 1 (.slice (some ⟨b,0,none⟩) m l) m (ints (q1m 6 (q79 t k)))/\Below w.heap.size w wr) (fun _ i _=>n - (intOf i).toNat)
 case atStart=>
  have e:q1m 6 (q79 t 0)= []:=rfl;exact⟨0,w.heap.size,0,0,zah _,rfl,rfl,rfl,g,q⟩
 case round=>
  clear g q;obtain⟨k,O,m,l,hk,rfl,rfl,G,a,d⟩:=hrel;have aa:m<=6:=by rw[G];exact q4u _ _
  have j:=zaa G;clear G
  by_cases hlt:k<n
  .have X:(0:Int)<=(k:Int):=by omega
   have F:(k:Int)<(n:Int):=by omega
   obtain⟨b,o,u,v,rfl,R,⟨rfl,ab,ac⟩,-,H⟩:=h.at hlt;have ad:=T.out v (zaf H);have M:=zaa (qc7 H);replace R:=qe d R;clear H
   by_cases h0:0<=v
   .obtain⟨x,rfl⟩:=zan h0
    have I:x<6:=by omega
    have U:=zaa (qja w.heap.size O m l _ (x:Int) wr a d.size (by omega) (fun z hz=>by have:=q3h z hz;omega) (by omega));go_wp2_with fail;refine U.out.mono ?_;rintro e w2 ⟨A2,K,W,L,rfl,f,Z,D,E⟩;have Q:=qi5 I D;have p:L=q1m 6 (q79 t (k+1)):=Q.trans (q22 fun y S=>by rw[M.out y,show(y==x)=decide ((x:Int)=(y:Int))from by rw[zcc,zdx,zax];omega]);have r:0<K:=by
     have:=(qm5 (q2t _ _) D).2 (x:Int);have J:(x:Int)∈L:=this.2 (.inr rfl);have hl:L.length=K:=by have:=f.1;simpa[ints]using this
     have:=List.length_pos_of_mem J;omega
    obtain⟨V,rfl,-,-⟩:=q2o f r;rw[p]at f;have N:=zaa f;clear D Q p f;go_wp2_with fail
    go_roundw
    case rel=>exact⟨k+1,V,K,W,by omega,by go_num,rfl,by have:=N.out.1;simp[ints]at this;omega,N.out,d.trans (E.mono d.size)⟩
    case measure=>simp[intOf];try omega
   .have B:Hid (q1m 6 (q79 t (k+1))=q1m 6 (q79 t k)):=q22 fun y S=>by rw[M.out y,zbi (by omega),Bool.or_false]
    go_wp2_with fail
    go_roundw
    case rel=>exact⟨k+1,O,m,l,by omega,by go_num,rfl,by rw[B.out];exact j.out,by rw[B.out];exact a,d⟩
    case measure=>simp[intOf];try omega
  .have F:¬(k:Int)<(n:Int):=by omega
   have B:Hid (q1m 6 (q79 t k)=q1m 6 (varM t)):=q22 fun y S=>qfi (by rw[C.out];omega) y
   rw[B.out]at a j;go_wp2_with fail;go_ret;exact⟨_,l,by rw[j.out];rfl,by rw[<-j.out];exact a,d⟩
theorem qgr {n k:Nat} (d:n<=8) (c:k<=6):n ^ k<=262144:=by
 have a:n ^ k<=8 ^ k:=Nat.pow_le_pow_left d k;have b:8 ^ k<=8 ^ 6:=Nat.pow_le_pow_right (by decide) c;exact za7 a b
theorem qju (n k r:Nat) (w:World) (d:n ^ k=r) (c:n<=8) (q:k<=6):
  Calls Tryz.prog 141 #[.int .i64 n,.int .i64 k] w fun e w'=>e=.returned (.int .i64 r)/\w=w':=by
 have h:=zaa d;clear d
 go_enter Tryz.func141,Tryz.ntmps141
 go_wp2
 go_loop [1,5] (fun b p=>∃(j P:Nat),j<=k/\b=.int .i64 j/\p=.int .i64 P/\Hid (P=n ^ (k - j))) (fun b _=>(intOf b).toNat)
 case atStart=>exact⟨k,1,zad _,rfl,rfl,by show _=_;rw[zda,zfw]⟩
 case round=>
  obtain⟨j,P,l,rfl,rfl,a⟩:=hrel
  by_cases hlt:0<j
  .have i:P<=262144:=by rw[a.out];exact qgr c (by omega)
   have hM:P*n<=262144*8:=zci i c;have m:(0:Int)<=(P:Int)*(n:Int):=by rw[<-zbw];omega
   have o:(P:Int)*(n:Int)<=2097152:=by rw[<-zbw];omega
   have f:Hid ((P:Int)*(n:Int)=((P*n:Nat):Int)):=(zbw _ _).symm;have g:Hid (P*n=n ^ (k - (j - 1))):=by show _=_;rw[a.out];exact q9p hlt l
   clear hM
   go_wp2
   go_round
   case rel=>exact⟨j - 1,P*n,by omega,by rw[show((j - 1:Nat):Int)=(j:Int) - 1 by omega],by rw[f.out],g⟩
   case measure=>simp[intOf];try omega
  .skip
   go_wp2
   go_ret;exact⟨q11 (by rw[a.out,show k - j=k by omega,h.out]),rfl⟩
theorem qbo (n k r:Nat) (w:World) (d:n ^ k=r) (c:n<=8) (q:k<=6):
  Calls Tryz.prog 96 #[.int .i64 n,.int .i64 k] w fun e w'=>e=.returned (.int .i64 r)/\w=w':=by
 have h:=zaa d;clear d
 go_enter Tryz.func96,Tryz.ntmps96
 go_wp2
 go_loop [1,5] (fun b p=>∃(j P:Nat),j<=k/\b=.int .i64 j/\p=.int .i64 P/\Hid (P=n ^ (k - j))) (fun b _=>(intOf b).toNat)
 case atStart=>exact⟨k,1,zad _,rfl,rfl,by show _=_;rw[zda,zfw]⟩
 case round=>
  obtain⟨j,P,l,rfl,rfl,a⟩:=hrel
  by_cases hlt:0<j
  .have i:P<=262144:=by rw[a.out];exact qgr c (by omega)
   have hM:P*n<=262144*8:=zci i c;have m:(0:Int)<=(P:Int)*(n:Int):=by rw[<-zbw];omega
   have o:(P:Int)*(n:Int)<=2097152:=by rw[<-zbw];omega
   have f:Hid ((P:Int)*(n:Int)=((P*n:Nat):Int)):=(zbw _ _).symm;have g:Hid (P*n=n ^ (k - (j - 1))):=by show _=_;rw[a.out];exact q9p hlt l
   clear hM
   go_wp2
   go_round
   case rel=>exact⟨j - 1,P*n,by omega,by rw[show((j - 1:Nat):Int)=(j:Int) - 1 by omega],by rw[f.out],g⟩
   case measure=>simp[intOf];try omega
  .skip
   go_wp2
   go_ret;exact⟨q11 (by rw[a.out,show k - j=k by omega,h.out]),rfl⟩
theorem AlgP.ops {x:qi} (h:AlgP x):∀o∈x.2,OpP x.1.toNat o:=h.2.2.2
theorem qb4 (cs ds:List Value) (x:qi) (e:q1g) (w:World) (h:qf.rd w cs x) (N:qw.rd w ds e) (t:AlgP x):
  Calls Tryz.prog 172 #[.agg cs.toArray,.agg ds.toArray] w (Bl w (.bool (q2e x.2 e.1 &&q2e x.2 e.2))):=by
 have k:=h;obtain⟨B,m,d,rfl,-,O⟩:=qv h;obtain⟨z,F,C,A,G,D,rfl,H,I⟩:=q1k N;obtain⟨v,s,l,r,K,L⟩:=q1q w #[.int .i64 x.1,.slice B m d] #[.slice z F C,.slice A G D] 24 55;have i:=zaa s;obtain⟨a,c⟩:=cl2 K;obtain⟨j,f⟩:=cl2 L;rw[i.out]at a c j f;have p:=zaa (qbm _ x z F C e.1 v (qf.stab k l.block) (H.next qd l) _ t.ops t.2.2.1);have q:=zaa fun(J:World) (E:Below v.heap.size v J)=>qbm _ x A G D e.2 J (qf.stab (qf.stab k l.block) E.block) ((I.next qd l).next qd E) _ t.ops t.2.2.1
 obtain⟨M,n⟩:∃b,Hid (q2e x.2 e.1=b):=⟨_,rfl⟩;obtain⟨P,o⟩:∃b,Hid (q2e x.2 e.2=b):=⟨_,rfl⟩;rw[n.out]at p;rw[o.out]at q;rw[n.out,o.out];clear s r O H I k
 go_enter Tryz.func172,Tryz.ntmps172
 go_wp2_with fail;rw[<-i.out];refine p.out.mono ?_;rintro e Q ⟨rfl,g⟩;rw[<-i.out]at a c j f;have y:=kk3 g a c f;clear a c f;obtain⟨a,c,f⟩:=y;clear j
 rcases M with _|_
 .go_wp2_with fail
  go_ret;exact⟨rfl,q9 l g rfl⟩
 .go_wp2_with fail
  refine(q.out _ g).mono ?_;rintro e R ⟨rfl,u⟩;go_wp2_with fail;go_ret;exact⟨rfl,q9 (q9 l g rfl) u rfl⟩
theorem qpj (a b:Option Addr) (d e f g:Nat) (L R:List Int) (w0:World) (t:TypeId) (i:RdL RI w0 a d L) (j:RdL RI w0 b e R):RdL (RV RI) (w0.alloc (.cells #[.slice a d f,.slice b e g] t)) (some ⟨w0.heap.size,0,none⟩) 2 [L,R]:=by
 have h:=qm w0 (.cells #[.slice a d f,.slice b e g] t);refine⟨rfl,by unfold maxLen;omega,fun k s c=>?_⟩
 rcases k with _|_|k
 .simp only[List.getElem?_cons_zero,zc5]at c
  subst c;exact⟨w0.heap.size,0,.slice a d f,rfl,by simp,a,d,f,rfl,i.next qd h⟩
 .simp only[zdh,List.getElem?_cons_zero,zc5]at c
  subst c;exact⟨w0.heap.size,0,.slice b e g,rfl,by simp,b,e,g,rfl,j.next qd h⟩
 .simp at c
def CtE (w:World) (ask:Bool) (hold:Prop) (e:Ending) (w':World):Prop:=∃A n c,e=.returned (.tuple #[.slice A n c,.bool ask])/\(ask=true->(hold/\A=none/\n=0/\c=0)\/(¬hold/\∃p,A=some p))/\Below w.heap.size w w'
theorem qk3 (N:Nat) (vars:List Int):ints (Wb N vars 0)=List.replicate (mxV vars) (.int .i64 0):=by rw[Wb,q7z]
theorem qcd (cs ds:List Value) (x:qi) (e:q1g) (w:World) (h:qf.rd w cs x) (h':qw.rd w ds e) (hx:AlgP x) (H:q2e x.2 e.1=true) (I:q2e x.2 e.2=true):
  Calls Tryz.prog 173 #[.agg cs.toArray,.agg ds.toArray] w (CtE w (askB x.1.toNat x.2 e.1 e.2) (q5h x.1.toNat x.2 e.1 e.2)):=by
 have hrd:=h;have hx0:=hx;obtain⟨a,f⟩:=x;obtain⟨L,R⟩:=e;obtain⟨hx1,hx2,hx3,hx4⟩:=hx;simp only at hx1 hx2 hx3 hx4 H I;obtain⟨N,rfl⟩:=zan (show 0<=a by omega);show Calls Tryz.prog 173 _ w (CtE w (askB (Int.toNat (N:Int)) f L R) (q5h (Int.toNat (N:Int)) f L R))
 rw[za5];have aa:0<N:=by omega
 have hN8:N<=8:=by omega
 obtain⟨B,m,d,rfl,-,qo⟩:=qv h;obtain⟨AL,nL,cL,AR,nR,cR,rfl,rL,rR⟩:=q1k h';simp only at rL rR;obtain⟨c,s⟩:∃l,Hid (q35 L R=l):=⟨_,rfl⟩;obtain⟨r,U⟩:∃r,Hid (N ^ c.length=r):=⟨_,rfl⟩;have HV6:Hid (c.length<=6):=by show _<=6;rw[<-s.out];exact qaz L R
 have HVI:Hid (∀v∈c,0<=v/\v<=5):=by rw[<-s.out];exact q55 L R
 have HVM:Hid (∀v∈c,v<(mxV c:Int)):=by rw[<-s.out];exact fun v G=>qmz G
 have HM6:Hid (mxV c<=6):=by show _<=6;rw[<-s.out];exact qoa L R
 have HVL:Hid (∀v∈L,v<(mxV c:Int)):=by rw[<-s.out];exact fun v G=>q6q H I (.inl G)
 have HVR:Hid (∀v∈R,v<(mxV c:Int)):=by rw[<-s.out];exact fun v G=>q6q H I (.inr G)
 have HASK:Hid (askB N f L R=decide (r<=5000)):=by
  show _=_
  unfold askB;rw[H,I,s.out,U.out];rfl
 have M:Hid (q5h N f L R↔∀i,i<r->evT N f (Wb N c (i+1)) L=evT N f (Wb N c (i+1)) R):=by
  show _↔_
  unfold q5h TryP;rw[s.out,U.out]
 rw[HASK.out];obtain⟨w0,hw0,T0,hsz0,BP,BQ⟩:=q1q w #[.int .i64 (N:Int),.slice B m d] #[.slice AL nL cL,.slice AR nR cR] 24 55;have HW0:=zaa hw0;have HRD:Hid (∀E,Below w0.heap.size w0 E->qf.rd E [.int .i64 (N:Int),.slice B m d] ((N:Int),f)):=fun E hz=>qf.stab (qf.stab hrd T0.block) hz.block
 have HL:=zaa (rL.next qd T0);have HR:=zaa (rR.next qd T0);have HX0:=zaa hx0;have HT1:=zaa H;have HT2:=zaa I;have T1:=qm w0 (.cells #[.slice AL nL cL,.slice AR nR cR] 43)
 have HV:=zaa (qc8 (some ⟨w0.heap.size,0,none⟩) 2 2 [L,R] _ (qpj AL AR nL nR cL cR L R w0 43 HL.out HR.out) (fun t ht v G=>by
  rcases zbf.1 ht with rfl|ht
  .exact(q1v (q2y H v G)).1
  .rw[zb2]at ht
   subst ht
   exact(q1v (q2y I v G)).1) (by omega))
 have HVE:Hid (q1m 6 (vmTo [L,R] 2)=c):=by show _=_;rw[<-s.out];exact q22 fun y hy=>qir L R y
 rw[HVE.out]at HV;obtain⟨P,W⟩:=cl2 BP;obtain⟨X,Y⟩:=cl2 BQ;clear hw0 hsz0 hrd hx0 hx4 H I hx3 rL rR qo h h'
 go_enter Tryz.func173,Tryz.ntmps173
 go_upto_region 1 with fail;rw[<-HW0.out];go_wp2_with fail;refine HV.out.mono ?_;rintro e A ⟨A6,c6,rfl,ho6,hb2⟩;have r6:=q12 (R:=RI) ho6 (q1r fun v G=>by have:=HVI.out v G;omega);have T2:=q9 T1 hb2 rfl;have zkk:=kk4 T2 P W X Y;clear P W X Y;obtain⟨P,W,X,Y⟩:=zkk;obtain⟨q,HQ⟩:∃q,Hid (c.length=q):=⟨_,rfl⟩;rw[HQ.out]at r6 U HV6⊢;have hq6:=HV6.out;clear ho6;go_wp2_with fail;refine(qju N q r A U.out hN8 HV6.out).mono ?_;rintro e w3 ⟨rfl,rfl⟩
 by_cases h5:5000<r
 .have hr5:(5000:Int)<(r:Int):=by omega
  go_wp2_with fail
  go_ret2
  exact⟨none,0,0,by rw[zbi (show ¬r<=5000 by omega)];rfl,(fun h=>by rw[zbi (show ¬r<=5000 by omega)]at h;cases h),q9 T0 T2 rfl⟩
 have hr5:¬(5000:Int)<(r:Int):=by omega
 obtain⟨n,O⟩:∃n,Hid (mxV c=n):=⟨_,rfl⟩;rw[O.out]at HM6 HVM HVL HVR;have hm6:=HM6.out;have V:Hid (∀i,(Wb N c i).length=n):=fun i=>by rw[qdr,O.out]
 have T3:=qm A (.cells #[] 3);have hz2:=T3.size
 go_upto_if 28 with fail
 go_cut [8,28]from 29 to 36 (fun u8 _ wx=>∃K Z,u8=.slice (some ⟨K,0,none⟩) n Z/\wx.ownsRow A.heap.size 3 1 (.slice (some ⟨K,0,none⟩) n Z) n (ints (Wb N c 0))/\Below A.heap.size A wx)
 case first=>
  rcases zdb q with h0|h0
  .have hv0:c= []:=zdi (by rw[HQ.out];exact h0)
   have hm0:n=0:=by rw[<-O.out,hv0];rfl
   subst h0;subst hm0;have HO:Hid ((A.alloc (.cells #[] 3)).ownsRow A.heap.size 3 1 (.slice (some ⟨A.heap.size,0,none⟩) 0 0) 0 (ints (Wb N c 0))):=by
    have e:Wb N c 0= []:=zdi (V.out 0);show World.ownsRow _ _ _ _ _ _ _
    rw[e];exact zb7 A #[] 0 (zad _) (zah _) rfl
   go_wp2_with fail;go_meet;exact⟨_,_,rfl,HO.out,T3⟩
  .skip
   have T:c[q - 1]?=c.getLast?:=by rw[List.getLast?_eq_getElem?,HQ.out]
   obtain⟨b,o,vv,v,rfl,hc,⟨rfl,hv0,hv1⟩,-,D⟩:=r6.at (k:=q - 1) (by omega);have hvi:=HVI.out v (zaf D);have hmx:(n:Int)=v+1:=by rw[<-O.out];exact qd0 (T ▸ D) hvi.1
   obtain⟨p,hp⟩:∃p,p=q - 1:=⟨_,rfl⟩;rw[<-hp]at hc;have ep:(q:Int) - 1=(p:Int):=by omega
   have hp0:(0:Int)<=(p:Int):=by omega
   have hp1:(p:Int)<(q:Int):=by omega
   have em:v+1=(n:Int):=by omega
   have hc3:=qe T3 hc;clear hc T D hp hmx
   go_wp2_with (at_make;refine q3g _ rfl _ _ rfl n rfl rfl (by omega) ?_;intro w4 hown4 hg4)
   go_meet;have ab:Below A.heap.size A w4:=T3.trans ((zac _ _).grown hg4 hz2 (by simp));exact⟨_,_,rfl,by rw[qk3,O.out];have h4:=hown4;rw[zfe]at h4;exact ql h4 (by omega),ab⟩
 case rest=>
  obtain⟨K,Z,rfl,J,hT3⟩:=hcut;obtain⟨w3,HWC⟩:∃wq:World,wq=wc:=⟨_,rfl⟩;subst HWC;clear T3 hz2;go_wp2_with fail
  go_loopw [9] (fun i wr=>∃k:Nat,k<=r/\i=.int .i64 k/\Hid (∀i,i<k->evT N f (Wb N c (i+1)) L=evT N f (Wb N c (i+1)) R)/\wr.ownsRow A.heap.size 3 1 (.slice (some ⟨K,0,none⟩) n Z) n (ints (Wb N c k))/\Below A.heap.size A wr) (fun i _=>r - (intOf i).toNat)
  case atStart=>exact⟨0,zah _,rfl,(fun i hi=>absurd hi (by omega)),J,hT3⟩
  case round=>
   clear J hT3;obtain⟨k,hk,rfl,HALL,J,Q⟩:=hrel;have kP0:=qe Q P
   by_cases hlt:k<r
   .have hk0:(0:Int)<=(k:Int):=by omega
    have hk1:(k:Int)<(r:Int):=by omega
    have HA:=zaa (qbg k q N wr aa (by omega) (by omega) (by omega));have hgV:=(J.lt K rfl);go_wp2_with fail;refine HA.out.mono ?_;rintro e w4 ⟨g,rfl,z,hb4⟩;have hgA:=z.lt g rfl;have hV4:=qp J hb4;have ab:Below A.heap.size A w4:=Q.trans (hb4.mono Q.size);obtain⟨ds,HDS⟩:∃ds,Hid (digs N q k=ds):=⟨_,rfl⟩;have HDL:Hid (ds.length=q):=by show _=_;rw[<-HDS.out,q1t]
    rw[HDS.out]at z;have hgg:g≠K:=by omega
    clear J kP0 HA;go_wp2_with fail
    go_loopw [49] (fun j wi=>∃p:Nat,p<=q/\j=.int .i64 p/\wi.ownsRow wr.heap.size 3 1 (.slice (some ⟨g,0,none⟩) q q) q (ints (nats ds))/\wi.ownsRow A.heap.size 3 1 (.slice (some ⟨K,0,none⟩) n Z) n (ints (setV c ds p (Wb N c k)))/\Below A.heap.size A wi) (fun j _=>q - (intOf j).toNat)
    case atStart=>exact⟨0,zah _,rfl,z,hV4,ab⟩
    case round=>
     clear z hV4 ab Q hb4;obtain⟨p,hp,rfl,z,J,C⟩:=hrel
     by_cases hlp:p<q
     .have hp0:(0:Int)<=(p:Int):=by omega
      have hp1:(p:Int)<(q:Int):=by omega
      obtain⟨b,o,vv,v,rfl,hc,⟨rfl,hv0,hv1⟩,-,D⟩:=r6.at hlp;have hvi:=HVI.out v (zaf D);have hvm:=HVM.out v (zaf D);obtain⟨y,rfl⟩:=zan hvi.1;have hpl:p<ds.length:=by rw[HDL.out];exact hlp
      have ac:ds[p]?=some ds[p]:=zae hpl
      generalize ds[p]=dd at ac
      have hcd:wr.cell? ⟨g,p,none⟩=some (.int .i64 (dd:Int)):=by
       rw[z.cellAt p (by omega)];unfold ints nats;rw[za2,za2,ac];rfl
      have hSL:(setV c ds p (Wb N c k)).length=n:=by rw[q8d,V.out]
      have S:∃u,wr.cell? ⟨K,y,none⟩=some u:=⟨_,(J.cellAt y (by omega)).trans (zae (by rw[q4t];omega))⟩;obtain⟨u,S⟩:=S;have hfz:=J.frozenAt y;have hst:=(J.stored y (.int .i64 (dd:Int))).1;rw[q2n]at hst;have HSET:Hid (setV c ds (p+1) (Wb N c k)=(setV c ds p (Wb N c k)).set y (dd:Int)):=by
       show _=_
       rw[setV,zak,D,zak,ac];simp
      replace hc:=qe C hc;have hoA2:=q5w z (p:=⟨K,y,none⟩) (by simp[Value.ownBlock];exact hgg) (.int .i64 (dd:Int));have hy1:(y:Int)<(n:Int):=by omega
      clear D ac z J hvm;go_wp2_with fail
      go_roundw
      case rel=>exact⟨p+1,by omega,by go_num,hoA2,by rw[HSET.out];exact hst,C.setCell hgV.1 _⟩
      case measure=>simp[intOf];try omega
     .obtain rfl:p=q:=by omega
      have hp1:¬(p:Int)<(p:Int):=by omega
      have HW1:Hid (setV c ds p (Wb N c k)=Wb N c (k+1)):=by show _=_;rw[Wb,HQ.out,HDS.out]
      rw[HW1.out]at J;have rV:=q12 (R:=RI) J (q1r fun v G=>by have:=qiu aa c (k+1) v G;omega);have TT:=q9 T2 C rfl;obtain⟨eL,HEL⟩:∃e,Hid (evT N f (Wb N c (k+1)) L=e):=⟨_,rfl⟩;obtain⟨eR,HER⟩:∃e,Hid (evT N f (Wb N c (k+1)) R=e):=⟨_,rfl⟩;have HC1:Hid (∀E,Below wr.heap.size wr E->Calls Tryz.prog 175 #[.agg #[.int .i64 (N:Int),.slice B m d],.slice AL nL cL,.slice (some ⟨K,0,none⟩) n Z] E (Bl E (.int .i64 (eL:Int)))):=fun E hz=>by
       have:=q9j _ _ AL (some ⟨K,0,none⟩) nL cL n Z L (Wb N c (k+1)) E (HRD.out E (q9 TT hz rfl)) HX0.out ((HL.out.next qd TT).next qd hz) (rV.next qd hz) HT1.out (fun v G=>by rw[V.out];exact HVL.out v G) (fun y hy=>qiu aa c (k+1) y hy);simp only[za5]at this
       rwa [HEL.out]at this
      have HC2:Hid (∀E,Below wr.heap.size wr E->Calls Tryz.prog 175 #[.agg #[.int .i64 (N:Int),.slice B m d],.slice AR nR cR,.slice (some ⟨K,0,none⟩) n Z] E (Bl E (.int .i64 (eR:Int)))):=fun E hz=>by
       have:=q9j _ _ AR (some ⟨K,0,none⟩) nR cR n Z R (Wb N c (k+1)) E (HRD.out E (q9 TT hz rfl)) HX0.out ((HR.out.next qd TT).next qd hz) (rV.next qd hz) HT2.out (fun v G=>by rw[V.out];exact HVR.out v G) (fun y hy=>qiu aa c (k+1) y hy);simp only[za5]at this
       rwa [HER.out]at this
      have dP0:=qe C P;have dP1:=qe C W;have dQ0:=qe C X;have dQ1:=qe C Y;obtain⟨bb,HBB⟩:∃b,Hid (((eL:Int) !=(eR:Int))=b):=⟨_,rfl⟩;have F:Below wr.heap.size wr wr:=zac _ _;clear rV z;go_upto_region 16 with fail
      go_cut [72]from 62 to 73 (fun u72 wx=>u72=.bool bb/\Below wr.heap.size wr wx)
      case first=>
       go_region_held3 (fun w'=>w'.cell? ⟨w.heap.size,0,none⟩=some (.int .i64 (N:Int))/\w'.cell? ⟨w.heap.size,1,none⟩=some (.slice B m d)/\w'.cell? ⟨w.heap.size+1,0,none⟩=some (.slice AL nL cL)/\w'.cell? ⟨w.heap.size+1,1,none⟩=some (.slice AR nR cR)) (first|go_keep|exact⟨qe F dP0,qe F dP1,qe F dQ0,qe F dQ1⟩) (first
        |(go_at_call 175;(with_reducible refine(HC1.out _ ?_).mono ?_);(first|exact F|exact zai F);rintro e wn ⟨rfl,hbn⟩;replace F:=q9 (by first|exact F|exact zai F) hbn rfl)
        |(go_at_call 175;(with_reducible refine(HC2.out _ ?_).mono ?_);(first|exact F|exact zai F);rintro e wn ⟨rfl,hbn⟩;replace F:=q9 (by first|exact F|exact zai F) hbn rfl))
       all_goals
        go_wp2_with fail;go_meet;exact⟨by rw[<-HBB.out],by first|exact F|exact zai F⟩
      case rest=>
       obtain⟨rfl,hTc⟩:=hcut;have hTn:=q9 C hTc rfl;have hVc:=qp J hTc;obtain⟨w9,HWC⟩:∃wq:World,wq=wc:=⟨_,rfl⟩;subst HWC
       rcases bb with _|_
       .have HEQ:Hid (evT N f (Wb N c (k+1)) L=evT N f (Wb N c (k+1)) R):=by
         show _=_
         have:=HBB.out;rw[HEL.out,HER.out];have h2:(eL:Int)=(eR:Int):=by simpa using this
         omega
        have HALL2:Hid (∀i,i<k+1->evT N f (Wb N c (i+1)) L=evT N f (Wb N c (i+1)) R):=fun i hi=>by
         by_cases e:i=k
         .subst e;exact HEQ.out
         .exact HALL.out i (by omega)
        go_wp2_with fail
        go_roundw
        case rel=>exact⟨k+1,by omega,by go_num,HALL2,hVc,hTn⟩
        case measure=>simp[intOf];try omega
       .have HNE:Hid (¬q5h N f L R):=fun hh=>by
         have h1:=M.out.1 hh k hlt;have:=HBB.out;rw[HEL.out,HER.out]at h1;rw[h1]at this;simp at this
        go_wp2_with fail
        go_ret2
        exact⟨_,_,_,by rw[zbh (show r<=5000 by omega)];rfl,fun _=>.inr ⟨HNE.out,_,rfl⟩,q9 T0 (q9 T2 hTn rfl) rfl⟩
   .have hk1:¬(k:Int)<(r:Int):=by omega
    have HYES:Hid (q5h N f L R):=M.out.2 fun i hi=>HALL.out i (by omega)
    go_wp2_with fail
    go_ret2
    exact⟨_,_,_,by rw[zbh (show r<=5000 by omega)];rfl,fun _=>.inl ⟨HYES.out,rfl,rfl,rfl⟩,q9 T0 (q9 T2 Q rfl) rfl⟩
theorem qrr (w:World):(binOp BinOp.eql 43 (Value.slice none 0 0) (Value.slice none 0 0)).run Tryz.prog w=.ok (.bool true) w:=by rfl
theorem qrs (w:World) (p:Addr) (n c:Nat):(binOp BinOp.eql 43 (Value.slice (some p) n c) (Value.slice none 0 0)).run Tryz.prog w=.ok (.bool false) w:=by rfl
theorem qpl {a b c d:Bool} (h:a=c) (e:b=d):Ending.returned (.tuple #[.bool a,.bool b])=.returned (.tuple #[.bool c,.bool d]):=by rw[h,e]
theorem q57 {n:Nat} {ops:List OpM} {L R:List Int} (h:askB n ops L R=true):q2e ops L=true/\q2e ops R=true:=by
 unfold askB at h;rw[zal,zal]at h;exact h.1
theorem q90 (cs ds:List Value) (x:qi) (e:q1g) (w:World) (h:qf.rd w cs x) (K:qw.rd w ds e) (N:AlgP x):
  Calls Tryz.prog 126 #[.agg cs.toArray,.agg ds.toArray] w (Bl w (.tuple #[.bool (q5r x.1.toNat x.2 e.1 e.2),.bool (askB x.1.toNat x.2 e.1 e.2)])):=by
 have y:=h;have o:=K;obtain⟨B,m,d,rfl,-,qo⟩:=qv h;obtain⟨P,Y,W,Q,Z,X,rfl,rL,rR⟩:=q1k K;obtain⟨C,A,s,z,BP,BQ⟩:=q1q w #[.int .i64 x.1,.slice B m d] #[.slice P Y W,.slice Q Z X] 24 55;have I:=zaa A;have G:Hid (∀q,Below C.heap.size C q->qf.rd q [.int .i64 x.1,.slice B m d] x):=fun q O=>qf.stab (qf.stab y s.block) O.block
 have R:Hid (∀q,Below C.heap.size C q->qw.rd q [.slice P Y W,.slice Q Z X] e):=fun q O=>qw.stab (qw.stab o s.block) O.block
 have V:=zaa N;have S:=zaa (q5t _ x C (G.out _ (zac _ _)));rw[q43.2 N]at S;obtain⟨c,f⟩:=cl2 BP;obtain⟨g,i⟩:=cl2 BQ;obtain⟨ok,j⟩:∃b,Hid ((q2e x.2 e.1 &&q2e x.2 e.2)=b):=⟨_,rfl⟩;obtain⟨k,a⟩:∃b,Hid (askB x.1.toNat x.2 e.1 e.2=b):=⟨_,rfl⟩;have H:Hid (q5r x.1.toNat x.2 e.1 e.2=(k &&tt (q5h x.1.toNat x.2 e.1 e.2))):=by show _=_;unfold q5r;rw[a.out]
 rw[a.out,H.out];clear A z y o rL rR qo N h K
 go_enter Tryz.func126,Tryz.ntmps126
 go_upto_region 1 with fail;rw[<-I.out];go_wp2_with fail;refine S.out.mono ?_;rintro e1 w1 ⟨rfl,l⟩;have r:=kk4 l c f g i;clear c f g i;obtain⟨c,f,g,i⟩:=r;have T:=zaa (qb4 _ _ x e w1 (G.out _ l) (R.out _ l) V.out);rw[j.out]at T;go_wp2_with fail;refine T.out.mono ?_;rintro e2 w2 ⟨rfl,u⟩;have E:=q9 l u rfl;have r:=kk4 u c f g i;clear c f g i;obtain⟨c,f,g,i⟩:=r
 rcases ok with _|_
 .have h0:k=false:=by
   rcases k with _|_
   .rfl
   .have:=q57 a.out
    rw[this.1,this.2]at j;exact absurd j.out (by decide)
  subst h0;go_wp2_with fail
  go_ret2
  exact⟨rfl,q9 s E rfl⟩
 .have n:=j.out
  rw[zal]at n;have U:=zaa (qcd _ _ x e w2 (G.out _ E) (R.out _ E) V.out n.1 n.2);rw[a.out]at U;obtain⟨t,D⟩:∃t,Hid (tt (q5h x.1.toNat x.2 e.1 e.2)=t):=⟨_,rfl⟩;clear n;go_wp2_with fail;refine U.out.mono ?_;rintro e3 w3 ⟨A3,n3,c3,rfl,F,L⟩;have J:=q9 E L rfl
  rcases k with _|_
  .clear F
   go_wp2_with fail
   go_ret2
   exact⟨rfl,q9 s J rfl⟩
  .rcases F rfl with⟨v,rfl,rfl,rfl⟩|⟨v,p,rfl⟩
   .have M:t=true:=by rw[<-D.out];exact q2h.2 v
    subst M;have hE:=qrr w3;clear F v;go_wp2_with fail
    go_ret2
    exact⟨qpl (by rw[D.out];rfl) rfl,q9 s J rfl⟩
   .have M:t=false:=by rw[<-D.out];exact(q2r v).symm
    subst M;have hE:=qrs w3 p n3 c3;clear F v;go_wp2_with fail
    go_ret2
    exact⟨qpl (by rw[D.out];rfl) rfl,q9 s J rfl⟩
theorem qcq (cs ds:List Value) (x:qi) (e:q1g) (M:Option Addr) (E c0:Nat) (V:List Int) (w:World) (h:qf.rd w cs x) (h':qw.rd w ds e) (g:RdL RI w M E V) (hx:AlgP x):
  Calls Tryz.prog 127 #[.agg cs.toArray,.agg ds.toArray,.slice M E c0] w (Bl w (.bool (askB x.1.toNat x.2 e.1 e.2 &&q3f x.1.toNat x.2 e.1 e.2 V))):=by
 have hrd:=h;have Q:=h';obtain⟨B,m,d,rfl,-,qo⟩:=qv h;obtain⟨O,T,X,P,U,Y,rfl,rL,rR⟩:=q1k h';obtain⟨J,hw0,F,hsz0,BP,BQ⟩:=q1q w #[.int .i64 x.1,.slice B m d] #[.slice O T X,.slice P U Y] 24 55;have HW0:=zaa hw0;have H1:Hid (∀a,Below J.heap.size J a->qf.rd a [.int .i64 x.1,.slice B m d] x):=fun a p=>qf.stab (qf.stab hrd F.block) p.block
 have H2:Hid (∀a,Below J.heap.size J a->qw.rd a [.slice O T X,.slice P U Y] e):=fun a p=>qw.stab (qw.stab Q F.block) p.block
 have HL:Hid (∀a,Below J.heap.size J a->RdL RI a O T e.1):=fun a p=>(rL.next qd F).next qd p
 have HR:Hid (∀a,Below J.heap.size J a->RdL RI a P U e.2):=fun a p=>(rR.next qd F).next qd p
 have HV:Hid (∀a,Below J.heap.size J a->RdL RI a M E V):=fun a p=>(g.next qd F).next qd p
 have HVL:=zaa g.len;have HX:=zaa hx;have HA:=zaa (q90 _ _ x e J (H1.out _ (zac _ _)) (H2.out _ (zac _ _)) hx);obtain⟨n,s⟩:=cl2 BP;obtain⟨u,A⟩:=cl2 BQ;obtain⟨ask,H⟩:∃b,Hid (askB x.1.toNat x.2 e.1 e.2=b):=⟨_,rfl⟩;obtain⟨hb,HHB⟩:∃b,Hid (q5r x.1.toNat x.2 e.1 e.2=b):=⟨_,rfl⟩;rw[H.out,HHB.out]at HA;rw[H.out];clear hw0 hsz0 hrd Q rL rR qo hx h h' g
 go_enter Tryz.func127,Tryz.ntmps127
 go_upto_region 1 with fail;rw[<-HW0.out];go_wp2_with fail;refine HA.out.mono ?_;rintro e1 w1 ⟨rfl,C⟩;have zkk:=kk4 C n s u A;clear n s u A;obtain⟨n,s,u,A⟩:=zkk
 rcases ask with _|_
 .go_wp2_with fail
  go_ret;exact⟨rfl,q9 F C rfl⟩
 obtain⟨N,hN⟩:∃N:Nat,x.1=(N:Int):=⟨x.1.toNat,by have:=HX.out.1;omega⟩;have W:=zaa hN;have hN8:N<=8:=by have:=HX.out.2.1;omega
 have hN1:1<=N:=by have:=HX.out.1;omega
 have I:Hid (x.1.toNat=N):=by show _=_;omega
 rw[hN]at n;obtain⟨ins,K⟩:∃b,Hid (q1z 0 ((N:Int) - 1) V=b):=⟨_,rfl⟩;have HC:=zaa (q4e M E c0 V (N:Int) w1 (HV.out _ C));rw[K.out]at HC;clear hN;go_wp2_with fail;refine HC.out.mono ?_;rintro e2 w2 ⟨rfl,rfl⟩
 rcases ins with _|_
 .have j:Hid (q3f N x.2 e.1 e.2 V=false):=by show _=_;unfold q3f;rw[K.out];rfl
  go_wp2_with fail;go_ret;exact⟨qg (by rw[I.out,j.out];rfl),q9 F C rfl⟩
 have G:=q57 H.out;have HT1:=zaa G.1;have HT2:=zaa G.2;obtain⟨c,D⟩:∃l,Hid (q35 e.1 e.2=l):=⟨_,rfl⟩;have HV6:Hid (c.length<=6):=by show _<=6;rw[<-D.out];exact qaz _ _
 have HVI:Hid (∀v∈c,0<=v/\v<=5):=by rw[<-D.out];exact q55 _ _
 have HVL1:Hid (∀v∈e.1,v<(mxV c:Int)):=by rw[<-D.out];exact fun v g=>q6q G.1 G.2 (.inl g)
 have HVR1:Hid (∀v∈e.2,v<(mxV c:Int)):=by rw[<-D.out];exact fun v g=>q6q G.1 G.2 (.inr g)
 have T1:=qm w1 (.cells #[.slice O T X,.slice P U Y] 43)
 have HVV:=zaa (qc8 (some ⟨w1.heap.size,0,none⟩) 2 2 [e.1,e.2] _ (qpj O P T U X Y e.1 e.2 w1 43 (HL.out _ C) (HR.out _ C)) (fun t G v g=>by
  rcases zbf.1 G with rfl|G
  .exact(q1v (q2y HT1.out v g)).1
  .rw[zb2]at G
   subst G
   exact(q1v (q2y HT2.out v g)).1) (by omega))
 have HVE:Hid (q1m 6 (vmTo [e.1,e.2] 2)=c):=by show _=_;rw[<-D.out];exact q22 fun y hy=>qir _ _ y
 rw[HVE.out]at HVV;clear G;go_wp2_with fail;refine HVV.out.mono ?_;rintro e w3 ⟨A6,c6,rfl,ho6,hb3⟩;have r6:=q12 (R:=RI) ho6 (q1r fun v g=>by have:=HVI.out v g;omega);have T3:=q9 T1 hb3 rfl;have f:=q9 C T3 rfl;have zkk:=kk4 T3 n s u A;clear n s u A;obtain⟨n,s,u,A⟩:=zkk;obtain⟨q,HQ⟩:∃q,Hid (c.length=q):=⟨_,rfl⟩;rw[HQ.out]at r6 HV6⊢;have hq6:=HV6.out;clear ho6;go_wp2_with fail
 go_loop [9,34] (fun mm i=>∃(k S:Nat),k<=q/\i=.int .i64 k/\mm=.int .i64 S/\Hid (S=mxV (c.take k))/\S<=6) (fun _ i=>q - (intOf i).toNat)
 case atStart=>exact⟨0,0,zah _,rfl,rfl,rfl,zah _⟩
 case round=>
  obtain⟨k,S,hk,rfl,rfl,HMX,hm6⟩:=hrel
  by_cases hlt:k<q
  .have hk0:(0:Int)<=(k:Int):=by omega
   have hk1:(k:Int)<(q:Int):=by omega
   obtain⟨b,o,vv,v,rfl,hc,⟨rfl,hv0,hv1⟩,-,ab⟩:=r6.at hlt;have hvi:=HVI.out v (zaf ab);have L:Hid ((mxV (c.take (k+1)):Int)=v+1):=qd0 (by rw[zbp,ab];simp) hvi.1;obtain⟨y,rfl⟩:=zan hvi.1;clear ab;go_wp2_with fail
   go_round
   case rel=>exact⟨k+1,y+1,by omega,by go_num,by go_num,(by show _=_;have:=L.out;omega),by omega⟩
   case measure=>simp[intOf];try omega
  .obtain rfl:k=q:=by omega
   have hk1:¬(k:Int)<(k:Int):=by omega
   have L:Hid (mxV c=S):=by
    show _=_
    rw[HMX.out,zar (by rw[HQ.out];exact zad _)]
   obtain⟨eL,HEL⟩:∃z,Hid (evT N x.2 V e.1=z):=⟨_,rfl⟩;obtain⟨eR,HER⟩:∃z,Hid (evT N x.2 V e.2=z):=⟨_,rfl⟩;obtain⟨bb,HBB⟩:∃b,Hid (((eL:Int) !=(eR:Int))=b):=⟨_,rfl⟩;have HIV:=zaa (q3e.1 K.out);have HF:Hid (q3f N x.2 e.1 e.2 V=(decide (E=S) &&bb)):=by
    show _=_
    unfold q3f;rw[K.out,D.out,L.out,HVL.out,HEL.out,HER.out,<-HBB.out,zdo]
    congr 1
    rw[zcc,zax,bne_iff_ne];exact⟨fun h hh=>h (by omega),fun h hh=>h (by omega)⟩
   by_cases hnm:E=S
   .subst hnm
    have aa:∀v,v<(mxV c:Int)->v<(V.length:Int):=fun v g=>by rw[HVL.out];rw[L.out]at g;exact g
    have HC1:Hid (∀a,Below w3.heap.size w3 a->Calls Tryz.prog 175 #[.agg #[.int .i64 x.1,.slice B m d],.slice O T X,.slice M E c0] a (Bl a (.int .i64 (eL:Int)))):=fun a p=>by
     have:=q9j _ x O M T X E c0 e.1 V a (H1.out a (q9 f p rfl)) HX.out (HL.out a (q9 f p rfl)) (HV.out a (q9 f p rfl)) HT1.out (fun v g=>aa v (HVL1.out v g)) (fun y hy=>by have:=HIV.out y hy;rw[W.out];exact this);rw[I.out,HEL.out]at this;exact this
    have HC2:Hid (∀a,Below w3.heap.size w3 a->Calls Tryz.prog 175 #[.agg #[.int .i64 x.1,.slice B m d],.slice P U Y,.slice M E c0] a (Bl a (.int .i64 (eR:Int)))):=fun a p=>by
     have:=q9j _ x P M U Y E c0 e.2 V a (H1.out a (q9 f p rfl)) HX.out (HR.out a (q9 f p rfl)) (HV.out a (q9 f p rfl)) HT2.out (fun v g=>aa v (HVR1.out v g)) (fun y hy=>by have:=HIV.out y hy;rw[W.out];exact this);rw[I.out,HER.out]at this;exact this
    rw[W.out]at HC1 HC2;have hd1:((E:Int)==(E:Int))=true:=by rw[zdx]
    have r:Below w3.heap.size w3 w3:=zac _ _;have j:Hid (q3f N x.2 e.1 e.2 V=bb):=by show _=_;rw[HF.out,zbh rfl];rfl
    clear aa r6;go_upto_region 10 with fail
    go_region_held3 (fun w'=>w'.cell? ⟨w.heap.size,0,none⟩=some (.int .i64 (N:Int))/\w'.cell? ⟨w.heap.size,1,none⟩=some (.slice B m d)/\w'.cell? ⟨w.heap.size+1,0,none⟩=some (.slice O T X)/\w'.cell? ⟨w.heap.size+1,1,none⟩=some (.slice P U Y)) (first|go_keep|exact⟨qe r n,qe r s,qe r u,qe r A⟩) (first
     |(go_at_call 175;(with_reducible refine(HC1.out _ ?_).mono ?_);(first|exact r|exact zai r);rintro e wn ⟨rfl,Z⟩;replace r:=q9 (by first|exact r|exact zai r) Z rfl)
     |(go_at_call 175;(with_reducible refine(HC2.out _ ?_).mono ?_);(first|exact r|exact zai r);rintro e wn ⟨rfl,Z⟩;replace r:=q9 (by first|exact r|exact zai r) Z rfl))
    all_goals
     go_wp2_with fail;go_ret;exact⟨qg (by rw[I.out,j.out,<-HBB.out];rfl),q9 F (q9 f (by first|exact r|exact zai r) rfl) rfl⟩
   .have hd1:((E:Int)==(S:Int))=false:=by rw[zbj];omega
    have j:Hid (q3f N x.2 e.1 e.2 V=false):=by show _=_;rw[HF.out,zbi hnm];rfl
    clear r6;go_upto_region 10 with fail
    go_quiet (fail)
    go_wp2_with fail;go_ret;exact⟨qg (by rw[I.out,j.out]),(by first|exact q9 F f rfl|exact qc (q9 F f rfl) _|exact qc (qc (q9 F f rfl) _) _|exact qc (qc (qc (q9 F f rfl) _) _) _)⟩
theorem qk6 (A:Option Addr) (n c d i:Nat) (L:List Bool) (w:World) (h:RdL RB w A n L) (l:0<n) (H:n<=1000) (F:d<=1000) (hi:i<=1048576):
  Calls Tryz.prog 200 #[.int .i64 i,.int .i64 d,.int .i64 n,.slice A n c] w fun e w'=>e=.returned (.bool (AllM n d i L))/\w=w':=by
 have z:=h.le
 go_enter Tryz.func200,Tryz.ntmps200
 go_wp2
 go_loop [0,1] (fun s j=>∃k a:Nat,k<=d/\j=.int .i64 k/\s=.int .i64 a/\a<=1048576/\Hid (AllM n k a L=AllM n d i L)) (fun _ j=>(intOf j).toNat)
 case atStart=>exact⟨d,i,zad _,rfl,rfl,hi,rfl⟩
 case round=>
  obtain⟨k,a,G,rfl,rfl,x,g⟩:=hrel
  rcases k with _|k
  .have t:¬(0:Int)<((0:Nat):Int):=by omega
   have r:Hid (AllM n d i L=true):=by show _=_;rw[<-g.out];rfl
   go_wp2
   go_ret;exact⟨qg r.out.symm,rfl⟩
  .have t:(0:Int)<((k+1:Nat):Int):=by omega
   have C:a % n<n:=zfn _ l;obtain⟨b,o,u,v,rfl,y,rfl,-,p⟩:=h.at C;have m:Hid (AllM n (k+1) a L=(AllM n k (a / n) L &&v)):=by
    show _=_
    unfold AllM;rw[digs,List.all_append,<-q7y p];simp
   have B:¬(n:Int)=0:=by omega
   have f:a / n<=1048576:=za7 (zfj _ _) x;have q:Hid (wrap64 ((a:Int) / (n:Int))=((a / n:Nat):Int)):=by
    show _=_
    have e:(a:Int) / (n:Int)=((a / n:Nat):Int):=by simp
    rw[e];exact w64 f
   have D:(0:Int)<=((a % n:Nat):Int):=by omega
   have E:((a % n:Nat):Int)<(n:Int):=by omega
   clear p
   rcases v with _|_
   .go_wp2
    go_ret;exact⟨qg (by rw[<-g.out,m.out,zd9]),rfl⟩
   .go_wp2
    go_round
    case rel=>exact⟨k,a / n,by omega,by go_num,by rw[q.out],f,by show _=_;rw[<-g.out,m.out,Bool.and_true]⟩
    case measure=>simp[intOf];try omega
noncomputable def offW (w:World) (g n:Nat):Nat:=(List.range n).countP fun y=> !(tt (w.cell? ⟨g,y,none⟩=some (.bool true)))
def qq6:Value->Nat| .bool true=>1|_=>0
theorem qhx {w:World} {base g n c:Nat} {L:List Bool} (h:w.ownsRow base 4 1 (.slice (some ⟨g,0,none⟩) n c) n (bls L)) (d:L.length=n):offW w g n=offs L:=by
 have e:L=(List.range n).map (gB L):=qkq (n:=n) d (by simp) fun y a=>by
  refine(q7y ?_).symm;rw[za2,zeo a];rfl
 unfold offW offs;rw[e,List.countP_map];refine List.countP_congr fun y a=>?_
 have f:=zdd.1 a;have b:w.cell? ⟨g,y,none⟩=some (.bool (gB L y)):=by rw[h.cellAt y (by omega),q66 (by omega)]
 rw[b];simp only[Function.comp_apply]
 rcases gB L y with _|_<;>simp[tt]
def ChM (n:Nat) (ops:List OpM) (L M:List Bool) (ch:Bool) (k:Nat):Prop:=(ch=true->offs M<offs L)/\(ch=false->M=L/\∀j,j<k->∀o,ops[j]?=some o->∀i,i<o.2.length->OkE n M o i)
def ChN (n:Nat) (ops:List OpM) (L M:List Bool) (ch:Bool) (k q:Nat) (op:OpM):Prop:=(ch=true->offs M<offs L)/\(ch=false->M=L/\(∀j,j<k->∀o,ops[j]?=some o->∀i,i<o.2.length->OkE n M o i)/\∀i,i<q->OkE n M op i)
theorem qb0 (cs:List Value) (x:qi) (g n c base:Nat) (J:List Bool) (wa w:World) (h:qf.rd wa cs x) (hx:AlgP x) (hn:x.1=(n:Int)) (hT:Below wa.heap.size wa w) (Y:wa.heap.size<=base) (f:w.ownsRow base 4 1 (.slice (some ⟨g,0,none⟩) n c) n (bls J)) (hl0:J.length=n):
  Calls Tryz.prog 179 #[.agg cs.toArray,.slice (some ⟨g,0,none⟩) n c] w fun e w'=>∃L,e=.returned (.slice (some ⟨g,0,none⟩) n c)/\w'.ownsRow base 4 1 (.slice (some ⟨g,0,none⟩) n c) n (bls L)/\L.length=n/\(∀y,y<n->gB L y=clB n x.2 (gB J) y)/\w.grownBy w' (some g):=by
 obtain⟨a,l⟩:=x;obtain⟨hx1,hx2,hx3,O⟩:=hx;simp only at hx1 hx2 hx3 O hn;subst hn;rw[za5]at O;have hn0:0<n:=by omega
 have hn8:n<=8:=by omega
 obtain⟨B,m,d,rfl,-,qo⟩:=qv h;have HML:=zaa qo.len;have HOPS:=zaa O;have hm4:m<=4:=by rw[<-qo.len];exact hx3
 have hgl:=f.lt g rfl;obtain⟨w0,hw0,T0,hsz0,BP⟩:=q15 w #[.int .i64 (n:Int),.slice B m d] 24;have HW0:=zaa hw0;have G:=qp f T0;have HB:=zaa Y;have hgw:(some w.heap.size)≠some g:=fun e=>by injection e with e;omega
 have HT0:Hid (w.grownBy w0 (some g)):=qnj T0;have W:Hid (∀D,w0.grownBy D (some g)->Below wa.heap.size wa D):=fun D hz=>(q9 hT T0 rfl).grown hz (za7 hT.size T0.size) fun k hk=>by injection hk with hk;subst hk;exact za7 Y hgl.1
 have HBP:Hid (∀D,w0.grownBy D (some g)->D.cell? ⟨w.heap.size,0,none⟩=some (.int .i64 (n:Int))/\D.cell? ⟨w.heap.size,1,none⟩=some (.slice B m d)):=fun D hz=>by
  have:=BP.grown hz hgw;obtain⟨h0,h1⟩:=cl2 this;exact⟨h0,h1⟩
 clear hw0 hsz0 f hx3 O h hT Y
 go_enter Tryz.func179,Tryz.ntmps179
 go_upto_region 1 with fail;rw[<-HW0.out];go_wp2_with fail
 go_loopw [5] (fun s wr=>∃(L:List Bool) (C:Bool),s=.bool C/\Hid (ClI n l J L)/\wr.ownsRow base 4 1 (.slice (some ⟨g,0,none⟩) n c) n (bls L)/\w0.grownBy wr (some g)/\Hid (C=false->∀o∈l,∀i,i<o.2.length->OkE n L o i)) (fun s wr=>2*offW wr g n+qq6 s)
 case atStart=>exact⟨J,true,rfl,ClI.start hl0,G,q4j _ _,fun h=>by cases h⟩
 case round=>
  clear G;obtain⟨L,C,rfl,u,f,K,HCH⟩:=hrel;have HMS:Hid (offW wr g n=offs L):=qhx f u.out.len
  rcases C with _|_
  .have HD:Hid (∀y,y<n->gB L y=clB n l (gB J) y):=fun y hy=>u.out.done (HCH.out rfl) hy
   go_wp2_with fail;go_ret;exact⟨rfl,L,f,u.out.len,HD.out,q49 HT0.out K⟩
  .have kP1:=(HBP.out _ K).2
   obtain⟨ws,HWS⟩:∃ws:World,ws=wr:=⟨_,rfl⟩;subst HWS;have HS0:Hid (ChM n l L L false 0):=id (zao (fun h=>by cases h) fun _=>zao rfl fun j hj=>absurd hj (by omega));go_wp2_with fail;clear kP1
   go_loopw [5,14] (fun s i wr=>∃(k:Nat) (M:List Bool) (C:Bool),k<=m/\i=.int .i64 k/\s=.bool C/\Hid (ClI n l J M)/\wr.ownsRow base 4 1 (.slice (some ⟨g,0,none⟩) n c) n (bls M)/\w0.grownBy wr (some g)/\Hid (ChM n l L M C k)) (fun _ i _=>m - (intOf i).toNat)
   case atStart=>exact⟨0,L,false,zah _,rfl,rfl,u,f,K,HS0⟩
   case round=>
    clear f K u;obtain⟨k,M,C,hk,rfl,rfl,u,f,K,p⟩:=hrel
    by_cases hlt:k<m
    .have hk0:(0:Int)<=(k:Int):=by omega
     have hk1:(k:Int)<(m:Int):=by omega
     obtain⟨b,o,vs,op,rfl,-,hc,hr,-,hxo⟩:=qo.at hlt;obtain⟨B',I,d',rfl,-,qt⟩:=rdOp hr;have N:=HOPS.out op (zaf hxo);obtain⟨E,S,rfl,har⟩:=q89 N;have HXO:=zaa hxo;have HTL:Hid (I=n ^ E):=by show _=_;rw[<-qt.len];have:=N.2.2.1;simpa using this
     have HTB:Hid (S.length=I):=qt.len;have HTV:=zaa N.2.2.2;have cc0:=qe (W.out _ K) (hc 0 _ rfl);have cc1:=qe (W.out _ K) (hc 1 _ rfl);have hm512:I<=4096:=by rw[HTL.out];exact q47 hn8 (by omega)
     obtain⟨w1,hw1,T1,hsz1,BX⟩:=q15 wr #[.int .i64 (E:Int),.slice B' I d'] 122;have HW1:=zaa hw1;have hg1:=(f.lt g rfl);have hG1:w0.grownBy w1 (some g):=q49 K (qnj T1);have H:=qp f T1;have hgx:(some wr.heap.size)≠some g:=fun e=>by injection e with e;omega
     have HBX:Hid (∀D,w1.grownBy D (some g)->D.cell? ⟨wr.heap.size,0,none⟩=some (.int .i64 (E:Int))/\D.cell? ⟨wr.heap.size,1,none⟩=some (.slice B' I d')):=fun D hz=>by
      have:=BX.grown hz hgx;obtain⟨h0,h1⟩:=cl2 this;exact⟨h0,h1⟩
     have kX1:=(HBX.out _ (q4j _ _)).2;clear hc hr hw1 hsz1 hxo f N;have cc0':wr.cell? ⟨b,o+k*2,none⟩=some (.int .i64 (E:Int)):=cc0;have cc1':wr.cell? ⟨b,o+k*2+1,none⟩=some (.slice B' I d'):=cc1;clear cc0 cc1;go_wp2_with fail;rw[<-HW1.out];go_wp2_with fail;clear kX1 cc0' cc1';have HS1:Hid (ChN n l L M C k 0 ((E:Int),S)):=id (zao p.out.1 fun h=>zao (p.out.2 h).1 (zao (p.out.2 h).2 fun i Q=>absurd Q (by omega)))
     go_loopw [5,21] (fun s i wi=>∃(q:Nat) (t:List Bool) (r:Bool),q<=I/\i=.int .i64 q/\s=.bool r/\Hid (ClI n l J t)/\wi.ownsRow base 4 1 (.slice (some ⟨g,0,none⟩) n c) n (bls t)/\w1.grownBy wi (some g)/\Hid (ChN n l L t r k q ((E:Int),S))) (fun _ i _=>I - (intOf i).toNat)
     case atStart=>exact⟨0,M,C,zah _,rfl,rfl,u,H,q4j _ _,HS1⟩
     case round=>
      clear H u p;obtain⟨q,t,r,hq,rfl,rfl,u,f,F,p⟩:=hrel;have X:w0.grownBy wr (some g):=q49 hG1 F
      by_cases hlq:q<I
      .have hq0:(0:Int)<=(q:Int):=by omega
       have hq1:(q:Int)<(I:Int):=by omega
       obtain⟨b3,o3,u3,v,rfl,hc3,⟨rfl,-,-⟩,-,P⟩:=(qt.next qd (W.out _ X)).at hlq;have hvi:=HTV.out v (zaf P);obtain⟨y,rfl⟩:=zan hvi.1;have hyn:y<n:=by omega
       have HXV:=zaa P;have HNM:Hid (nmAt S q=y):=by show _=_;rw[q1d P];simp
       have hll:=u.out.len;have Z:wr.cell? ⟨g,y,none⟩=some (.bool (gB t y)):=by rw[f.cellAt y (by omega),q66 (by omega)]
       have hy0:(0:Int)<=(y:Int):=by omega
       have hy1:(y:Int)<(n:Int):=by omega
       have kP0:=(HBP.out _ X).1;have kX0:=(HBX.out _ F).1;obtain⟨bv,U⟩:∃b,Hid (gB t y=b):=⟨_,rfl⟩;rw[U.out]at Z;clear P hvi
       rcases bv with _|_
       .have HC:=zaa (qk6 (some ⟨g,0,none⟩) n c E q t wr (q12 (R:=RB) f (fun z _=>rfl)) hn0 (by omega) (by omega) (by omega))
        obtain⟨al,T⟩:∃b,Hid (AllM n E q t=b):=⟨_,rfl⟩;rw[T.out]at HC;have hfz:=f.frozenAt y;have hst:=(f.stored y (.bool true)).1;rw[q7i]at hst;have HST:=zaa hst;have HOW:=zaa f;clear hst f;go_wp2_with fail;refine HC.out.mono ?_;rintro e w3 ⟨rfl,rfl⟩
        rcases al with _|_
        .have A:Hid (ChN n l L t r k (q+1) ((E:Int),S)):=id ⟨p.out.1,fun h=>⟨(p.out.2 h).1,(p.out.2 h).2.1,fun i Q=>by
          by_cases e:i=q
          .subst e
           intro hA;have:=T.out;simp only[za5]at hA;rw[hA]at this;cases this
          .exact(p.out.2 h).2.2 i (by omega)⟩⟩
         go_wp2_with fail
         go_roundw
         case rel=>exact⟨q+1,t,r,by omega,by go_num,rfl,u,HOW.out,F,A⟩
         case measure=>simp[intOf];try omega
        .have V:Hid (ClI n l J (t.set y true)):=u.out.mark hn0 (zaf HXO.out) HXV.out hyn (by simpa using T.out)
         have A:Hid (ChN n l L (t.set y true) true k (q+1) ((E:Int),S)):=id ⟨fun _=>by
          have h1:=qhy (L:=t) (x:=y) (by rw[qni (by omega),U.out])
          rcases r with _|_
          .rw[(p.out.2 rfl).1]at h1⊢;omega
          .have:=p.out.1 rfl;omega,fun h=>by cases h⟩
         go_wp2_with fail
         go_roundw
         case rel=>exact⟨q+1,t.set y true,true,by omega,by go_num,rfl,V,HST.out,qpc F rfl _,A⟩
         case measure=>simp[intOf];try omega
       .have A:Hid (ChN n l L t r k (q+1) ((E:Int),S)):=id ⟨p.out.1,fun h=>⟨(p.out.2 h).1,(p.out.2 h).2.1,fun i Q=>by
         by_cases e:i=q
         .subst e
          intro _;show gB t (nmAt S i)=true
          rw[HNM.out,U.out]
         .exact(p.out.2 h).2.2 i (by omega)⟩⟩
        go_wp2_with fail
        go_roundw
        case rel=>exact⟨q+1,t,r,by omega,by go_num,rfl,u,f,F,A⟩
        case measure=>simp[intOf];try omega
      .have hq1:¬(q:Int)<(I:Int):=by omega
       have A:Hid (ChM n l L t r (k+1)):=id ⟨p.out.1,fun h=>⟨(p.out.2 h).1,fun j hj o ho i Q=>by
        by_cases e:j=k
        .subst e
         rw[HXO.out]at ho;injection ho with ho
         subst ho;exact(p.out.2 h).2.2 i (by have:=HTB.out;simp only at Q;omega)
        .exact(p.out.2 h).2.1 j (by omega) o ho i Q⟩⟩
       go_wp2_with fail
       go_roundw
       case rel=>exact⟨k+1,t,r,by omega,by go_num,rfl,u,f,X,A⟩
       case measure=>simp[intOf];try omega
    .have hk1:¬(k:Int)<(m:Int):=by omega
     have V:=u;have HFIN:Hid (C=false->∀o∈l,∀i,i<o.2.length->OkE n M o i):=fun h o ho i Q=>by
      obtain⟨j,hj⟩:=zbo ho;have hjl:=(zag.1 hj).1;exact(p.out.2 h).2 j (by rw[HML.out]at hjl;omega) o hj i Q
     have HMS2:Hid (offW wr g n=offs M):=qhx f u.out.len;go_wp2_with fail
     go_roundw
     case rel=>exact⟨M,C,rfl,V,f,K,HFIN⟩
     case measure=>
      show 2*offW wr g n+qq6 (.bool C)<2*offW _ g n+qq6 (.bool true)
      rw[HMS2.out,HMS.out]
      rcases C with _|_
      .have:=(p.out.2 rfl).1
       subst this;show 2*offs M+0<2*offs M+1
       omega
      .have:=p.out.1 rfl
       show 2*offs M+1<2*offs L+1
       omega
theorem qq9 {n:Nat} {ops:List OpM} {S:List Int} (a:n<=1048576):∀v∈genL n ops S, -9223372036854775808<=v/\v<=9223372036854775807:=qo3 n _ a
theorem q68 (cs:List Value) (x:qi) (A:Option Addr) (m c:Nat) (S:List Int) (w:World) (h:qf.rd w cs x) (F:AlgP x) (u:RdL RI w A m S) (hS:∀v∈S,0<=v/\v<=x.1 - 1):
  Calls Tryz.prog 132 #[.agg cs.toArray,.slice A m c] w (OwI w (genL x.1.toNat x.2 S)):=by
 have C:=h;obtain⟨B,k,d,rfl,-,qo⟩:=qv h;obtain⟨n,H⟩:∃n:Nat,x.1=(n:Int):=⟨x.1.toNat,by have:=F.1;omega⟩;have o:=zaa H;have hn8:n<=8:=by have:=F.2.1;omega
 have hn0:0<n:=by have:=F.1;omega
 have I:Hid (x.1.toNat=n):=by show _=_;omega
 obtain⟨i,E,G,D,T⟩:=q15 w #[.int .i64 x.1,.slice B k d] 24;have p:=zaa E;rw[H]at p T hS;obtain⟨K,M⟩:=cl2 T;have HX:=zaa F;have J:=zaa (qf.stab C G.block);have Z:=zaa hS;have U:=u.next qd G;have X:Hid (∀f,Below i.heap.size i f->Calls Tryz.prog 180 #[.slice A m c,.int .i64 (n:Int)] f fun e w'=>e=.returned (.slice (some ⟨f.heap.size,0,none⟩) n n)/\w'.ownsRow f.heap.size 4 1 (.slice (some ⟨f.heap.size,0,none⟩) n n) n (bls (inL n S))/\Below f.heap.size f w'):=fun f Q=>qli A m c n S f (U.next qd Q) Z.out (by omega)
 have W:Hid (∀(g b:Nat) (f:World),Below i.heap.size i f->i.heap.size<=b->f.ownsRow b 4 1 (.slice (some ⟨g,0,none⟩) n n) n (bls (inL n S))->Calls Tryz.prog 179 #[.agg #[.int .i64 (n:Int),.slice B k d],.slice (some ⟨g,0,none⟩) n n] f fun e w'=>∃L,e=.returned (.slice (some ⟨g,0,none⟩) n n)/\w'.ownsRow b 4 1 (.slice (some ⟨g,0,none⟩) n n) n (bls L)/\L.length=n/\(∀y,y<n->gB L y=clB n x.2 (gB (inL n S)) y)/\f.grownBy w' (some g)):=fun g b f Q hb ho=>by
  have:=qb0 _ x g n n b (inL n S) i f J.out HX.out o.out Q hb ho (q5s _ _);rw[o.out]at this;exact this
 rw[I.out];rw[H];have a:Below i.heap.size i i:=zac _ _;clear E D C qo h F u hS H U
 go_enter Tryz.func132,Tryz.ntmps132
 go_upto_region 1 with fail;rw[<-p.out]
 go_region_held3 (fun w'=>w'.cell? ⟨w.heap.size,0,none⟩=some (.int .i64 (n:Int))/\w'.cell? ⟨w.heap.size,1,none⟩=some (.slice B k d)) (first|go_keep|exact⟨qe a K,qe a M⟩) (first
  |(go_at_call 180;(refine(X.out _ ?_).mono ?_);(first|exact a|exact zai a);rintro e wm ⟨rfl,l,P⟩;replace l:=ql (base':=i.heap.size) l (by exact a.size);replace a:=q9 (by first|exact a|exact zai a) P rfl)
  |(go_at_call 179;(refine(W.out _ i.heap.size _ ?_ (zad _) ?_).mono ?_);(first|exact a|exact zai a);(exact l);rintro e wc ⟨L,rfl,t,hlc,q,s⟩;replace a:=Below.grown (by first|exact a|exact zai a) s (by exact a.size) (fun r u=>by injection u with u;have:=l.lt _ rfl;omega);have N:q1m n (gB L)=genL n x.2 S:=q22 q)
  |(go_at_call 178;(refine(qbv _ n n L _ (by exact q12 (R:=RB) t (fun z _=>rfl)) (by omega)).mono ?_);rintro e wd ⟨V,c5,rfl,j,O⟩;replace j:=ql (base':=i.heap.size) j (by exact a.size);replace a:=q9 (by first|exact a|exact zai a) O rfl))
 all_goals
  rw[N]at j;have HE:=zaa N;have Y:=zaa j;clear j N t l s q;go_wp2_with fail;go_ret;exact⟨V,c5,rfl,ql Y.out G.size,q9 G (by first|exact a|exact zai a) rfl⟩
theorem ql2 (cs:List Value) (x:qi) (A:Option Addr) (m c:Nat) (S:List Int) (w:World) (h:qf.rd w cs x) (u:AlgP x) (E:RdL RI w A m S):
  Calls Tryz.prog 128 #[.agg cs.toArray,.slice A m c] w (Bl w (.bool (subB x.1.toNat x.2 S))):=by
 have r:=h;obtain⟨B,k,d,rfl,-,qo⟩:=qv h;obtain⟨n,D⟩:∃n:Nat,x.1=(n:Int):=⟨x.1.toNat,by have:=u.1;omega⟩;have H:=zaa D;have J:n<=8:=by have:=u.2.1;omega
 have aa:0<n:=by have:=u.1;omega
 have i:Hid (x.1.toNat=n):=by show _=_;omega
 have T:=E.le;have U:=zaa E.len;obtain⟨y,t,p,s,N⟩:=q15 w #[.int .i64 x.1,.slice B k d] 24;have o:=zaa t;have j:Hid (∀M,Below y.heap.size y M->qf.rd M [.int .i64 x.1,.slice B k d] x):=fun M hz=>qf.stab (qf.stab r p.block) hz.block
 rw[D]at o N j;obtain⟨W,X⟩:=cl2 N;have V:=zaa u;have L:=E.next qd p;have O:=zaa (q4e A m c S (n:Int) y L);have P:=zaa (qf2 A m c S y L);obtain⟨Q,a⟩:∃b,Hid (q1z 0 ((n:Int) - 1) S=b):=⟨_,rfl⟩;obtain⟨R,f⟩:∃b,Hid (q24 S=b):=⟨_,rfl⟩;rw[a.out]at O;rw[f.out]at P;have C:Hid (subB n x.2 S=((Q &&R) &&decide ((genL n x.2 S).length=m))):=by show _=_;unfold subB;rw[a.out,f.out,U.out]
 rw[i.out];rw[D];clear t s r qo h u E D
 go_enter Tryz.func128,Tryz.ntmps128
 go_upto_region 1 with fail;rw[<-o.out];go_wp2_with fail;refine O.out.mono ?_;rintro e w1 ⟨rfl,rfl⟩
 rcases Q with _|_
 .go_wp2_with fail
  go_ret;exact⟨qg (by rw[C.out];rfl),p⟩
 go_wp2_with fail;refine P.out.mono ?_;rintro e w1 ⟨rfl,z,rfl⟩
 rcases R with _|_
 .go_wp2_with fail
  go_ret;exact⟨qg (by rw[C.out];rfl),qc p z⟩
 have q:∀v∈S,0<=v/\v<=x.1 - 1:=fun v hv=>by rw[H.out];exact q3e.1 a.out v hv
 have F:=zaa (q68 _ x A m c S (y.drewN z) (j.out _ (qc (zac _ _) z)) V.out (L.drewN qd z) q);rw[i.out]at F;obtain⟨Y,g⟩:∃l,Hid (genL n x.2 S=l):=⟨_,rfl⟩;have G:Hid (Y.length<=8):=by show _<=8;rw[<-g.out];exact za7 (q4u _ _) J
 rw[g.out]at F C;have Z:=G.out;clear q;go_wp2_with fail;refine F.out.mono ?_;rintro e w2 ⟨A2,c2,rfl,K,I⟩;clear K;go_wp2_with fail;go_ret;exact⟨qg (by rw[C.out,zdo,zdo,zcc];simp;try omega),q9 p ((qc (zac _ _) z).trans I) rfl⟩
noncomputable def q7p (n:Nat) (L:List Int):Bool:=tt (PermL n L)
theorem qew {n:Nat} {L:List Int} (h:L.length≠n):false=q7p n L:=q2r fun a=>h a.1
theorem qex {n:Nat} {L:List Int} (h:q1z 0 ((n:Int) - 1) L=false):false=q7p n L:=q2r fun a=>by
 have:=q38.2 a.2.1;rw[this]at h;cases h
theorem qev {n k:Nat} {L:List Int} {y:Int} (d:L[k]?=some y) (h:hasI y (L.take k)=true):false=q7p n L:=q2r fun c=>by
 have b:=q5q.1 h;obtain⟨i,a⟩:=zbo b;rw[zd3]at a
 split at a
 .have:=q9n c.2.2 a d
  omega
 .cases a
theorem qey {n:Nat} {L:List Int} (a:L.length=n) (b:q1z 0 ((n:Int) - 1) L=true) (c:L.Nodup):true=q7p n L:=q6o ⟨a,q38.1 b,c⟩
theorem qc4 {k:Nat} {L:List Int} {y:Int} (h:(L.take k).Nodup) (g:L[k]?=some y) (d:hasI y (L.take k)=false):(L.take (k+1)).Nodup:=by
 rw[zbp,g];show(L.take k++ [y]).Nodup;rw[zbd];refine⟨h,by simp,fun a f b c=>?_⟩;rw[zb2]at c;subst c;intro e;subst e;rw[q5q.2 f]at d;cases d
theorem qks (n:Nat) (L:List Int):inL n (L.take 0)=List.replicate n false:=by
 unfold inL;rw[zcw];exact List.eq_replicate_iff.2 ⟨by simp,fun b a=>by obtain⟨y,-,rfl⟩:=zbe.1 a;rfl⟩
theorem qpb {n x:Nat} {L:List Int} (a:x<n):gB (inL n L) x=hasI (x:Int) L:=by
 unfold gB inL;rw[zak,za2,zeo a];rfl
theorem qg0 (A:Option Addr) (m c n:Nat) (L:List Int) (w:World) (h:RdL RI w A m L) (Y:n<=1000):
  Calls Tryz.prog 85 #[.slice A m c,.int .i64 n] w (Bl w (.bool (q7p n L))):=by
 have R:=h.le;have D:=zaa h.len
 by_cases hmn:m=n
 case neg=>
  have S:((m:Int) !=(n:Int))=true:=by simp;omega
  have l:Hid (false=q7p n L):=qew (by rw[D.out];exact hmn)
  go_enter Tryz.func85,Tryz.ntmps85
  go_wp2_with fail;go_ret;exact⟨qg l.out,zac _ _⟩
 subst hmn;have S:((m:Int) !=(m:Int))=false:=by simp
 obtain⟨O,g⟩:∃b,Hid (q1z 0 ((m:Int) - 1) L=b):=⟨_,rfl⟩;have C:=zaa (q4e A m c L m w h);rw[g.out]at C
 rcases O with _|_
 .have l:=zaa (qex g.out)
  go_enter Tryz.func85,Tryz.ntmps85
  go_wp2_with fail;refine C.out.mono ?_;rintro e w' ⟨rfl,rfl⟩;go_wp2_with fail;go_ret;exact⟨qg l.out,zac _ _⟩
 have N:Hid (∀v∈L,0<=v/\v<=(m:Int) - 1):=q38.1 g.out
 go_enter Tryz.func85,Tryz.ntmps85
 go_wp2_with fail;refine C.out.mono ?_;rintro e w' ⟨rfl,rfl⟩;obtain⟨f,F⟩:∃f:World,f=w:=⟨_,rfl⟩;subst F
 go_wp2_with (at_make;refine qam f rfl _ _ rfl m rfl rfl (by omega) ?_;intro Z d y)
 have t:=(zac f.heap.size f).grown y (zad _) (by simp);clear y
 go_loopw [22] (fun i wr=>∃k:Nat,k<=m/\i=.int .i64 k/\wr.ownsRow f.heap.size 4 1 (.slice (some ⟨f.heap.size,0,none⟩) m m) m (bls (inL m (L.take k)))/\Hid ((L.take k).Nodup)/\Below f.heap.size f wr) (fun i _=>m - (intOf i).toNat)
 case atStart=>
  refine⟨0,zah _,rfl,?_,(by show(L.take 0).Nodup;simp),t⟩;rw[qks];exact d
 case round=>
  clear d t;obtain⟨k,X,rfl,a,r,j⟩:=hrel
  by_cases hlt:k<m
  .have Q:(0:Int)<=(k:Int):=by omega
   have H:(k:Int)<(m:Int):=by omega
   obtain⟨b,o,u,v,rfl,K,⟨rfl,T,U⟩,-,B⟩:=h.at hlt;have I:=N.out v (zaf B);obtain⟨x,rfl⟩:=zan I.1;have q:x<m:=by omega
   have s:=zaa (qco B q);have J:=zaa B;replace K:=qe j K;obtain⟨M,p⟩:∃b,Hid (hasI (x:Int) (L.take k)=b):=⟨_,rfl⟩;have G:wr.cell? ⟨f.heap.size,x,none⟩=some (.bool M):=by rw[a.cellAt x (by omega),q66 (by rw[q5s];exact q),qpb q,p.out]
   have P:=a.frozenAt x;have z:=(a.stored x (.bool true)).1;rw[q7i,s.out]at z;have V:(0:Int)<=(x:Int):=by omega
   have W:(x:Int)<(m:Int):=by omega
   clear B a
   rcases M with _|_
   .have E:=zaa (qc4 r.out J.out p.out)
    go_wp2_with fail
    go_roundw
    case rel=>exact⟨k+1,by omega,by go_num,z,E,j.setCell (zad _) _⟩
    case measure=>simp[intOf];try omega
   .have l:Hid (false=q7p m L):=qev J.out p.out
    go_wp2_with fail;go_ret;exact⟨qg l.out,j⟩
  .have H:¬(k:Int)<(m:Int):=by omega
   have l:Hid (true=q7p m L):=qey D.out g.out (by have:=r.out;rwa [zar (by rw[D.out];omega)]at this);go_wp2_with fail;go_ret;exact⟨qg l.out,j⟩
theorem qg6 (A:Option Addr) (m c n:Nat) (L:List Int) (w:World) (h:RdL RI w A m L) (Y:n<=1000):
  Calls Tryz.prog 63 #[.slice A m c,.int .i64 n] w (Bl w (.bool (q7p n L))):=by
 have R:=h.le;have D:=zaa h.len
 by_cases hmn:m=n
 case neg=>
  have S:((m:Int) !=(n:Int))=true:=by simp;omega
  have l:Hid (false=q7p n L):=qew (by rw[D.out];exact hmn)
  go_enter Tryz.func63,Tryz.ntmps63
  go_wp2_with fail;go_ret;exact⟨qg l.out,zac _ _⟩
 subst hmn;have S:((m:Int) !=(m:Int))=false:=by simp
 obtain⟨O,g⟩:∃b,Hid (q1z 0 ((m:Int) - 1) L=b):=⟨_,rfl⟩;have C:=zaa (q52 A m c L m w h (by omega) (by omega));rw[g.out]at C
 rcases O with _|_
 .have l:=zaa (qex g.out)
  go_enter Tryz.func63,Tryz.ntmps63
  go_wp2_with fail;refine C.out.mono ?_;rintro e w' ⟨rfl,rfl⟩;go_wp2_with fail;go_ret;exact⟨qg l.out,zac _ _⟩
 have N:Hid (∀v∈L,0<=v/\v<=(m:Int) - 1):=q38.1 g.out
 go_enter Tryz.func63,Tryz.ntmps63
 go_wp2_with fail;refine C.out.mono ?_;rintro e w' ⟨rfl,rfl⟩;obtain⟨f,F⟩:∃f:World,f=w:=⟨_,rfl⟩;subst F
 go_wp2_with (at_make;refine qam f rfl _ _ rfl m rfl rfl (by omega) ?_;intro Z d y)
 have t:=(zac f.heap.size f).grown y (zad _) (by simp);clear y
 go_loopw [6] (fun i wr=>∃k:Nat,k<=m/\i=.int .i64 k/\wr.ownsRow f.heap.size 4 1 (.slice (some ⟨f.heap.size,0,none⟩) m m) m (bls (inL m (L.take k)))/\Hid ((L.take k).Nodup)/\Below f.heap.size f wr) (fun i _=>m - (intOf i).toNat)
 case atStart=>
  refine⟨0,zah _,rfl,?_,(by show(L.take 0).Nodup;simp),t⟩;rw[qks];exact d
 case round=>
  clear d t;obtain⟨k,X,rfl,a,r,j⟩:=hrel
  by_cases hlt:k<m
  .have Q:(0:Int)<=(k:Int):=by omega
   have H:(k:Int)<(m:Int):=by omega
   obtain⟨b,o,u,v,rfl,K,⟨rfl,T,U⟩,-,B⟩:=h.at hlt;have I:=N.out v (zaf B);obtain⟨x,rfl⟩:=zan I.1;have q:x<m:=by omega
   have s:=zaa (qco B q);have J:=zaa B;replace K:=qe j K;obtain⟨M,p⟩:∃b,Hid (hasI (x:Int) (L.take k)=b):=⟨_,rfl⟩;have G:wr.cell? ⟨f.heap.size,x,none⟩=some (.bool M):=by rw[a.cellAt x (by omega),q66 (by rw[q5s];exact q),qpb q,p.out]
   have P:=a.frozenAt x;have z:=(a.stored x (.bool true)).1;rw[q7i,s.out]at z;have V:(0:Int)<=(x:Int):=by omega
   have W:(x:Int)<(m:Int):=by omega
   clear B a
   rcases M with _|_
   .have E:=zaa (qc4 r.out J.out p.out)
    go_wp2_with fail
    go_roundw
    case rel=>exact⟨k+1,by omega,by go_num,z,E,j.setCell (zad _) _⟩
    case measure=>simp[intOf];try omega
   .have l:Hid (false=q7p m L):=qev J.out p.out
    go_wp2_with fail;go_ret;exact⟨qg l.out,j⟩
  .have H:¬(k:Int)<(m:Int):=by omega
   have l:Hid (true=q7p m L):=qey D.out g.out (by have:=r.out;rwa [zar (by rw[D.out];omega)]at this);go_wp2_with fail;go_ret;exact⟨qg l.out,j⟩
theorem qnp {n:Nat} {s Q:List Int} (a:PermL n s) (g:Q.length=n) (h:∀x,x<n->Q[nmAt s x]?=some (x:Int)):Q=inv n s:=by
 refine q8c (n:=n) g (q1l a).1 fun y i=>?_
 obtain⟨x,b,e⟩:=a.surj i;have d:=h x b;have f:nmI s (x:Int)=(y:Int):=by rw[<-q27 a b,e]
 have c:=qky a b;rw[f]at c;rw[c];rw[e]at d;have:=q3q d;unfold nmI at this⊢
 simpa using this
theorem qr2 {n k:Nat} {s Q:List Int} (c:PermL n s) (j:Q.length=n) (d:k<n) (h:∀x,x<k->Q[nmAt s x]?=some (x:Int)):∀x,x<k+1->(Q.set (nmAt s k) (k:Int))[nmAt s x]?=some (x:Int):=fun x l=>by
 rw[zcd]
 by_cases e:x=k
 .subst e
  rw[zam rfl,zam (by have:=q37 c d;omega)]
 .rw[zaj fun f=>e ?_]
  .exact h x (by omega)
  .have g:=q27 c (x:=x) (by omega)
   have i:=q27 c d;have:=q6f c (a:=(x:Int)) (b:=(k:Int)) (by omega) (by omega) (by omega) (by omega) (by rw[<-g,<-i,f]);omega
theorem q6r (n:Nat):List.replicate n (Value.int .i64 0)=ints (List.replicate n 0):=by simp[ints]
theorem q6h {w:World} {base g n c k:Nat} {Q:List Int} (h:w.ownsRow base 3 1 (.slice (some ⟨g,0,none⟩) n c) n (ints Q)) (b:Q.length=n) (a:k<n):∃z,w.cell? ⟨g,k,none⟩=some (.int .i64 z):=by
 refine⟨Q[k]'(by omega),?_⟩;rw[h.cellAt k (by omega)];unfold ints;rw[za2,zae (by omega)];rfl
theorem qfz (A:Option Addr) (n c:Nat) (s:List Int) (w:World) (h:RdL RI w A n s) (C:PermL n s) (S:n<=1000):
  Calls Tryz.prog 151 #[.slice A n c] w (OwI w (inv n s)):=by
 have K:=h.le;have z:=zaa C;have g:Hid ((inv n s).length=n):=(q1l C).1;clear C
 go_enter Tryz.func151,Tryz.ntmps151
 go_wp2_with (at_make;refine q3g w rfl _ _ rfl n rfl rfl (by omega) ?_;intro T d m)
 have l:=(zac w.heap.size w).grown m (zad _) (by simp);rw[q6r]at d;clear m
 go_loopw [11] (fun i wr=>∃(k:Nat) (Q:List Int),k<=n/\i=.int .i64 k/\wr.ownsRow w.heap.size 3 1 (.slice (some ⟨w.heap.size,0,none⟩) n n) n (ints Q)/\Hid (Q.length=n)/\Hid (∀x,x<k->Q[nmAt s x]?=some (x:Int))/\Below w.heap.size w wr) (fun i _=>n - (intOf i).toNat)
 case atStart=>exact⟨0,_,zah _,rfl,d,zez ..,(fun x r=>absurd r (by omega)),l⟩
 case round=>
  clear d l;obtain⟨k,Q,R,rfl,a,e,F,f⟩:=hrel
  by_cases hlt:k<n
  .have J:(0:Int)<=(k:Int):=by omega
   have B:(k:Int)<(n:Int):=by omega
   obtain⟨b,o,u,v,rfl,G,⟨rfl,L,M⟩,-,r⟩:=h.at hlt;obtain⟨y,D,E,q⟩:=z.out.at hlt;obtain rfl:v=(y:Int):=by rw[r]at D;injection D
   replace G:=qe f G;have I:=a.frozenAt y;obtain⟨U,P⟩:=q6h a e.out E;have p:=(a.stored y (.int .i64 (k:Int))).1;rw[q2n]at p;have t:Hid (∀x,x<k+1->(Q.set y (k:Int))[nmAt s x]?=some (x:Int)):=by
    have:=qr2 z.out e.out hlt F.out
    rwa [q]at this
   have j:Hid ((Q.set y (k:Int)).length=n):=by show _=_;rw[zcg];exact e.out
   have N:(0:Int)<=(y:Int):=by omega
   have O:(y:Int)<(n:Int):=by omega
   clear r a D q;go_wp2_with fail
   go_roundw
   case rel=>exact⟨k+1,_,by omega,by go_num,p,j,t,f.setCell (zad _) _⟩
   case measure=>simp[intOf];try omega
  .obtain rfl:k=n:=by omega
   have B:¬(k:Int)<(k:Int):=by omega
   have H:=zaa (qnp z.out e.out F.out);go_wp2_with fail;go_ret;exact⟨some ⟨w.heap.size,0,none⟩,k,by rw[g.out];rfl,by rw[g.out,<-H.out];exact a,f⟩
theorem qkg {V f Q:List Int} (a:Q.length=V.length) (h:∀x,x<V.length->Q[x]?=some (nmI f (V.getD x 0))):Q=comp V f:=by
 apply zcl;intro i;unfold comp;rw[za2]
 by_cases hi:i<V.length
 .rw[h i hi,zae hi,zak,zae hi]
  rfl
 .rw[zbl (by omega),zbl (by omega)]
  rfl
theorem qom {n k:Nat} {Q:List Int} {F:Nat->Int} (b:Q.length=n) (a:k<n) (h:∀x,x<k->Q[x]?=some (F x)):∀x,x<k+1->(Q.set k (F k))[x]?=some (F x):=fun x c=>by
 rw[zcd]
 by_cases e:k=x
 .subst e
  rw[zam rfl,zam (by omega)]
 .rw[zaj e]
  exact h x (by omega)
theorem q3o (A C:Option Addr) (n c m d:Nat) (V f:List Int) (w:World) (h:RdL RI w A n V) (G:RdL RI w C m f) (N:InL m V) (hn:n<=1000):
  Calls Tryz.prog 152 #[.slice A n c,.slice C m d] w (OwI w (comp V f)):=by
 have Y:=h.le;have R:=G.le;have U:=zaa N;have K:=zaa h.len;have T:=zaa G.len;have l:Hid ((comp V f).length=n):=by show _=_;rw[q1y];exact h.len
 clear N
 go_enter Tryz.func152,Tryz.ntmps152
 go_wp2_with (at_make;refine q3g w rfl _ _ rfl n rfl rfl (by omega) ?_;intro w1 e s)
 have q:=(zac w.heap.size w).grown s (zad _) (by simp);rw[q6r]at e;clear s
 go_loopw [13] (fun i wr=>∃(k:Nat) (Q:List Int),k<=n/\i=.int .i64 k/\wr.ownsRow w.heap.size 3 1 (.slice (some ⟨w.heap.size,0,none⟩) n n) n (ints Q)/\Hid (Q.length=n)/\Hid (∀x,x<k->Q[x]?=some (nmI f (V.getD x 0)))/\Below w.heap.size w wr) (fun i _=>n - (intOf i).toNat)
 case atStart=>exact⟨0,_,zah _,rfl,e,zez ..,(fun x B=>absurd B (by omega)),q⟩
 case round=>
  clear e q;obtain⟨k,Q,hk,rfl,a,g,L,j⟩:=hrel
  by_cases hlt:k<n
  .have X:(0:Int)<=(k:Int):=by omega
   have H:(k:Int)<(n:Int):=by omega
   obtain⟨b,o,u,v,rfl,O,⟨rfl,Z,aa⟩,-,B⟩:=h.at hlt;have I:=U.out v (zaf B);obtain⟨y,rfl⟩:=zan I.1;have J:y<m:=by omega
   obtain⟨b2,o2,u2,z,rfl,r,⟨rfl,ad,ae⟩,-,D⟩:=G.at J;replace O:=qe j O;replace r:=qe j r;have W:=a.frozenAt k;obtain⟨z0,P⟩:=q6h a g.out hlt;have t:=(a.stored k (.int .i64 z)).1;rw[q2n]at t;have M:nmI f (V.getD k 0)=z:=by
    rw[zak,B];unfold nmI;show f.getD (y:Int).toNat 0=z
    rw[za5,zak,D];rfl
   have E:Hid (∀x,x<k+1->(Q.set k z)[x]?=some (nmI f (V.getD x 0))):=by
    have:=qom (F:=fun x=>nmI f (V.getD x 0)) g.out hlt L.out;simp only[M]at this;exact this
   have p:Hid ((Q.set k z).length=n):=by show _=_;rw[zcg];exact g.out
   have ab:(0:Int)<=(y:Int):=by omega
   have ac:(y:Int)<(m:Int):=by omega
   clear B a D M;go_wp2_with fail
   go_roundw
   case rel=>exact⟨k+1,_,by omega,by go_num,t,p,E,j.setCell (zad _) _⟩
   case measure=>simp[intOf];try omega
  .obtain rfl:k=n:=by omega
   have H:¬(k:Int)<(k:Int):=by omega
   have S:Hid (Q=comp V f):=qkg (by rw[g.out,K.out]) (by rw[K.out];exact L.out);go_wp2_with fail;go_ret;exact⟨some ⟨w.heap.size,0,none⟩,k,by rw[l.out];rfl,by rw[l.out,<-S.out];exact a,j⟩
theorem ql6 {q Q:List Int} (a:Q.length=q.length) (h:∀x,x<q.length->Q[x]?=some ((posN q (q.getD x 0):Nat):Int)):Q=kerL q:=by
 apply zcl;intro i;unfold kerL;rw[za2]
 by_cases hi:i<q.length
 .rw[h i hi,zae hi,zak,zae hi]
  rfl
 .rw[zbl (by omega),zbl (by omega)]
  rfl
def qp0 (w:World) (g k:Nat):Nat:=match w.cell? ⟨g,k,none⟩with|some (.int .i64 y)=>y.toNat|_=>0
theorem qip {w:World} {g k y:Nat} (h:w.cell? ⟨g,k,none⟩=some (.int .i64 (y:Int))):qp0 w g k=y:=by unfold qp0;rw[h];simp
theorem q95 (A:Option Addr) (n c:Nat) (q:List Int) (w:World) (h:RdL RI w A n q) (hn:n<=1000):
  Calls Tryz.prog 154 #[.slice A n c] w (OwI w (kerL q)):=by
 have hle:=h.le;have X:=zaa h.len;have B:Hid ((kerL q).length=n):=by show _=_;rw[q9m];exact h.len
 go_enter Tryz.func154,Tryz.ntmps154
 go_wp2_with (at_make;refine q3g w rfl _ _ rfl n rfl rfl (by omega) ?_;intro w1 d I)
 have G:=(zac w.heap.size w).grown I (zad _) (by simp);rw[q6r]at d;clear I
 go_loopw [10] (fun i wr=>∃(k:Nat) (Q:List Int),k<=n/\i=.int .i64 k/\wr.ownsRow w.heap.size 3 1 (.slice (some ⟨w.heap.size,0,none⟩) n n) n (ints Q)/\Hid (Q.length=n)/\Hid (∀x,x<k->Q[x]?=some ((posN q (q.getD x 0):Nat):Int))/\Below w.heap.size w wr) (fun i _=>n - (intOf i).toNat)
 case atStart=>exact⟨0,_,zah _,rfl,d,zez ..,(fun x l=>absurd l (by omega)),G⟩
 case round=>
  clear d G;obtain⟨k,Q,hk,rfl,a,g,Y,F⟩:=hrel
  by_cases hlt:k<n
  .have hk0:(0:Int)<=(k:Int):=by omega
   have T:(k:Int)<(n:Int):=by omega
   obtain⟨b,o,u,v,rfl,hc,⟨rfl,hv0,hv1⟩,-,l⟩:=h.at hlt;have hfz:=a.frozenAt k;obtain⟨z0,hcz0⟩:=q6h a g.out hlt;have r:=(a.stored k (.int .i64 0)).1;rw[q2n]at r;have Z:=zaa l;have HV:Hid (q.getD k 0=v):=by show _=_;rw[zak,l];rfl
   have T2:Below w.heap.size w (wr.setCell ⟨w.heap.size,k,none⟩ (.int .i64 0)):=F.setCell (zad _) _;have R:Hid (∀y:Nat,∀x,x<k->(Q.set k (y:Int))[x]?=some ((posN q (q.getD x 0):Nat):Int)):=fun y x l=>by
    rw[zcd,zaj (by omega)];exact Y.out x l
   clear l a hc;go_wp2_with fail
   go_loopw [28] (fun _ L=>∃y:Nat,y<=k/\L.ownsRow w.heap.size 3 1 (.slice (some ⟨w.heap.size,0,none⟩) n n) n (ints (Q.set k (y:Int)))/\Hid (∀z,z<y->q[z]?≠some v)/\Below w.heap.size w L) (fun _ L=>n - qp0 L w.heap.size k)
   case atStart=>exact⟨0,zah _,r,(fun z hz=>absurd hz (by omega)),T2⟩
   case round=>
    clear r T2;obtain⟨y,hy,a,W,j⟩:=hrel;have V:y<n:=by omega
    obtain⟨uk,t,hck,⟨rfl,-,-⟩,-,s⟩:=(h.next qd j).at' hlt;obtain rfl:t=v:=by rw[Z.out]at s;injection s with e;exact e.symm
    obtain⟨uy,K,hcy,⟨rfl,-,-⟩,-,J⟩:=(h.next qd j).at' V;have p:wr.cell? ⟨w.heap.size,k,none⟩=some (.int .i64 (y:Int)):=by
     rw[a.cellAt k (by omega)];unfold ints;rw[za2,zcd,zam rfl,zam (by rw[g.out];exact hlt)];rfl
    have hy0:(0:Int)<=(y:Int):=by omega
    have hy1:(y:Int)<(n:Int):=by omega
    have hfz2:=a.frozenAt k;have HM:=zaa (qip p);obtain⟨ne,U⟩:∃b,(K !=t)=b:=⟨_,rfl⟩;have C:=zaa U;have m:=zaa J;clear s J;go_wp2_with fail
    go_quiet (fail)
    rcases ne with _|_
    .have N:Hid (K=t):=by have:=C.out;show K=t;simpa using this
     have HP:Hid (posN q (q.getD k 0)=y):=by
      show _=_
      rw[HV.out];exact q8s (by rw[m.out,N.out]) W.out
     have P:Hid (∀x,x<k+1->(Q.set k (y:Int))[x]?=some ((posN q (q.getD x 0):Nat):Int)):=fun x l=>by
      by_cases e:x=k
      .subst e
       rw[zcd,zam rfl,zam (by rw[g.out];exact hlt),HP.out]
      .exact R.out y x (by omega)
     have E:Hid ((Q.set k (y:Int)).length=n):=by show _=_;rw[zcg];exact g.out
     go_wp2_with fail
     go_roundw
     case rel=>exact⟨k+1,_,by omega,by go_num,by first|exact a|exact qp a (qc (zac _ _) _),E,P,by first|exact j|exact qc j _⟩
     case measure=>simp[intOf];try omega
    .have D:Hid (¬K=t):=by have:=C.out;show ¬K=t;simpa using this
     have hyk:y≠k:=fun e=>by
      subst e;have:=m.out;rw[Z.out]at this;injection this with this
      exact D.out this.symm
     have f:=(a.stored k (.int .i64 ((y:Int)+1))).1;rw[q2n,List.set_set]at f;have M:Hid (∀z,z<y+1->q[z]?≠some t):=fun z hz=>by
      by_cases e:z=y
      .subst e
       rw[m.out];intro S;injection S with S
       exact D.out S
      .exact W.out z (by omega)
     have H:(wr.setCell ⟨w.heap.size,k,none⟩ (.int .i64 ((y:Int)+1))).cell? ⟨w.heap.size,k,none⟩=some (.int .i64 ((y+1:Nat):Int)):=by
      rw[f.cellAt k (by omega)];unfold ints;rw[za2,zcd,zam rfl,zam (by rw[g.out];exact hlt)];show some _=some _
      congr 1
     have O:=zaa (qip H);have hw64:IntKind.i64.wrap ((y:Int)+1)=(y:Int)+1:=zck _ (by omega);clear H;go_wp2_with fail
     go_roundw
     case rel=>exact⟨y+1,by omega,by push_cast;first|exact f|exact qp f (qc (zac _ _) _),M,by first|exact j.setCell (zad _) _|exact(qc j _).setCell (zad _) _⟩
     case measure=>
      rw[HM.out];refine Nat.lt_of_le_of_lt (Nat.le_of_eq (zav (fun z=>n - z) (show qp0 _ w.heap.size k=y+1 from O.out))) ?_;show n - (y+1)<n - y
      omega
  .obtain rfl:k=n:=by omega
   have T:¬(k:Int)<(k:Int):=by omega
   have HD:Hid (Q=kerL q):=ql6 (by rw[g.out,X.out]) (by rw[X.out];exact Y.out);go_wp2_with fail;go_ret;exact⟨some ⟨w.heap.size,0,none⟩,k,by rw[B.out];rfl,by rw[B.out,<-HD.out];exact a,F⟩
theorem qed (A:Option Addr) (n c:Nat) (q:List Int) (w:World) (h:RdL RI w A n q) (hn:n<=1000):
  Calls Tryz.prog 119 #[.slice A n c] w (OwI w (kerL q)):=by
 have ac:=h.le;have HL:=zaa h.len;have l:Hid ((kerL q).length=n):=by show _=_;rw[q9m];exact h.len
 have R:=qm w (.cells #[] 3);have Q:=zb7 (base:=w.heap.size) (e:=3) (size:=1) w #[] 0 (zad _) (zah _) rfl
 go_enter Tryz.func119,Tryz.ntmps119
 go_wp2_with fail
 go_loopw [3,4] (fun s i wr=>∃(k:Nat) (t:Option Addr) (x:Nat),k<=n/\i=.int .i64 k/\s=.slice t k x/\wr.ownsRow w.heap.size 3 1 (.slice t k x) k (ints ((kerL q).take k))/\Below w.heap.size w wr) (fun _ i _=>n - (intOf i).toNat)
 case atStart=>exact⟨0,_,_,zah _,rfl,rfl,Q,R⟩
 case round=>
  clear Q R;obtain⟨k,t,x,hk,rfl,rfl,a,f⟩:=hrel
  by_cases hlt:k<n
  .have ab:(0:Int)<=(k:Int):=by omega
   have M:(k:Int)<(n:Int):=by omega
   obtain⟨b,o,u,v,rfl,X,⟨rfl,ad,ae⟩,-,S⟩:=(h.next qd f).at hlt;have K:=zaa S;have J:=zaa (h.next qd f);clear S;go_wp2_with fail
   go_loopw [5] (fun j T=>∃y:Nat,y<=k/\j=.int .i64 (y:Int)/\Hid (∀z,z<y->q[z]?≠some v)/\T.ownsRow w.heap.size 3 1 (.slice t k x) k (ints ((kerL q).take k))/\Below w.heap.size w T) (fun j _=>n - (intOf j).toNat)
   case atStart=>exact⟨0,zah _,rfl,(fun z G=>absurd G (by omega)),a,f⟩
   case round=>
    clear a f X J;obtain⟨y,hy,rfl,P,a,d⟩:=hrel;have O:y<n:=by omega
    obtain⟨uk,g,Y,⟨rfl,-,-⟩,-,r⟩:=(h.next qd d).at' hlt;obtain rfl:g=v:=by rw[K.out]at r;injection r with e;exact e.symm
    obtain⟨uy,F,Z,⟨rfl,-,-⟩,-,E⟩:=(h.next qd d).at' O;have af:(0:Int)<=(y:Int):=by omega
    have ag:(y:Int)<(n:Int):=by omega
    obtain⟨ne,N⟩:∃b,(F !=g)=b:=⟨_,rfl⟩;have B:=zaa N;have m:=zaa E;have G:=d.size;clear E r;go_wp2_with fail
    go_quiet (fail)
    rcases ne with _|_
    .have I:Hid (F=g):=by have:=B.out;show F=g;simpa using this
     have V:Hid ((kerL q).take (k+1)=(kerL q).take k++ [(y:Int)]):=by
      show _=_
      have:(kerL q)[k]?=some (y:Int):=by
       unfold kerL;rw[za2,K.out];show some ((posN q g:Nat):Int)=_
       rw[q8s (by rw[m.out,I.out]) P.out]
      rw[zbp,this];rfl
     go_wp2_with (at_builtin;refine app1 _ rfl _ _ 43 3 rfl (.int .i64 0) 8 za1 q14 rfl (by decide) w.heap.size k x t (ints ((kerL q).take k)) rfl (by first|exact a|exact qp a (qc (zac _ _) _)) (.int .i64 (y:Int)) rfl rfl (by omega) (by first|exact G|(simp;omega)) ?_;intro U W w2 p aa D)
     go_roundw
     case rel=>exact⟨k+1,U,W,by omega,by go_num,rfl,by rw[V.out,q3c];exact p,by first|exact d.trans D|exact(qc d _).trans D⟩
     case measure=>simp[intOf];try omega
    .have C:Hid (¬F=g):=by have:=B.out;show ¬F=g;simpa using this
     have ah:y≠k:=fun e=>by
      subst e;have:=m.out;rw[K.out]at this;injection this with this
      exact C.out this.symm
     have H:Hid (∀z,z<y+1->q[z]?≠some g):=fun z G=>by
      by_cases e:z=y
      .subst e
       rw[m.out];intro L;injection L with L
       exact C.out L
      .exact P.out z (by omega)
     go_wp2_with fail
     go_roundw
     case rel=>exact⟨y+1,by omega,by go_num,H,by first|exact a|exact qp a (qc (zac _ _) _),by first|exact d|exact qc d _⟩
     case measure=>simp[intOf];try omega
  .obtain rfl:k=n:=by omega
   have M:¬(k:Int)<(k:Int):=by omega
   rw[zar (by rw[l.out];exact zad _)]at a;go_wp2_with fail;go_ret;exact⟨t,x,by rw[l.out];rfl,by rw[l.out];exact a,f⟩
abbrev LabM:Type:=(Bool×qi×List qy×Int)
def q19:Sh LabM:=(Sh.pair Sh.bool (Sh.pair qf (Sh.pair (Sh.rows qj 57) Sh.int)))
theorem q42 {w:World} {cs:List Value} {x:LabM} (h:q19.rd w cs x):∃(ABaseOps:Option Addr) (nBaseOps cBaseOps:Nat) (AFacts:Option Addr) (nFacts cFacts:Nat),cs= [.bool x.1,.int .i64 x.2.1.1,.slice ABaseOps nBaseOps cBaseOps,.slice AFacts nFacts cFacts,.int .i64 x.2.2.2]/\InR x.2.1.1/\RdN shOp.m shOp.rd w ABaseOps nBaseOps x.2.1.2/\RdN qj.m qj.rd w AFacts nFacts x.2.2.1/\InR x.2.2.2:=by
 obtain⟨_,_,rfl,⟨_,rfl,rfl⟩,⟨_,_,rfl,⟨_,_,rfl,⟨_,rfl,rfl,b,a⟩,⟨ABaseOps,nBaseOps,cBaseOps,rfl,e⟩⟩,⟨_,_,rfl,⟨AFacts,nFacts,cFacts,rfl,f⟩,⟨_,rfl,rfl,d,c⟩⟩⟩⟩:=h;exact⟨ABaseOps,nBaseOps,cBaseOps,AFacts,nFacts,cFacts,rfl,⟨b,a⟩,e,f,⟨d,c⟩⟩
theorem qrp {w:World} {x:LabM} {a d:Option Addr} {b c e f:Nat} (g:InR x.2.1.1) (i:RdN shOp.m shOp.rd w a b x.2.1.2) (j:RdN qj.m qj.rd w d e x.2.2.1) (h:InR x.2.2.2):q19.rd w [.bool x.1,.int .i64 x.2.1.1,.slice a b c,.slice d e f,.int .i64 x.2.2.2] x:=
 ⟨[.bool x.1], [.int .i64 x.2.1.1,.slice a b c,.slice d e f,.int .i64 x.2.2.2],rfl,⟨_,rfl,rfl⟩,⟨[.int .i64 x.2.1.1,.slice a b c], [.slice d e f,.int .i64 x.2.2.2],rfl,⟨[.int .i64 x.2.1.1], [.slice a b c],rfl,⟨_,rfl,rfl,g.1,g.2⟩,⟨_,_,_,rfl,i⟩⟩,⟨[.slice d e f], [.int .i64 x.2.2.2],rfl,⟨_,_,_,rfl,j⟩,⟨_,rfl,rfl,h.1,h.2⟩⟩⟩⟩
theorem qmo (cs:List Value) (x:LabM) (left:Int) (w:World) (h:q19.rd w cs x) (H:0<=left) (N:left<=1048576):
  Calls Tryz.prog 11 #[.agg cs.toArray,.int .i64 left] w (Bl w (.int .i64 (szR (q19.cnt x) left))):=by
 obtain⟨c,f,d,i,n,k,rfl,g,a,b,u⟩:=q42 h;obtain⟨O,B,G,K,o⟩:=q15 w #[.bool x.1,.int .i64 x.2.1.1,.slice c f d,.slice i n k,.int .i64 x.2.2.2] 42;have t:=a.le;have D:=b.le;have v:Hid (szR 0 left=left):=q61 H;have q:Hid (q19.cnt x=(0+((qf.cnt x.2.1)+((x.2.2.1.length+cntS qj.cnt x.2.2.1)+0)))):=rfl;replace a:=a.next G;replace b:=b.next G
 go_enter Tryz.func11,Tryz.ntmps11
 have C:=o.cell 1;clear C;have r:=o.cell 1;have s:=o.cell 2;simp at r s;rw[B]at r s;go_wp2_with fail;rw[<-B];refine(qdf [.int .i64 x.2.1.1,.slice c f d] x.2.1 left _ (q30 g a) (by omega) (by omega)).mono ?_;rintro e P ⟨rfl,l⟩;have I:=q9 G l rfl;replace o:=o.next l;replace a:=a.next l;replace b:=b.next l;clear r s;have j:Hid (szR (0+(qf.cnt x.2.1)) left=szR (qf.cnt x.2.1) left):=by show _=_;rw[<-q3v (by rw[v.out];omega),v.out]
 have z:=q4o (qf.cnt x.2.1) (left:=left) (by omega);obtain⟨y,E⟩:∃L,Hid (szR (qf.cnt x.2.1) left=L):=⟨_,rfl⟩;rw[E.out]at j z⊢
 by_cases z0:y<0
 .go_wp2_with fail
  go_ret;exact⟨q11 (q6n (by rw[j.out];omega) (by rw[q.out];omega) H),I⟩
 have C:=o.cell 3;simp at C;go_wp2_with fail;refine(qh2 _ _ _ _ y _ b (by omega) (by omega)).mono ?_;rintro e Q ⟨rfl,m⟩;have J:=q9 I m rfl;replace o:=o.next m;replace a:=a.next m;replace b:=b.next m;clear C;have p:Hid (szR ((0+(qf.cnt x.2.1))+(x.2.2.1.length+cntS qj.cnt x.2.2.1)) left=szR (x.2.2.1.length+cntS qj.cnt x.2.2.1) y):=by show _=_;rw[<-q3v (by rw[j.out];omega),j.out]
 have A:=q4o (x.2.2.1.length+cntS qj.cnt x.2.2.1) (left:=y) (by omega);obtain⟨M,F⟩:∃L,Hid (szR (x.2.2.1.length+cntS qj.cnt x.2.2.1) y=L):=⟨_,rfl⟩;rw[F.out]at p A⊢
 by_cases z1:M<0
 .go_wp2_with fail
  go_ret;exact⟨q11 (q6n (by rw[p.out];omega) (by rw[q.out];omega) H),J⟩
 go_wp2_with fail;go_ret;exact⟨q11 (by simp only[q.out,<-p.out];first|done|(congr 1;omega)),J⟩
theorem q8h (cs:List Value) (x:LabM) (w:World) (h:q19.rd w cs x) (hn:q19.cnt x<=1048576):
  Calls Tryz.prog 14 #[.agg cs.toArray] w (ToE q19 w x):=by
 obtain⟨o,s,r,A,D,C,rfl,I,y,J,z⟩:=q42 h;have hcn:(0+((qf.cnt x.2.1)+((x.2.2.1.length+cntS qj.cnt x.2.2.1)+0)))<=1048576:=hn;obtain⟨w0,hw0,T0,hsz0,E,B,t⟩:=q7t w #[.bool x.1,.int .i64 x.2.1.1,.slice o s r,.slice A D C,.int .i64 x.2.2.2] #[.bool false,.int .i64 0,.slice none 0 0,.slice none 0 0,.int .i64 0] #[.bool x.1,.int .i64 0,.slice none 0 0,.slice none 0 0,.int .i64 0] 42 27;have ad:=y.len;have eFacts:=J.len
 go_enter Tryz.func14,Tryz.ntmps14
 go_wp2_with fail;rw[<-hw0];refine(qdj [.int .i64 x.2.1.1,.slice o s r] x.2.1 _ (q30 I (y.next T0)) (by omega)).mono ?_;rintro e w1 ⟨csBase,q,rfl,n,l,K⟩;obtain⟨c,f,d,rfl,-,-⟩:=qv (qf.ord n);have hz1:=K.size;have T1:=q9 T0 K rfl;replace E:=E.next K;replace B:=B.next K;replace t:=t.next K;clear K;have R:=E.cell 0;have S:=E.cell 1;have T:=E.cell 2;have U:=E.cell 3;have V:=E.cell 4;have M:=t.cell 0;have Y:=t.frozen 0;have N:=t.cell 1;have Z:=t.frozen 1;have O:=t.cell 2;have aa:=t.frozen 2;have P:=t.cell 3;have ab:=t.frozen 3;have Q:=t.cell 4;have ac:=t.frozen 4;simp at R M S N T O U P V Q;go_wp2_with fail;clear R M Y S N Z T O aa U P ab V Q ac;obtain⟨w2,H⟩:∃wb,wb=((w1.setCell ⟨w.heap.size+1+1,1,none⟩ (.int .i64 x.2.1.1)).setCell ⟨w.heap.size+1+1,2,none⟩ (.slice c f d)):=⟨_,rfl⟩;have L:Blk w2 (w.heap.size+1+1) 27 #[.bool x.1,.int .i64 x.2.1.1,.slice c f d,.slice none 0 0,.int .i64 0]:=by rw[H];simpa using((t.set_ 1 (.int .i64 x.2.1.1)).set_ 2 (.slice c f d))
 replace E:Blk w2 w.heap.size 42 #[.bool x.1,.int .i64 x.2.1.1,.slice o s r,.slice A D C,.int .i64 x.2.2.2]:=by rw[H];exact((E.far (p:=⟨w.heap.size+1+1,1,none⟩) (by simp;try omega) (.int .i64 x.2.1.1)).far (p:=⟨w.heap.size+1+1,2,none⟩) (by simp;try omega) (.slice c f d))
 replace B:Blk w2 (w.heap.size+1) 27 #[.bool false,.int .i64 0,.slice none 0 0,.slice none 0 0,.int .i64 0]:=by rw[H];exact((B.far (p:=⟨w.heap.size+1+1,1,none⟩) (by simp;try omega) (.int .i64 x.2.1.1)).far (p:=⟨w.heap.size+1+1,2,none⟩) (by simp;try omega) (.slice c f d))
 replace t:=L;clear L;have T2:Below w.heap.size w w2:=by rw[H];exact((T1.setCell (by simp;try omega) (.int .i64 x.2.1.1)).setCell (by simp;try omega) (.slice c f d))
 have hz2:w2.heap.size=w1.heap.size:=by rw[H];simp
 replace n:qf.own w2 [.int .i64 x.2.1.1,.slice c f d] x.2.1 q:=by rw[H];exact Sh.oset (p:=⟨w.heap.size+1+1,2,none⟩) (Sh.oset (p:=⟨w.heap.size+1+1,1,none⟩) (n) l (by show w.heap.size+1+1<_;omega) (.int .i64 x.2.1.1)) l (by show w.heap.size+1+1<_;omega) (.slice c f d)
 rw[<-H];refine(qh5 _ _ _ _ _ (J.next T2) (by omega)).mono ?_;rintro e w3 ⟨X,m,rfl,u,k,G⟩;obtain⟨g,j,i,hv,-⟩:=(Sh.rows qj 57).ord u;obtain rfl:X=.slice g j i:=by simpa using hv
 clear hv;have hz3:=G.size;have T3:=q9 T2 G rfl;replace E:=E.next G;replace B:=B.next G;replace t:=t.next G;replace n:=Sh.onext n G;clear G;have cR0:=B.cell 0;have fR0:=B.frozen 0;have cR1:=B.cell 1;have fR1:=B.frozen 1;have cR2:=B.cell 2;have fR2:=B.frozen 2;have cR3:=B.cell 3;have fR3:=B.frozen 3;have cR4:=B.cell 4;have fR4:=B.frozen 4;simp at cR0 cR1 cR2 cR3 cR4;have R:=E.cell 0;have S:=E.cell 1;have T:=E.cell 2;have U:=E.cell 3;have V:=E.cell 4;have M:=t.cell 0;have Y:=t.frozen 0;have N:=t.cell 1;have Z:=t.frozen 1;have O:=t.cell 2;have aa:=t.frozen 2;have P:=t.cell 3;have ab:=t.frozen 3;have Q:=t.cell 4;have ac:=t.frozen 4;simp at R M S N T O U P V Q;go_wp2_with fail;clear R M Y S N Z T O aa U P ab V Q ac;clear cR0 fR0 cR1 fR1 cR2 fR2 cR3 fR3 cR4 fR4;obtain⟨W,F⟩:∃wb,wb=((w3.setCell ⟨w.heap.size+1+1,3,none⟩ (.slice g j i)).setCell ⟨w.heap.size+1+1,4,none⟩ (.int .i64 x.2.2.2)):=⟨_,rfl⟩;have L:Blk W (w.heap.size+1+1) 27 #[.bool x.1,.int .i64 x.2.1.1,.slice c f d,.slice g j i,.int .i64 x.2.2.2]:=by rw[F];simpa using((t.set_ 3 (.slice g j i)).set_ 4 (.int .i64 x.2.2.2))
 replace E:Blk W w.heap.size 42 #[.bool x.1,.int .i64 x.2.1.1,.slice o s r,.slice A D C,.int .i64 x.2.2.2]:=by rw[F];exact((E.far (p:=⟨w.heap.size+1+1,3,none⟩) (by simp;try omega) (.slice g j i)).far (p:=⟨w.heap.size+1+1,4,none⟩) (by simp;try omega) (.int .i64 x.2.2.2))
 replace B:Blk W (w.heap.size+1) 27 #[.bool false,.int .i64 0,.slice none 0 0,.slice none 0 0,.int .i64 0]:=by rw[F];exact((B.far (p:=⟨w.heap.size+1+1,3,none⟩) (by simp;try omega) (.slice g j i)).far (p:=⟨w.heap.size+1+1,4,none⟩) (by simp;try omega) (.int .i64 x.2.2.2))
 replace t:=L;clear L;have T4:Below w.heap.size w W:=by rw[F];exact((T3.setCell (by simp;try omega) (.slice g j i)).setCell (by simp;try omega) (.int .i64 x.2.2.2))
 have hz4:W.heap.size=w3.heap.size:=by rw[F];simp
 replace n:qf.own W [.int .i64 x.2.1.1,.slice c f d] x.2.1 q:=by rw[F];exact Sh.oset (p:=⟨w.heap.size+1+1,4,none⟩) (Sh.oset (p:=⟨w.heap.size+1+1,3,none⟩) (n) l (by show w.heap.size+1+1<_;omega) (.slice g j i)) l (by show w.heap.size+1+1<_;omega) (.int .i64 x.2.2.2)
 replace u:(Sh.rows qj 57).own W [.slice g j i] x.2.2.1 m:=by rw[F];exact Sh.oset (p:=⟨w.heap.size+1+1,4,none⟩) (Sh.oset (p:=⟨w.heap.size+1+1,3,none⟩) (u) k (by show w.heap.size+1+1<_;omega) (.slice g j i)) k (by show w.heap.size+1+1<_;omega) (.int .i64 x.2.2.2)
 rw[<-F];have BRR:Blk (((((W.setCell ⟨w.heap.size+1,0,none⟩ (.bool x.1)).setCell ⟨w.heap.size+1,1,none⟩ (.int .i64 x.2.1.1)).setCell ⟨w.heap.size+1,2,none⟩ (.slice c f d)).setCell ⟨w.heap.size+1,3,none⟩ (.slice g j i)).setCell ⟨w.heap.size+1,4,none⟩ (.int .i64 x.2.2.2)) (w.heap.size+1) 27 #[.bool x.1,.int .i64 x.2.1.1,.slice c f d,.slice g j i,.int .i64 x.2.2.2]:=by simpa using(((((B).set_ 0 (.bool x.1)).set_ 1 (.int .i64 x.2.1.1)).set_ 2 (.slice c f d)).set_ 3 (.slice g j i)).set_ 4 (.int .i64 x.2.2.2)
 (try simp only[Exit.inBlock,Exit.then])
 refine zat (v:=.agg #[.bool x.1,.int .i64 x.2.1.1,.slice c f d,.slice g j i,.int .i64 x.2.2.2]) (zb0 rfl _ _ (w.heap.size+1) 27 #[.bool x.1,.int .i64 x.2.1.1,.slice c f d,.slice g j i,.int .i64 x.2.2.2] (0,0) _ (by simp) BRR zbg rfl (by kernel_rfl)) rfl ?_;have hsz:(((((W.setCell ⟨w.heap.size+1,0,none⟩ (.bool x.1)).setCell ⟨w.heap.size+1,1,none⟩ (.int .i64 x.2.1.1)).setCell ⟨w.heap.size+1,2,none⟩ (.slice c f d)).setCell ⟨w.heap.size+1,3,none⟩ (.slice g j i)).setCell ⟨w.heap.size+1,4,none⟩ (.int .i64 x.2.2.2)).heap.size=W.heap.size:=by simp
 refine⟨_,(q++m),rfl,⟨[.bool x.1], [.int .i64 x.2.1.1,.slice c f d,.slice g j i,.int .i64 x.2.2.2], [],(q++m),rfl,rfl,⟨_,rfl,rfl,rfl⟩,⟨[.int .i64 x.2.1.1,.slice c f d], [.slice g j i,.int .i64 x.2.2.2],q,m,rfl,rfl,(Sh.oset (p:=⟨w.heap.size+1,4,none⟩) (Sh.oset (p:=⟨w.heap.size+1,3,none⟩) (Sh.oset (p:=⟨w.heap.size+1,2,none⟩) (Sh.oset (p:=⟨w.heap.size+1,1,none⟩) (Sh.oset (p:=⟨w.heap.size+1,0,none⟩) (n) l (by show w.heap.size+1<_;omega) (.bool x.1)) l (by show w.heap.size+1<_;omega) (.int .i64 x.2.1.1)) l (by show w.heap.size+1<_;omega) (.slice c f d)) l (by show w.heap.size+1<_;omega) (.slice g j i)) l (by show w.heap.size+1<_;omega) (.int .i64 x.2.2.2)),⟨[.slice g j i], [.int .i64 x.2.2.2],m, [],rfl,(zc3 _).symm,(Sh.oset (p:=⟨w.heap.size+1,4,none⟩) (Sh.oset (p:=⟨w.heap.size+1,3,none⟩) (Sh.oset (p:=⟨w.heap.size+1,2,none⟩) (Sh.oset (p:=⟨w.heap.size+1,1,none⟩) (Sh.oset (p:=⟨w.heap.size+1,0,none⟩) (u) k (by show w.heap.size+1<_;omega) (.bool x.1)) k (by show w.heap.size+1<_;omega) (.int .i64 x.2.1.1)) k (by show w.heap.size+1<_;omega) (.slice c f d)) k (by show w.heap.size+1<_;omega) (.slice g j i)) k (by show w.heap.size+1<_;omega) (.int .i64 x.2.2.2)),⟨_,rfl,⟨rfl,z.1,z.2⟩,rfl⟩⟩⟩⟩,?_,(((((T4).setCell (by simp;try omega) (.bool x.1)).setCell (by simp;try omega) (.int .i64 x.2.1.1)).setCell (by simp;try omega) (.slice c f d)).setCell (by simp;try omega) (.slice g j i)).setCell (by simp;try omega) (.int .i64 x.2.2.2)⟩;rw[hsz];exact Iv.mono (Iv.app (lo:=w.heap.size) (hi:=W.heap.size) (a:=q) (b:=m) (Iv.mono l (by omega) (zad _)) (Iv.mono k (zad _) (by omega)) (by omega) (by omega) (by omega)) (by omega) (by omega)
theorem qrf (x y:LabM):eqC x y=(eqC (x.1) (y.1) &&(eqC (x.2.1) (y.2.1) &&(eqC (x.2.2.1) (y.2.2.1) &&eqC (x.2.2.2) (y.2.2.2)))):=by
 obtain⟨a,b,c,d⟩:=x;obtain⟨e,f,g,h⟩:=y;simp only[q6x]
theorem q7x (cs ds:List Value) (x y:LabM) (w:World) (h:q19.rd w cs x) (Y:q19.rd w ds y):
  Calls Tryz.prog 17 #[.agg cs.toArray,.agg ds.toArray] w (Bl w (.bool (eqC x y))):=by
 obtain⟨j,l,k,I,M,J,rfl,n,b,d,S⟩:=q42 h;obtain⟨f,i,g,F,H,G,rfl,m,a,c,R⟩:=q42 Y;obtain⟨w0,q,N,X,s,t⟩:=q1q w #[.bool x.1,.int .i64 x.2.1.1,.slice j l k,.slice I M J,.int .i64 x.2.2.2] #[.bool y.1,.int .i64 y.2.1.1,.slice f i g,.slice F H G,.int .i64 y.2.2.2] 27 27;replace b:=b.next N;replace a:=a.next N;replace d:=d.next N;replace c:=c.next N;have T:=zaa (qrf x y)
 go_enter Tryz.func17,Tryz.ntmps17
 rcases hd0:eqC (x.1) (y.1)with _|_
 .have Z:(x.1==y.1)=false:=qhf hd0
  have u:=zaa hd0;clear hd0;have z:=s.cell 0;have C:=t.cell 0;simp at z C;rw[q]at z C;go_wp2_with fail;go_ret;exact⟨qg (by rw[T.out,u.out];first|rfl|simp),by first|exact N|(rw[<-q];exact N)⟩
 have W:(x.1==y.1)=true:=qhf hd0;have u:=zaa hd0;clear hd0;have z:=s.cell 0;have C:=t.cell 0;simp at z C;rw[q]at z C
 rcases hd1:eqC (x.2.1) (y.2.1)with _|_
 .have r:=zaa hd1
  clear hd1;have A:=s.cell 1;have D:=t.cell 1;have B:=s.cell 2;have E:=t.cell 2;simp at A D B E;rw[q]at A D B E;go_wp2_with fail;rw[<-q];refine(q7w [.int .i64 x.2.1.1,.slice j l k] [.int .i64 y.2.1.1,.slice f i g] x.2.1 y.2.1 _ (q30 n b) (q30 m a)).mono ?_;rintro e w1 ⟨rfl,o⟩;rw[r.out];have V:=q9 N o rfl;go_wp2_with fail;go_ret;exact⟨qg (by rw[T.out,u.out,r.out];first|rfl|simp),V⟩
 have r:=zaa hd1;clear hd1;have A:=s.cell 1;have D:=t.cell 1;have B:=s.cell 2;have E:=t.cell 2;simp at A D B E;rw[q]at A D B E;go_wp2_with fail;rw[<-q];refine(q7w [.int .i64 x.2.1.1,.slice j l k] [.int .i64 y.2.1.1,.slice f i g] x.2.1 y.2.1 _ (q30 n b) (q30 m a)).mono ?_;rintro e w1 ⟨rfl,o⟩;rw[r.out];have V:=q9 N o rfl;clear A D B E z C W;replace s:=s.next o;replace t:=t.next o;replace b:=b.next o;replace a:=a.next o;replace d:=d.next o;replace c:=c.next o
 rcases hd2:eqC (x.2.2.1) (y.2.2.1)with _|_
 .have v:=zaa hd2
  clear hd2;have K:=s.cell 3;have L:=t.cell 3;simp at K L;go_wp2_with fail;refine(qa1 _ _ _ _ _ _ _ _ _ d c).mono ?_;rintro e w2 ⟨rfl,p⟩;rw[v.out];have U:=q9 V p rfl;go_wp2_with fail;go_ret;exact⟨qg (by rw[T.out,u.out,r.out,v.out];first|rfl|simp),U⟩
 have v:=zaa hd2;clear hd2;have K:=s.cell 3;have L:=t.cell 3;simp at K L;go_wp2_with fail;refine(qa1 _ _ _ _ _ _ _ _ _ d c).mono ?_;rintro e w2 ⟨rfl,p⟩;rw[v.out];have U:=q9 V p rfl;clear K L;replace s:=s.next p;replace t:=t.next p;replace b:=b.next p;replace a:=a.next p;replace d:=d.next p;replace c:=c.next p
 rcases hd3:eqC (x.2.2.2) (y.2.2.2)with _|_
 .have Z:(x.2.2.2 !=y.2.2.2)=true:=q3i hd3
  have O:=zaa hd3;clear hd3;have P:=s.cell 4;have Q:=t.cell 4;simp at P Q;go_wp2_with fail;go_ret;exact⟨qg (by rw[T.out,u.out,r.out,v.out,O.out];first|rfl|simp),by first|exact U|(rw[<-q];exact U)⟩
 have aa:(x.2.2.2 !=y.2.2.2)=false:=q3i hd3;have O:=zaa hd3;clear hd3;have P:=s.cell 4;have Q:=t.cell 4;simp at P Q;go_wp2_with fail;go_ret;exact⟨qg (by rw[T.out,u.out,r.out,v.out,O.out];first|rfl|simp),U⟩
end Go.Proofs.YtfnmkbpogbekpaaGreatDoor
