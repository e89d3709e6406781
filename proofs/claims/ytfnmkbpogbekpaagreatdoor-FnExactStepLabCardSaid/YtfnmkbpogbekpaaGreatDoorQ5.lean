import Derived.Test.YtfnmkbpogbekpaaGreatDoorQ4
set_option linter.unusedVariables false
set_option linter.unusedSimpArgs false
set_option maxRecDepth 100000
set_option maxHeartbeats 32000000
namespace Go.Proofs.YtfnmkbpogbekpaaGreatDoor
open Go.RowKit
noncomputable def fixW (w:World) (g n:Nat):Nat:=(List.range n).countP fun i=>tt (w.cell? ⟨g,i,none⟩=some (.int .i64 (i:Int)))
def flgV:Value->Nat| .bool true=>1|_=>0
theorem qgl {w:World} {base g n c:Nat} {p:List Int} (h:w.ownsRow base 3 1 (.slice (some ⟨g,0,none⟩) n c) n (ints p)) (d:ParP n p):fixW w g n=fixs n p:=by
 unfold fixW fixs;rw[<-List.countP_eq_length_filter];refine List.countP_congr fun i b=>?_
 have a:=zdu.1 b;rw[q80 h (d.at a).1 a,q3p,zdp];constructor
 .intro e
  injection e with e
  injection e with _ e
  omega
 .intro e
  rw[e]
def PdD (n:Nat) (ops:List OpM) (p:List Int) (j k q:Nat):Prop:=(∀j',j'<j->∀o,ops[j']?=some o->∀k',k'<o.1.toNat->∀i,i<o.2.length->PrE n p o i (o.1.toNat - 1 - k'))/\(∀o,ops[j]?=some o->(∀k',k'<k->k'<o.1.toNat->∀i,i<o.2.length->PrE n p o i (o.1.toNat - 1 - k'))/\(k<o.1.toNat->∀i,i<q->i<o.2.length->PrE n p o i (o.1.toNat - 1 - k)))
theorem PdD.start (n:Nat) (ops:List OpM) (p:List Int):PdD n ops p 0 0 0:=⟨fun a h=>absurd h (by omega),fun o _=>⟨fun b h=>absurd h (by omega),fun _ i h=>absurd h (by omega)⟩⟩
theorem PdD.entry {n:Nat} {ops:List OpM} {p:List Int} {j k q:Nat} {o:OpM} (h:PdD n ops p j k q) (c:ops[j]?=some o) (d:PrE n p o q (o.1.toNat - 1 - k)):PdD n ops p j k (q+1):=⟨h.1,fun l a=>by
 rw[c]at a;injection a with a
 subst a;refine⟨(h.2 _ c).1,fun f i g b=>?_⟩
 by_cases e:i=q
 .subst e;exact d
 .exact(h.2 _ c).2 f i (by omega) b⟩
theorem PdD.digit {n:Nat} {ops:List OpM} {p:List Int} {j k q:Nat} {o:OpM} (h:PdD n ops p j k q) (d:ops[j]?=some o) (l:¬q<o.2.length):PdD n ops p j (k+1) 0:=⟨h.1,fun m a=>by
 rw[d]at a;injection a with a
 subst a;refine⟨fun f g b i c=>?_,fun _ i c=>absurd c (by omega)⟩
 by_cases e:f=k
 .subst e;exact(h.2 _ d).2 b i (by omega) c
 .exact(h.2 _ d).1 f (by omega) b i c⟩
theorem PdD.op {n:Nat} {ops:List OpM} {p:List Int} {j k q:Nat} {o:OpM} (h:PdD n ops p j k q) (f:ops[j]?=some o) (r:¬k<o.1.toNat):PdD n ops p (j+1) 0 0:=⟨fun g m l a c b i d=>by
 by_cases e:g=j
 .subst e
  rw[f]at a;injection a with a
  subst a;exact(h.2 _ f).1 c (by omega) b i d
 .exact h.1 g (by omega) l a c b i d,fun l _=>⟨fun c h=>absurd h (by omega),fun _ i h=>absurd h (by omega)⟩⟩
theorem PdD.done {n:Nat} {ops:List OpM} {p:List Int} {j k q:Nat} (h:PdD n ops p j k q) (f:¬j<ops.length):q4d n ops p:=fun o c d hd i b=>by
 obtain⟨e,a⟩:=zbh c;have:=(zag.1 a).1;have:=h.1 e (by omega) o a (o.1.toNat - 1 - d) (by omega) i b
 rwa [show o.1.toNat - 1 - (o.1.toNat - 1 - d)=d by omega]at this
structure CgI (n:Nat) (ops:List OpM) (p0 ps p:List Int) (was ch:Bool) (j k q:Nat):Prop where
 pos:0<n
 ok:∀o∈ops,OpP n o
 par:ParP n p
 yes:was=true->¬q4d n ops p0
 no:was=false->p=p0/\ch=false
 fin:ch=false->p=ps/\PdD n ops p j k q
 less:ch=true->fixs n p<fixs n ps
 ul:UL n ops p0 p
theorem CgI.mv {n:Nat} {ops:List OpM} {f g p:List Int} {a b:Bool} {j k q d e i:Nat} (h:CgI n ops f g p a b j k q) (hd:PdD n ops p j k q->PdD n ops p d e i):CgI n ops f g p a b d e i:=⟨h.pos,h.ok,h.par,h.yes,h.no,fun c=>⟨(h.fin c).1,hd (h.fin c).2⟩,h.less,h.ul⟩
theorem CgI.join {n:Nat} {ops:List OpM} {r s p:List Int} {d f:Bool} {j k q x y:Nat} {o:OpM} (h:CgI n ops r s p d f j k q) (e:ops[j]?=some o) (v:k<o.1.toNat) (i:q<o.2.length) (l:nmAt o.2 q=x) (m:nmAt o.2 (repI n o.1.toNat p q (o.1.toNat - 1 - k))=y) (a:x<n) (b:y<n) (c:nmAt p x≠nmAt p y):CgI n ops r s (uniL p x y) true true j k (q+1):=by
 refine⟨h.pos,h.ok,qgd h.par a b,fun _ g=>?_,fun h=>(by cases h),fun h=>(by cases h),fun _=>?_,h.ul.join h.par h.pos (zaf e) (h.ok o (zaf e)) (by omega) i l m a b⟩
 .rcases d with _|_
  .have u:=(h.no rfl).1
   subst u;have:=g o (zaf e) (o.1.toNat - 1 - k) (by omega) q i;unfold PrE at this;rw[l,m]at this;exact c this
  .exact h.yes rfl g
 .have t:=qn3 h.par a b c
  rcases f with _|_
  .rw[<-(h.fin rfl).1];exact t
  .have:=h.less rfl;omega
theorem CgI.keep {n:Nat} {ops:List OpM} {d e p:List Int} {a b:Bool} {j k q x y:Nat} {o:OpM} (h:CgI n ops d e p a b j k q) (f:ops[j]?=some o) (g:nmAt o.2 q=x) (i:nmAt o.2 (repI n o.1.toNat p q (o.1.toNat - 1 - k))=y) (c:nmAt p x=nmAt p y):CgI n ops d e (uniL p x y) a b j k (q+1):=by
 rw[qd0 c];exact h.mv fun hd=>hd.entry f (by unfold PrE;rw[g,i,c])
theorem CgI.begin_ {n:Nat} {ops:List OpM} {c p:List Int} {a:Bool} (e:0<n) (b:∀o∈ops,OpP n o) (f:ParP n p) (i:a=true->¬q4d n ops c) (d:(a=false->p=c)/\UL n ops c p):CgI n ops c p p a false 0 0 0:=⟨e,b,f,i,fun g=>⟨d.1 g,rfl⟩,fun _=>⟨rfl,PdD.start _ _ _⟩,fun h=>(by cases h),d.2⟩
theorem q7m (cs:List Value) (x:qi) (g n c base:Nat) (u:List Int) (wa w:World) (h:qf.rd wa cs x) (hx:AlgP x) (hn:x.1=(n:Int)) (hT:Below wa.heap.size wa w) (hba:wa.heap.size<=base) (f:w.ownsRow base 3 1 (.slice (some ⟨g,0,none⟩) n c) n (ints u)) (hp0:ParP n u):
  Calls Tryz.prog 177 #[.agg cs.toArray,.slice (some ⟨g,0,none⟩) n c] w fun e w'=>e=.returned (.bool (!(tt (q4d n x.2 u))))/\w.grownBy w' (some g)/\∃p,w'.ownsRow base 3 1 (.slice (some ⟨g,0,none⟩) n c) n (ints p)/\ParP n p/\q4d n x.2 p/\UL n x.2 u p:=by
 obtain⟨a,r⟩:=x;obtain⟨hx1,hx2,hx3,U⟩:=hx;simp only at hx1 hx2 hx3 U hn;subst hn;rw[za1]at U;have J:0<n:=by omega
 have hn8:n<=8:=by omega
 obtain⟨B,m,d,rfl,-,qo⟩:=qv h;have HML:=zaa qo.len;have Y:=zaa U;have hm4:m<=4:=by rw[<-qo.len];exact hx3
 have hgl:=f.lt g rfl;obtain⟨w0,hw0,T0,hsz0,BP⟩:=q16 w #[.int .i64 (n:Int),.slice B m d] 24;have HW0:=zaa hw0;have K:=ql f T0;have HB:=zaa hba;have hgw:(some w.heap.size)≠some g:=fun e=>by injection e with e;omega
 have HT0:Hid (w.grownBy w0 (some g)):=qlu T0;have P:Hid (∀E,w0.grownBy E (some g)->Below wa.heap.size wa E):=fun E hz=>(q9 hT T0 rfl).grown hz (zbb hT.size T0.size) fun k hk=>by injection hk with hk;subst hk;exact zbb hba hgl.1
 have HBP:Hid (∀E,w0.grownBy E (some g)->E.cell? ⟨w.heap.size,0,none⟩=some (.int .i64 (n:Int))/\E.cell? ⟨w.heap.size,1,none⟩=some (.slice B m d)):=fun E hz=>by
  have:=BP.grown hz hgw;obtain⟨h0,h1⟩:=cl2 this;exact⟨h0,h1⟩
 have HP0:=zaa hp0;clear hw0 hsz0 f hx3 U h hT hba hp0
 go_enter Tryz.func177,Tryz.ntmps177
 go_upto_region 1 with fail;rw[<-HW0.out];go_wp2_with fail
 go_loopw [5,6] (fun s1 W wr=>∃(p:List Int) (l s:Bool),s1=.bool l/\W=.bool s/\Hid (ParP n p)/\Hid (l=true->¬q4d n r u)/\Hid ((l=false->p=u)/\UL n r u p)/\Hid (s=false->q4d n r p)/\wr.ownsRow base 3 1 (.slice (some ⟨g,0,none⟩) n c) n (ints p)/\w0.grownBy wr (some g)) (fun _ W wr=>2*fixW wr g n+flgV W)
 case atStart=>
  have h1:Hid (false=true->¬q4d n r u):=fun h=>(by cases h)
  have h2:Hid ((false=false->u=u)/\UL n r u u):=⟨fun _=>rfl,UL.refl _ _ _⟩;have h3:Hid (true=false->q4d n r u):=fun h=>(by cases h)
  exact⟨u,false,true,rfl,rfl,HP0,h1,h2,h3,K,q46 _ _⟩
 case round=>
  clear K;obtain⟨C,l,s,rfl,rfl,HP,HY,HN,HC,f,S⟩:=hrel;have HMS:Hid (fixW wr g n=fixs n C):=qgl f HP.out
  rcases s with _|_
  .have HD:Hid (l= !(tt (q4d n r u))):=by
    show _=_
    rcases l with _|_
    .rw[<-HN.out.1 rfl,<-q6i (HC.out rfl)];rfl
    .rw[<-q2g (HY.out rfl)];rfl
   have HF:Hid (q4d n r C/\UL n r u C):=⟨HC.out rfl,HN.out.2⟩;go_wp2_with fail;go_ret;exact⟨qg (by rw[<-HD.out]),q3r HT0.out S,C,f,HP.out,HF.out⟩
  .have kP1:=(HBP.out _ S).2
   have HI0:Hid (CgI n r u C C l false 0 0 0):=CgI.begin_ J Y.out HP.out HY.out HN.out;obtain⟨ws,HWS⟩:∃ws:World,ws=wr:=⟨_,rfl⟩;subst HWS;clear HP HY HN HC;go_wp2_with fail;clear kP1
   go_loopw [5,6,18] (fun s1 W i wr=>∃(j:Nat) (p:List Int) (l s:Bool),j<=m/\i=.int .i64 j/\s1=.bool l/\W=.bool s/\Hid (CgI n r u C p l s j 0 0)/\wr.ownsRow base 3 1 (.slice (some ⟨g,0,none⟩) n c) n (ints p)/\w0.grownBy wr (some g)) (fun _ _ i _=>m - (intOf i).toNat)
   case atStart=>exact⟨0,C,l,false,zah _,rfl,rfl,rfl,HI0,f,S⟩
   case round=>
    clear f S HI0;obtain⟨j,p,l,s,hj,rfl,rfl,rfl,A,f,S⟩:=hrel
    by_cases hlt:j<m
    .have hj0:(0:Int)<=(j:Int):=by omega
     have hj1:(j:Int)<(m:Int):=by omega
     obtain⟨b,o,vs,op,rfl,-,hc,hr,-,hxo⟩:=qo.at hlt;obtain⟨B',I,d',rfl,-,qt⟩:=rdOp hr;have T:=Y.out op (zaf hxo);obtain⟨H,tb,rfl,har⟩:=q7z T;have R:=zaa hxo;have HTL:Hid (I=n ^ H):=by show _=_;rw[<-qt.len];have:=T.2.2.1;simpa using this
     have HTB:Hid (tb.length=I):=qt.len;have HTV:=zaa T.2.2.2;have cc0':wr.cell? ⟨b,o+j*2,none⟩=some (.int .i64 (H:Int)):=qe (P.out _ S) (hc 0 _ rfl);have cc1':wr.cell? ⟨b,o+j*2+1,none⟩=some (.slice B' I d'):=qe (P.out _ S) (hc 1 _ rfl);have hm512:I<=4096:=by rw[HTL.out];exact q3n hn8 (by omega)
     obtain⟨w1,hw1,T1,hsz1,BX⟩:=q16 wr #[.int .i64 (H:Int),.slice B' I d'] 122;have HW1:=zaa hw1;have hg1:=(f.lt g rfl);have hG1:w0.grownBy w1 (some g):=q3r S (qlu T1);have L:=ql f T1;have hgx:(some wr.heap.size)≠some g:=fun e=>by injection e with e;omega
     have O:Hid (∀E,w1.grownBy E (some g)->E.cell? ⟨wr.heap.size,0,none⟩=some (.int .i64 (H:Int))/\E.cell? ⟨wr.heap.size,1,none⟩=some (.slice B' I d')):=fun E hz=>by
      have:=BX.grown hz hgx;obtain⟨h0,h1⟩:=cl2 this;exact⟨h0,h1⟩
     clear hc hr hw1 hsz1 hxo f T;go_wp2_with fail;rw[<-HW1.out];clear cc0' cc1';go_wp2_with fail
     go_loopw [5,6,9,10] (fun s1 W st kk wi=>∃(k t:Nat) (p:List Int) (l s:Bool),k<=H/\kk=.int .i64 k/\st=.int .i64 t/\Hid (t=n ^ k)/\s1=.bool l/\W=.bool s/\Hid (CgI n r u C p l s j k 0)/\wi.ownsRow base 3 1 (.slice (some ⟨g,0,none⟩) n c) n (ints p)/\w1.grownBy wi (some g)) (fun _ _ _ kk _=>H - (intOf kk).toNat)
     case atStart=>exact⟨0,1,p,l,s,zah _,rfl,rfl,(by show _=_;rw[zfu]),rfl,rfl,A,L,q46 _ _⟩
     case round=>
      clear L A;obtain⟨k,t,p,l,s,hk,rfl,rfl,Q,rfl,rfl,A,f,y⟩:=hrel;have ht4:t<=4096:=by rw[Q.out];exact q3n hn8 (by omega)
      have ht0:0<t:=by rw[Q.out];exact Nat.pow_pos J
      have G:w0.grownBy wr (some g):=q3r hG1 y;have kX0:=(O.out _ y).1;have V:=(O.out _ y).2;have kP0:=(HBP.out _ G).1
      by_cases hlk:k<H
      .have hk0:(0:Int)<=(k:Int):=by omega
       have hk1:(k:Int)<(H:Int):=by omega
       go_wp2_with fail;clear kX0 V kP0
       go_loopw [5,6,31] (fun s1 W i wi=>∃(q:Nat) (p:List Int) (l s:Bool),q<=I/\i=.int .i64 q/\s1=.bool l/\W=.bool s/\Hid (CgI n r u C p l s j k q)/\wi.ownsRow base 3 1 (.slice (some ⟨g,0,none⟩) n c) n (ints p)/\w1.grownBy wi (some g)) (fun _ _ i _=>I - (intOf i).toNat)
       case atStart=>exact⟨0,p,l,s,zah _,rfl,rfl,rfl,A,f,y⟩
       case round=>
        clear f A y G;obtain⟨q,p,l,s,hq,rfl,rfl,rfl,A,f,y⟩:=hrel;have G:w0.grownBy wr (some g):=q3r hG1 y;have kX0:=(O.out _ y).1;have V:=(O.out _ y).2;have kP0:=(HBP.out _ G).1
        by_cases hlq:q<I
        .have hq0:(0:Int)<=(q:Int):=by omega
         have hq1:(q:Int)<(I:Int):=by omega
         obtain⟨b3,o3,u3,v,rfl,hc3,⟨rfl,-,-⟩,-,hxv⟩:=(qt.next qd (P.out _ G)).at hlq;have hvi:=HTV.out v (zaf hxv);obtain⟨y1,rfl⟩:=zam hvi.1;have aa:y1<n:=by omega
         have HY1:Hid (nmAt tb q=y1):=by show _=_;rw[q1t hxv];simp
         obtain⟨D,HD⟩:∃D,Hid (q / t=D):=⟨_,rfl⟩;obtain⟨X,HX⟩:∃X,Hid (D % n=X):=⟨_,rfl⟩;have hXn:X<n:=by rw[<-HX.out];exact zfk _ J
         have hDq:D<=4096:=by rw[<-HD.out];exact zbb (zfg _ _) (by omega)
         have hpX:=A.out.par.at hXn;obtain⟨pX,HPX⟩:∃z,Hid (nmAt p X=z):=⟨_,rfl⟩;rw[HPX.out]at hpX;have hcX:=q80 f hpX.1 hXn;obtain⟨RP,HRP⟩:∃z,Hid (repI n H p q (H - 1 - k)=z):=⟨_,rfl⟩;have hRPm:RP<I:=by rw[<-HRP.out,HTL.out];exact qko J A.out.par
         have M:=qms (k:=H) (q:=k) (i:=q) (p:=p) J hlk (by rw[<-HTL.out];exact hlq);rw[HRP.out,<-Q.out,HD.out,HX.out,HPX.out]at M;obtain⟨u4,v4,hc4,⟨rfl,-,-⟩,-,N⟩:=(qt.next qd (P.out _ G)).at' hRPm;have Z:=HTV.out v4 (zaf N);obtain⟨y2,rfl⟩:=zam Z.1;have ab:y2<n:=by omega
         have HY2:Hid (nmAt tb (repI n H p q (H - 1 - k))=y2):=by show _=_;rw[HRP.out,q1t N];simp
         have htz:¬(t:Int)=0:=by omega
         have hnz:¬(n:Int)=0:=by omega
         have f1:(q:Int) / (t:Int)=(D:Int):=by rw[<-HD.out];simp
         have f2:(q:Int).tdiv (t:Int)=(D:Int):=by rw[<-HD.out];exact Int.ofNat_tdiv q t ▸ rfl
         have f3:IntKind.i64.wrap (D:Int)=(D:Int):=by rw[zde];omega
         have f4:(D:Int).tmod (n:Int)=(X:Int):=by rw[<-HX.out];rfl
         have f5:(D:Int) % (n:Int)=(X:Int):=by rw[<-HX.out];simp
         have hX0:(0:Int)<=(X:Int):=by omega
         have hX1:(X:Int)<(n:Int):=by omega
         have hR0:(0:Int)<=(RP:Int):=by omega
         have hR1:(RP:Int)<(I:Int):=by omega
         have er:(q:Int)+((pX:Int) - (X:Int))*(t:Int)=(RP:Int):=M.symm;have ew1:IntKind.i64.wrap ((pX:Int) - (X:Int))=(pX:Int) - (X:Int):=by rw[zde];omega
         have ew2:IntKind.i64.wrap (((pX:Int) - (X:Int))*(t:Int))=((pX:Int) - (X:Int))*(t:Int):=by
          have e1:((pX:Int) - (X:Int))*(t:Int)=(RP:Int) - (q:Int):=by omega
          rw[e1,zde];omega
         have ew3:IntKind.i64.wrap (RP:Int)=(RP:Int):=by rw[zde];omega
         have HU:=zaa fun(E:World) (ho:E.ownsRow base 3 1 (.slice (some ⟨g,0,none⟩) n c) n (ints p))=>qeu g n c base p y1 y2 E ho A.out.par aa ab (by omega)
         clear hxv hvi N Z M hpX;go_wp2_with fail
         go_quiet (fail)
         go_wp2_with fail;clear f1 f2 f4 f5
         go_region_law (first
          |(go_simp;go_at_call 193;(with_reducible refine(HU.out _ ?_).mono ?_);(exact f);rintro e wu ⟨rfl,hou,hgu⟩))
         all_goals
          have hG4:w1.grownBy wu (some g):=(by first|exact q3r y hgu|exact q3r (q99 y _) hgu);have HOU:=zaa hou;clear hou hgu
          by_cases heq:nmAt p y1=nmAt p y2
          .have F:Hid (CgI n r u C (uniL p y1 y2) l s j k (q+1)):=A.out.keep R.out HY1.out (by simpa using HY2.out) heq
           have hd:decide (nmAt p y1=nmAt p y2)=true:=zbm heq;rw[hd];clear heq hd;go_wp2_with fail
           go_roundw
           case rel=>exact⟨q+1,_,l,s,by omega,by go_num,rfl,rfl,F,HOU.out,hG4⟩
           case measure=>simp[intOf];try omega
          .have F:Hid (CgI n r u C (uniL p y1 y2) true true j k (q+1)):=A.out.join R.out (by simpa using hlk) (by have:=HTB.out;simp only;omega) HY1.out (by simpa using HY2.out) aa ab heq
           have hd:decide (nmAt p y1=nmAt p y2)=false:=zbn heq;rw[hd];clear heq hd;go_wp2_with fail
           go_roundw
           case rel=>exact⟨q+1,_,true,true,by omega,by go_num,rfl,rfl,F,HOU.out,hG4⟩
           case measure=>simp[intOf];try omega
        .have hq1:¬(q:Int)<(I:Int):=by omega
         have F:Hid (CgI n r u C p l s j (k+1) 0):=A.out.mv fun h=>h.digit R.out (by have:=HTB.out;simp only;omega)
         have hM:t*n<=4096*8:=zcj ht4 hn8;have hm0:(0:Int)<=(t:Int)*(n:Int):=by rw[<-zbx];omega
         have hm1:(t:Int)*(n:Int)<=32768:=by rw[<-zbx];omega
         have HE:Hid ((t:Int)*(n:Int)=((t*n:Nat):Int)):=(zbx _ _).symm;have HT2:Hid (t*n=n ^ (k+1)):=by show _=_;rw[Q.out,zff]
         clear hM V;go_wp2_with fail
         go_roundw
         case rel=>exact⟨k+1,t*n,p,l,s,by omega,by go_num,by rw[HE.out],HT2,rfl,rfl,F,f,y⟩
         case measure=>simp[intOf];try omega
      .have hk1:¬(k:Int)<(H:Int):=by omega
       have F:Hid (CgI n r u C p l s (j+1) 0 0):=A.out.mv fun h=>h.op R.out (by simp;omega)
       clear V kP0;go_wp2_with fail
       go_roundw
       case rel=>exact⟨j+1,p,l,s,by omega,by go_num,rfl,rfl,F,f,G⟩
       case measure=>simp[intOf];try omega
    .have hj1:¬(j:Int)<(m:Int):=by omega
     have HF1:Hid (l=true->¬q4d n r u):=A.out.yes;have HF2:Hid ((l=false->p=u)/\UL n r u p):=⟨fun h=>(A.out.no h).1,A.out.ul⟩;have HF3:Hid (s=false->q4d n r p):=fun h=>(A.out.fin h).2.done (by rw[HML.out];exact hlt)
     have HPP:Hid (ParP n p):=A.out.par;have HMS2:Hid (fixW wr g n=fixs n p):=qgl f A.out.par;go_wp2_with fail
     go_roundw
     case rel=>exact⟨p,l,s,rfl,rfl,HPP,HF1,HF2,HF3,f,S⟩
     case measure=>
      show 2*fixW wr g n+flgV (.bool s)<2*fixW _ g n+flgV (.bool true)
      rw[HMS2.out,HMS.out]
      rcases s with _|_
      .rw[(A.out.fin rfl).1]
       show 2*fixs n C+0<2*fixs n C+1
       omega
      .have:=A.out.less rfl
       show 2*fixs n p+1<2*fixs n C+1
       omega
theorem q93 (cs:List Value) (x:qi) (A:Option Addr) (m c:Nat) (p:List Int) (w:World) (h:qf.rd w cs x) (C:AlgP x) (o:RdL RI w A m p):
  Calls Tryz.prog 129 #[.agg cs.toArray,.slice A m c] w (Bl w (.bool (q3q x.1.toNat x.2 p))):=by
 have u:=h;obtain⟨B,k,d,rfl,-,qo⟩:=qv h;obtain⟨n,F⟩:∃n:Nat,x.1=(n:Int):=⟨x.1.toNat,by have:=C.1;omega⟩;have t:=zaa F;have hn8:n<=8:=by have:=C.2.1;omega
 have R:0<n:=by have:=C.1;omega
 have J:Hid (x.1.toNat=n):=by show _=_;omega
 obtain⟨f,y,l,v,T⟩:=q16 w #[.int .i64 x.1,.slice B k d] 24;have j:=zaa y;have L:=zaa (qf.stab u l.block);rw[F]at j T;obtain⟨M,N⟩:=cl2 T;have W:=zaa C;have U:=o.next qd l;have I:=zaa o.len;have s:Hid (∀a,Below f.heap.size f a->Calls Tryz.prog 176 #[.int .i64 (n:Int),.slice A m c] a (Qt a (.bool (tt (ParP n p))))):=fun a D=>q23 (q9s A n m c p a (U.next qd D) (by omega))
 rw[J.out];rw[F];clear y v u qo h C o F
 rcases hb:tt (ParP n p)with _|_
 .rw[hb]at s
  have K:Hid (q3q n x.2 p=false):=by show _=_;unfold q3q;rw[hb];rfl
  clear hb
  go_enter Tryz.func129,Tryz.ntmps129
  go_upto_region 1 with fail;rw[<-j.out]
  go_quiet ((go_at_call 176;first|exact q1k (s.out _ (by first|exact zab _ _|exact qc (zab _ _) _))|exact q1e (s.out _ (by first|exact zab _ _|exact qc (zab _ _) _))))
  go_wp2_with fail;go_ret;exact⟨qg K.out.symm,(by first|exact l|exact qc (l) _|exact qc (qc (l) _) _|exact qc (qc (qc (l) _) _) _)⟩
 .rw[hb]at s
  have S:=q3p.1 hb;have Q:m=n:=by rw[<-I.out];exact S.1
  subst Q;have V:=zaa S;have K:Hid (q3q m x.2 p=tt (q4d m x.2 p)):=by show _=_;unfold q3q;rw[hb];rfl
  obtain⟨cb,q⟩:∃z,Hid (tt (q4d m x.2 p)=z):=⟨_,rfl⟩;have G:Hid (∀a,Below f.heap.size f a->Calls Tryz.prog 137 #[.slice A m c] a fun e w'=>∃A' c',e=.returned (.slice A' m c')/\w'.ownsRow a.heap.size 3 1 (.slice A' m c') m (ints p)/\Below a.heap.size a w'):=fun a D=>q43 A m c p a (U.next qd D) (by omega)
  have H:Hid (∀(g E:Nat) (a:World),Below f.heap.size f a->a.ownsRow f.heap.size 3 1 (.slice (some ⟨g,0,none⟩) m E) m (ints p)->Calls Tryz.prog 177 #[.agg #[.int .i64 (m:Int),.slice B k d],.slice (some ⟨g,0,none⟩) m E] a fun e w'=>e=.returned (.bool (!cb))/\a.grownBy w' (some g)):=fun g E a D ho=>by
   have:=q7m _ x g m E f.heap.size p f a L.out W.out t.out D (zad _) ho V.out;rw[t.out,q.out]at this;exact this.mono fun _ _ h=>⟨h.1,h.2.1⟩
  have b:Below f.heap.size f f:=zab _ _;clear hb S
  go_enter Tryz.func129,Tryz.ntmps129
  go_upto_region 1 with fail;rw[<-j.out]
  go_region_law (first
   |(go_simp;go_at_call 176;(with_reducible refine(s.out _ ?_).mono ?_);(first|exact b|exact qc b _);rintro e wa ⟨rfl,za,rfl⟩)
   |(go_simp;go_at_call 137;(with_reducible refine(G.out _ ?_).mono ?_);(first|exact b|exact qc b _);rintro e wb ⟨A5,X,rfl,i,O⟩;replace i:=qh (base':=f.heap.size) i (by exact b.size);replace b:=q9 (by first|exact b|exact qc b _) O rfl;obtain⟨g5,rfl,-,-⟩:=q2b i R;have Y:=qe b M;have Z:=qe b N)
   |(go_simp;go_at_call 177;(refine(H.out g5 X _ ?_ ?_).mono ?_);(first|exact b|exact qc b _);(exact i);rintro e wc ⟨rfl,P⟩;replace b:=Below.grown (by first|exact b|exact qc b _) P (by exact b.size) (fun r o=>by injection o with o;subst o;exact(i.lt _ rfl).1)))
  all_goals
   go_wp2_with fail;go_ret;exact⟨qg (by rw[K.out,q.out];try simp),q9 l (by first|exact b|exact qc b _) rfl⟩
theorem q8s (cs ds:List Value) (x:qi) (f:q12) (w:World) (h:qf.rd w cs x) (h':qj.rd w ds f) (N:AlgP x):
  Calls Tryz.prog 75 #[.agg cs.toArray,.agg ds.toArray] w (Bl w (.bool (q1l x f))):=by
 have hrd:=h;obtain⟨B,k,d,rfl,-,qo⟩:=qv h;obtain⟨AL,nL,cL,AR,nR,cR,z,r,D,rfl,-,rL,rR,rV⟩:=q1u h';obtain⟨c,⟨L,R⟩,V⟩:=f;simp only at rL rR rV;obtain⟨n,hN⟩:∃n:Nat,x.1=(n:Int):=⟨x.1.toNat,by have:=N.1;omega⟩;have J:Hid (x.1.toNat=n):=by show _=_;omega
 have hn8:n<=8:=by have:=N.2.1;omega
 obtain⟨m,hw0,g,hsz0,BP,BQ⟩:=q1p w #[.int .i64 x.1,.slice B k d] #[.int .i64 c,.slice AL nL cL,.slice AR nR cR,.slice z r D] 24 57;have ai:=zaa hw0;have P:=qf.stab hrd g.block;have aa:=rL.next qd g;have ab:=rR.next qd g;have q:=rV.next qd g;have H2:qu.rd m [.slice AL nL cL,.slice AR nR cR] ((L,R):q1a):=q22 aa ab;have hle:=aa.le;have hle2:=ab.le;have hle3:=q.le;have HLL:=zaa rL.len;have HLR:=zaa rR.len;have HLV:=zaa rV.len;have s:=zaa (q8q _ _ x (L,R) m P H2 N);have t:=zaa (qc6 _ _ x (L,R) z r D V m P H2 q N);have E:=zaa (qjh _ x z r D V m P N q);have F:=zaa (q93 _ x z r D V m P N q);have G:=zaa (qjf _ x z r D V m P N q);have HX:=zaa N;have ag:=zaa P;have Y:=zaa q;rw[J.out]at s t E F G;rw[hN]at s t E F G BP ai ag;obtain⟨cP0,cP1⟩:=cl2 BP;obtain⟨cQ0,cQ1,cQ2,ak⟩:=cl4 BQ;obtain⟨Z,W⟩:∃b,Hid ((decide (nL=0) &&decide (nR=0))=b):=⟨_,rfl⟩;have af:Hid (noEq (L,R)=Z):=by
  show _=_
  rw[<-W.out];unfold noEq;simp only;rw[HLL.out,HLR.out]
  congr 1<;>exact decide_eq_decide.2 (by omega)
 have K:Hid (q1l x (c,(L,R),V)=if c=1 then q7r n x.2 L R &&decide (r=0)else if c=2 then askB n x.2 L R &&q45 n x.2 L R V else Z &&(if c=3 then subB n x.2 V else if c=4 then q3q n x.2 V else if c=5 then genB n x.2 V else if c=6 then homB n x.2 V else false)):=by
  show _=_
  unfold q1l;simp only;rw[J.out,af.out,HLV.out]
 rw[hN];clear hw0 hsz0 hrd qo h h' N hN P H2 rL rR rV aa ab q
 go_enter Tryz.func75,Tryz.ntmps75
 go_upto_region 1 with fail;rw[<-ai.out]
 go_cut [5]from 8 to 19 (fun u5 wx=>u5=.bool Z/\wx=m)
 case first=>
  rcases o:decide (nL=0)with _|_
  .have hd:=q4p o
   have I:Hid (Z=false):=by show _=_;rw[<-W.out,o];rfl
   clear o;go_wp2_with fail;go_meet;exact⟨by rw[I.out],rfl⟩
  .have hd:=q4p o
   have I:Hid (Z=decide (nR=0)):=by show _=_;rw[<-W.out,o];rfl
   clear o
   rcases y:decide (nR=0)with _|_
   all_goals
    have hd2:=q4p y;rw[y]at I;clear y;go_wp2_with fail;go_meet;exact⟨by rw[I.out],rfl⟩
 case rest=>
  obtain⟨rfl,hwc⟩:=hcut;subst hwc;obtain⟨m,HWC⟩:∃wq:World,wq=wc:=⟨_,rfl⟩;subst HWC
  by_cases h1:c=1
  .subst h1
   obtain⟨hb,U⟩:∃b,Hid (q7r n x.2 L R=b):=⟨_,rfl⟩;obtain⟨aj,ac⟩:∃b,Hid (askB n x.2 L R=b):=⟨_,rfl⟩;have HHA:Hid (aj=false->hb=false):=fun h=>by
    rw[<-U.out];unfold q7r;rw[ac.out,h];rfl
   have a:Hid (q1l x (1,(L,R),V)=(hb &&decide (r=0))):=by show _=_;rw[K.out,zao rfl,U.out]
   simp only at s;rw[U.out,ac.out]at s;go_wp2_with fail;refine s.out.mono ?_;rintro e w1 ⟨rfl,i⟩;replace ak:=qe i ak
   rcases aj with _|_
   .have:=HHA.out rfl
    subst this;go_wp2_with fail;go_ret;exact⟨qg (by rw[a.out];rfl),q9 g i rfl⟩
   .rcases hb with _|_
    .go_wp2_with fail
     go_ret;exact⟨qg (by rw[a.out];rfl),q9 g i rfl⟩
    .rcases M:decide (r=0)with _|_
     all_goals
      have hd3:=q4p M;rw[M]at a;clear M;go_wp2_with fail;go_ret;exact⟨qg (by rw[a.out];rfl),q9 g i rfl⟩
  by_cases h2:c=2
  .subst h2
   have a:Hid (q1l x (2,(L,R),V)=(askB n x.2 L R &&q45 n x.2 L R V)):=by show _=_;rw[K.out,zaj (by decide),zao rfl]
   obtain⟨b,Q⟩:∃b,Hid ((askB n x.2 L R &&q45 n x.2 L R V)=b):=⟨_,rfl⟩;simp only at t;rw[Q.out]at t a;clear h1;go_wp2_with fail;refine t.out.mono ?_;rintro e w1 ⟨rfl,i⟩;go_wp2_with fail;go_ret;exact⟨qg a.out.symm,q9 g i rfl⟩
  have o:(c==1)=false:=zbi.2 h1;have y:(c==2)=false:=zbi.2 h2;have ah:Hid (q1l x (c,(L,R),V)=(Z &&(if c=3 then subB n x.2 V else if c=4 then q3q n x.2 V else if c=5 then genB n x.2 V else if c=6 then homB n x.2 V else false))):=by show _=_;rw[K.out,zaj h1,zaj h2]
  clear K h1 h2 s t
  rcases Z with _|_
  .have a:Hid (q1l x (c,(L,R),V)=false):=by show _=_;rw[ah.out];rfl
   by_cases p:c=3
   .subst p
    clear o y;go_wp2_with fail;go_ret;exact⟨qg a.out.symm,g⟩
   by_cases h4:c=4
   .subst h4
    clear o y p;go_wp2_with fail;go_ret;exact⟨qg a.out.symm,g⟩
   have M:(c==3)=false:=zbi.2 p;have e4:(c==4)=false:=zbi.2 h4
   by_cases h5:c=5
   .subst h5
    clear o y M e4 p h4;go_wp2_with fail
    go_quiet (fail)
    go_wp2_with fail;go_ret;exact⟨qg a.out.symm,(by first|exact g|exact qc (g) _|exact qc (qc (g) _) _|exact qc (qc (qc (g) _) _) _)⟩
   have e5:(c==5)=false:=zbi.2 h5
   by_cases h6:c=6
   .subst h6
    clear o y M e4 e5 p h4 h5;go_wp2_with fail;go_ret;exact⟨qg a.out.symm,g⟩
   have e6:(c==6)=false:=zbi.2 h6;clear p h4 h5 h6;go_wp2_with fail;go_ret;exact⟨qg a.out.symm,g⟩
  .have C:Hid (q1l x (c,(L,R),V)=(if c=3 then subB n x.2 V else if c=4 then q3q n x.2 V else if c=5 then genB n x.2 V else if c=6 then homB n x.2 V else false)):=by show _=_;rw[ah.out];rfl
   by_cases p:c=3
   .subst p
    have a:Hid (q1l x (3,(L,R),V)=subB n x.2 V):=by show _=_;rw[C.out,zao rfl]
    obtain⟨b,Q⟩:∃b,Hid (subB n x.2 V=b):=⟨_,rfl⟩;rw[Q.out]at E a;clear o y;go_wp2_with fail;refine E.out.mono ?_;rintro e w1 ⟨rfl,i⟩;go_wp2_with fail;go_ret;exact⟨qg a.out.symm,q9 g i rfl⟩
   by_cases h4:c=4
   .subst h4
    have a:Hid (q1l x (4,(L,R),V)=q3q n x.2 V):=by show _=_;rw[C.out,zaj (by decide),zao rfl]
    obtain⟨b,Q⟩:∃b,Hid (q3q n x.2 V=b):=⟨_,rfl⟩;rw[Q.out]at F a;clear o y p;go_wp2_with fail;refine F.out.mono ?_;rintro e w1 ⟨rfl,i⟩;go_wp2_with fail;go_ret;exact⟨qg a.out.symm,q9 g i rfl⟩
   have M:(c==3)=false:=zbi.2 p;have e4:(c==4)=false:=zbi.2 h4
   by_cases h5:c=5
   .subst h5
    have a:Hid (q1l x (5,(L,R),V)=genB n x.2 V):=by show _=_;rw[C.out,zaj (by decide),zaj (by decide),zao rfl]
    clear o y M e4 p h4;obtain⟨b1,S⟩:∃b,Hid (q1v 0 ((n:Int) - 1) V=b):=⟨_,rfl⟩;obtain⟨b2,ad⟩:∃b,Hid (q20 V=b):=⟨_,rfl⟩;have H:Hid (genB n x.2 V=((b1 &&b2) &&decide ((genL n x.2 V).length=n))):=by show _=_;unfold genB;rw[S.out,ad.out]
    have A:Hid (∀j,Below m.heap.size m j->Calls Tryz.prog 130 #[.slice z r D,.int .i64 (n:Int)] j (Qt j (.bool b1))):=fun j O=>by
     have:=q23 (q3y z r D V (n:Int) j (Y.out.next qd O))
     rwa [S.out]at this
    have X:Hid (∀j,Below m.heap.size m j->Calls Tryz.prog 131 #[.slice z r D] j (Qt j (.bool b2))):=fun j O=>by
     have:=qej z r D V j (Y.out.next qd O)
     rwa [ad.out]at this
    obtain⟨gl,T⟩:∃l,Hid (genL n x.2 V=l):=⟨_,rfl⟩;have hgl:gl.length<=8:=by rw[<-T.out];exact zbb (q3t _ _) hn8
    have ae:Hid (b1=true->∀j,Below m.heap.size m j->Calls Tryz.prog 132 #[.agg #[.int .i64 (n:Int),.slice B k d],.slice z r D] j (OwI j gl)):=fun i j O=>by
     subst i;have:=q66 _ x z r D V j (qf.stab ag.out O.block) HX.out (Y.out.next qd O) (fun v hv=>by have:=q4n.1 S.out v hv;have h2:=J.out;have p:=HX.out.1;omega);rw[J.out,T.out]at this;exact this
    have u:Below m.heap.size m m:=zab _ _;rw[T.out]at H
    rcases b1 with _|_
    .go_wp2_with fail
     go_quiet ((go_at_call 130;first|exact q1k (A.out _ (by first|exact zab _ _|exact qc (zab _ _) _))|exact q1e (A.out _ (by first|exact zab _ _|exact qc (zab _ _) _))))
     go_wp2_with fail;go_ret;exact⟨qg (by rw[a.out,H.out];rfl),(by first|exact g|exact qc (g) _|exact qc (qc (g) _) _|exact qc (qc (qc (g) _) _) _)⟩
    have HGT:=zaa (ae.out rfl);clear ae
    rcases b2 with _|_
    .go_wp2_with fail
     go_quiet ((first
      |(go_at_call 130;first|exact q1k (A.out _ (by first|exact zab _ _|exact qc (zab _ _) _))|exact q1e (A.out _ (by first|exact zab _ _|exact qc (zab _ _) _)))
      |(go_at_call 131;first|exact q1k (X.out _ (by first|exact zab _ _|exact qc (zab _ _) _))|exact q1e (X.out _ (by first|exact zab _ _|exact qc (zab _ _) _)))))
     go_wp2_with fail;go_ret;exact⟨qg (by rw[a.out,H.out];rfl),(by first|exact g|exact qc (g) _|exact qc (qc (g) _) _|exact qc (qc (qc (g) _) _) _)⟩
    .have KP0:Hid (∀j,Below m.heap.size m j->j.cell? ⟨w.heap.size,0,none⟩=some (.int .i64 (n:Int))):=fun j O=>qe O cP0
     go_wp2_with fail
     go_region_law (first
      |(go_simp;go_at_call 130;(with_reducible refine(A.out _ ?_).mono ?_);(first|exact u|exact qc u _);rintro e wa ⟨rfl,za,rfl⟩)
      |(go_simp;go_at_call 131;(with_reducible refine(X.out _ ?_).mono ?_);(first|exact u|exact qc u _);rintro e wb ⟨rfl,zb,rfl⟩)
      |(go_simp;go_at_call 132;(with_reducible refine(HGT.out _ ?_).mono ?_);(first|exact u|exact qc u _);rintro e wc ⟨A5,c5,rfl,-,hb5⟩;replace u:=q9 (by first|exact u|exact qc u _) hb5 rfl;have cR0:=KP0.out _ u))
     all_goals
      go_wp2_with fail;go_ret;exact⟨qg (by rw[a.out,H.out,zdt,zdt,zcd];simp;try omega),q9 g (by first|exact u|exact qc u _) rfl⟩
   have e5:(c==5)=false:=zbi.2 h5
   by_cases h6:c=6
   .subst h6
    have a:Hid (q1l x (6,(L,R),V)=homB n x.2 V):=by show _=_;rw[C.out,zaj (by decide),zaj (by decide),zaj (by decide),zao rfl]
    obtain⟨b,Q⟩:∃b,Hid (homB n x.2 V=b):=⟨_,rfl⟩;rw[Q.out]at G a;clear o y M e4 e5 p h4 h5;go_wp2_with fail;refine G.out.mono ?_;rintro e w1 ⟨rfl,i⟩;go_wp2_with fail;go_ret;exact⟨qg a.out.symm,q9 g i rfl⟩
   have e6:(c==6)=false:=zbi.2 h6;have a:Hid (q1l x (c,(L,R),V)=false):=by show _=_;rw[C.out,zaj p,zaj h4,zaj h5,zaj h6]
   clear p h4 h5 h6;go_wp2_with fail;go_ret;exact⟨qg a.out.symm,g⟩
theorem qgs {l:List Nat} {k d:Nat} (h:l[k]?=some d):(nats l)[k]?=some (d:Int):=by simp[nats,h]
theorem qk4 (l:List Nat) (p v:Nat):(nats l).set p (v:Int)=nats (l.set p v):=by simp[nats,List.map_set]
def PhD (n:Nat) (ops:List OpM) (p:List Int) (j q d:Nat):Prop:=(∀j',j'<j->∀o,ops[j']?=some o->∀i,i<o.2.length->∀d',d'<o.1.toNat->PrE n p o i d')/\(∀o,ops[j]?=some o->(∀i,i<q->i<o.2.length->∀d',d'<o.1.toNat->PrE n p o i d')/\(∀d',d'<d->d'<o.1.toNat->PrE n p o q d'))
theorem PhD.start (n:Nat) (ops:List OpM) (p:List Int):True↔PhD n ops p 0 0 0:=⟨fun _=>⟨fun b h=>absurd h (by omega),fun o _=>⟨fun i h=>absurd h (by omega),fun a h=>absurd h (by omega)⟩⟩,fun _=>trivial⟩
theorem PhD.pair {n:Nat} {ops:List OpM} {p:List Int} {j q d:Nat} {o:OpM} (f:ops[j]?=some o) (hd:d<o.1.toNat):(PhD n ops p j q d/\PrE n p o q d)↔PhD n ops p j q (d+1):=by
 constructor
 .rintro⟨⟨g,b⟩,l⟩
  refine⟨g,fun i a=>?_⟩;rw[f]at a;injection a with a
  subst a;refine⟨(b _ f).1,fun c k h=>?_⟩
  by_cases e:c=d
  .subst e;exact l
  .exact(b _ f).2 c (by omega) h
 .rintro⟨g,b⟩
  exact⟨⟨g,fun i a=>⟨(b i a).1,fun c k h=>(b i a).2 c (by omega) h⟩⟩,(b o f).2 d (by omega) hd⟩
theorem PhD.entry {n:Nat} {ops:List OpM} {p:List Int} {j q d:Nat} {o:OpM} (k:ops[j]?=some o) (hd:¬d<o.1.toNat) (t:q<o.2.length):PhD n ops p j q d↔PhD n ops p j (q+1) 0:=by
 constructor
 .rintro⟨l,f⟩
  refine⟨l,fun m a=>⟨fun i s b c g=>?_,fun c h=>absurd h (by omega)⟩⟩;rw[k]at a;injection a with a
  subst a
  by_cases e:i=q
  .subst e;exact(f _ k).2 c (by omega) g
  .exact(f _ k).1 i (by omega) b c g
 .rintro⟨l,f⟩
  refine⟨l,fun m a=>⟨fun i s b=>(f m a).1 i (by omega) b,fun c u r=>?_⟩⟩;rw[k]at a;injection a with a
  subst a;exact(f _ k).1 q (by omega) t c r
theorem PhD.op {n:Nat} {ops:List OpM} {p:List Int} {j q:Nat} {o:OpM} (s:ops[j]?=some o) (t:¬q<o.2.length):PhD n ops p j q 0↔PhD n ops p (j+1) 0 0:=by
 constructor
 .rintro⟨f,m⟩
  refine⟨fun g l d a i r c b=>?_,fun d _=>⟨fun i h=>absurd h (by omega),fun c h=>absurd h (by omega)⟩⟩
  by_cases e:g=j
  .subst e;exact(m d a).1 i (by rw[s]at a;injection a with a;subst a;omega) r c b
  .exact f g (by omega) d a i r c b
 .rintro⟨f,m⟩
  exact⟨fun g l=>f g (by omega),fun d a=>⟨fun i _ k c b=>f j (by omega) d a i k c b,fun c h=>absurd h (by omega)⟩⟩
theorem PhD.done {n:Nat} {ops:List OpM} {p:List Int} {j:Nat} (g:¬j<ops.length):PhD n ops p j 0 0↔q4d n ops p:=by
 constructor
 .rintro⟨f,-⟩ o b d hd i c
  obtain⟨e,a⟩:=zbh b;have:=(zag.1 a).1;exact f e (by omega) o a i c d hd
 .intro h
  refine⟨fun e _ o b i c d hd=>h o (zaf b) d hd i c,fun o b=>?_⟩;have:=(zag.1 b).1;omega
theorem qi9 (cs:List Value) (x:qi) (A:Option Addr) (n c:Nat) (p:List Int) (w:World) (h:qf.rd w cs x) (hx:AlgP x) (hn:x.1=(n:Int)) (hr:RdL RI w A n p) (hp:ParP n p):
  Calls Tryz.prog 163 #[.agg cs.toArray,.slice A n c] w fun e w'=>∃A' c' P,e=.returned (.slice A' n c')/\RdL RI w' A' n P/\PuI n p P (q4d n x.2 p)/\Below w.heap.size w w':=by
 have hrd:=h;obtain⟨a,E⟩:=x;have hxx:=hx;obtain⟨hx1,hx2,hx3,D⟩:=hx;simp only at hx1 hx2 hx3 D hn;subst hn;rw[za1]at D;have hn0:0<n:=by omega
 have hn8:n<=8:=by omega
 obtain⟨B,m,d,rfl,-,qo⟩:=qv h;have HML:=zaa qo.len;have HOPS:=zaa D;have hm4:m<=4:=by rw[<-qo.len];exact hx3
 have HP:=zaa hp;obtain⟨w0,hw0,T0,hsz0,BP⟩:=q16 w #[.int .i64 (n:Int),.slice B m d] 24;have HW0:=zaa hw0;have HRD:Hid (∀t,Below w0.heap.size w0 t->qf.rd t [.int .i64 (n:Int),.slice B m d] ((n:Int),E)):=fun t J=>qf.stab (qf.stab hrd T0.block) J.block
 replace qo:=qo.next T0;have r0:=hr.next qd T0;obtain⟨cP0,Y⟩:=cl2 BP;have HOWN:=zaa (q2h A n c p w0 r0 (by omega));have HPB:=zaa hr.bounds;clear hw0 hsz0 hx3 D h hr hrd hxx hp
 go_enter Tryz.func163,Tryz.ntmps163
 go_upto_region 1 with fail;rw[<-HW0.out];go_wp2_with fail;refine HOWN.out.mono ?_;rintro e w1 ⟨C,G,rfl,ho5,T1⟩;have K:=q14 (R:=RI) ho5 (q1o HPB.out);clear ho5;go_wp2_with fail
 go_loopw [5,6] (fun s i wr=>∃(j:Nat) (C:Option Addr) (G:Nat) (P:List Int),j<=m/\i=.int .i64 j/\s=.slice C n G/\RdL RI wr C n P/\Hid (PuI n p P (PhD n E p j 0 0))/\Below w0.heap.size w0 wr) (fun _ i _=>m - (intOf i).toNat)
 case atStart=>exact⟨0,C,G,p,zah _,rfl,rfl,K,(PuI.start HP.out).congr (PhD.start _ _ _),T1⟩
 case round=>
  clear K T1;obtain⟨j,C,G,P,hj,rfl,rfl,K,M,y⟩:=hrel;have I:=qe y Y
  by_cases hlt:j<m
  .have hj0:(0:Int)<=(j:Int):=by omega
   have hj1:(j:Int)<(m:Int):=by omega
   obtain⟨b,o,vs,op,rfl,-,hc,hrr,-,hxo⟩:=qo.at hlt;obtain⟨B',V,d',rfl,-,qt⟩:=rdOp hrr;have hoP:=HOPS.out op (zaf hxo);obtain⟨f,tb,rfl,har⟩:=q7z hoP;have X:=zaa hxo;have HTL:Hid (V=n ^ f):=by show _=_;rw[<-qt.len];have:=hoP.2.2.1;simpa using this
   have HTB:Hid (tb.length=V):=qt.len;have HTV:=zaa hoP.2.2.2;have hm512:V<=4096:=by rw[HTL.out];exact q3n hn8 (by omega)
   have cc0:w0.cell? ⟨b,o+j*2,none⟩=some (.int .i64 (f:Int)):=hc 0 _ rfl;have cc1:w0.cell? ⟨b,o+j*2+1,none⟩=some (.slice B' V d'):=hc 1 _ rfl;clear hc hrr hxo hoP;go_wp2_with fail;clear I
   go_loopw [5,7] (fun s i wr=>∃(q:Nat) (C:Option Addr) (G:Nat) (P:List Int),q<=V/\i=.int .i64 q/\s=.slice C n G/\RdL RI wr C n P/\Hid (PuI n p P (PhD n E p j q 0))/\Below w0.heap.size w0 wr) (fun _ i _=>V - (intOf i).toNat)
   case atStart=>exact⟨0,C,G,P,zah _,rfl,rfl,K,M,y⟩
   case round=>
    clear K M y;obtain⟨q,C,G,P,hq,rfl,rfl,K,M,y⟩:=hrel;have U:=qe y cP0;have I:=qe y Y;have kc0:=qe y cc0;have kc1:=qe y cc1
    by_cases hlq:q<V
    .have hq0:(0:Int)<=(q:Int):=by omega
     have hq1:(q:Int)<(V:Int):=by omega
     have HA:Hid (∀t,Below wr.heap.size wr t->Calls Tryz.prog 116 #[.int .i64 (n:Int),.int .i64 (f:Int),.int .i64 (q:Int)] t fun e w'=>∃g,e=.returned (.slice (some ⟨g,0,none⟩) f f)/\w'.ownsRow t.heap.size 3 1 (.slice (some ⟨g,0,none⟩) f f) f (ints (nats (digs n f q)))/\Below t.heap.size t w'):=fun t J=>q4w q f n t hn0 (by omega) (by omega) (by omega)
     have r:Below wr.heap.size wr wr:=zab _ _;go_upto_region 8 with fail
     go_cut [8]from 31 to 73 (fun u8 wx=>∃g,u8=.slice (some ⟨g,0,none⟩) f f/\wx.ownsRow wr.heap.size 3 1 (.slice (some ⟨g,0,none⟩) f f) f (ints (nats (digs n f q)))/\Below wr.heap.size wr wx)
     case first=>
      go_region_held3 (fun w'=>w'.cell? ⟨w.heap.size,0,none⟩=some (.int .i64 (n:Int))/\w'.cell? ⟨w.heap.size,1,none⟩=some (.slice (some ⟨b,o,none⟩) m d)/\w'.cell? ⟨b,o+j*2,none⟩=some (.int .i64 (f:Int))) (first|go_keep|exact⟨qe r U,qe r I,qe r kc0⟩) (first
       |(go_at_call 116;(with_reducible refine(HA.out _ ?_).mono ?_);(first|exact r|exact zai r);rintro e wn ⟨g,rfl,H,Q⟩;replace r:=q9 (by first|exact r|exact zai r) Q rfl))
      all_goals
       have HON:=zaa H;clear H;go_wp2_with fail;go_meet;exact⟨g,rfl,HON.out,by first|exact r|exact zai r⟩
     case rest=>
      obtain⟨g,rfl,hoA,hTc⟩:=hcut;obtain⟨w4,HWC⟩:∃wq:World,wq=wc:=⟨_,rfl⟩;subst HWC;have T4:=q9 y hTc rfl;obtain⟨ds,W⟩:∃l,Hid (digs n f q=l):=⟨_,rfl⟩;have HDN:Hid (∀Z∈ds,Z<n):=fun Z hdd=>by rw[<-W.out]at hdd;exact q2u hn0 hdd
      have HDL:Hid (ds.length=f):=by show _=_;rw[<-W.out,q2d]
      rw[W.out]at hoA
      have rA:=q14 (R:=RI) hoA (q1o fun v hv=>by
       obtain⟨Z,hdd,rfl⟩:=zb6.1 hv;have:=HDN.out Z hdd
       omega)
      have r54:=K.next qd hTc;clear U I kc0 kc1 hoA K;go_wp2_with fail
      go_loopw [5,9] (fun s i wr=>∃(k:Nat) (C:Option Addr) (G:Nat) (P:List Int),k<=f/\i=.int .i64 k/\s=.slice C n G/\RdL RI wr C n P/\Hid (PuI n p P (PhD n E p j q k))/\Below w4.heap.size w4 wr) (fun _ i _=>f - (intOf i).toNat)
      case atStart=>exact⟨0,C,G,P,zah _,rfl,rfl,r54,M,zab _ _⟩
      case round=>
       clear r54 M;obtain⟨k,C,G,P,hk,rfl,rfl,K,M,hTk⟩:=hrel;have TT:=q9 T4 hTk rfl;have U:=qe TT cP0;have I:=qe TT Y;have kc1:=qe TT cc1
       by_cases hlk:k<f
       .have hk0:(0:Int)<=(k:Int):=by omega
        have hk1:(k:Int)<(f:Int):=by omega
        have rA2:=rA.next qd hTk;have HOW:=zaa (q2h (some ⟨g,0,none⟩) f f (nats ds) wr rA2 (by omega));go_wp2_with fail;refine HOW.out.mono ?_;rintro e w6 ⟨A7,c7,rfl,ho7,hb7⟩;obtain⟨g7,rfl,hg7,-⟩:=q2b ho7 (by omega);have hpl:k<ds.length:=by rw[HDL.out];exact hlk
        have hdp:ds[k]?=some ds[k]:=zae hpl;have hdn:=HDN.out _ (zcu hpl)
        generalize ds[k]=Z at hdp hdn
        have T6:=q9 TT hb7 rfl;obtain⟨u1,z1,hcd,⟨rfl,-,-⟩,-,hxd⟩:=(rA2.next qd hb7).at' hlk;rw[qgs hdp]at hxd;rw[zcm]at hcd;injection hxd with hxd
        subst hxd;have hpd:=HP.out.at hdn;obtain⟨bp,op',u2,z2,rfl,hcp,⟨rfl,-,-⟩,-,hxp⟩:=(r0.next qd T6).at hdn;rw[hpd.1]at hxp;injection hxp with hxp
        subst hxp;obtain⟨pd,HPD⟩:∃z,Hid (nmAt p Z=z):=⟨_,rfl⟩;have hpdn:pd<n:=by rw[<-HPD.out];exact qac HP.out hdn
        rw[HPD.out]at hcp;have hd0:(0:Int)<=(Z:Int):=by omega
        have hd1:(Z:Int)<(n:Int):=by omega
        have hc7:∃u,w6.cell? ⟨g7,k,none⟩=some u:=⟨_,(ho7.cellAt k (by omega)).trans (zae (by rw[q3d,q6t];omega))⟩;obtain⟨u7,hc7⟩:=hc7;have hfz:=ho7.frozenAt k;have hst:=(ho7.stored k (.int .i64 (pd:Int))).1;rw[q2a,qk4]at hst;obtain⟨l7,HL7⟩:∃l,Hid (ds.set k pd=l):=⟨_,rfl⟩;rw[HL7.out]at hst;have HL7N:Hid (∀z∈l7,z<n):=fun z J=>by
         rw[<-HL7.out]at J
         rcases zd0 J with J|rfl
         .exact HDN.out z J
         .exact hpdn
        have HREP:Hid (idx n l7=repI n f p q k):=by
         show _=_
         unfold repI;rw[W.out,zan,hdp,<-HL7.out];show _=idx n (ds.set k (nmAt p Z))
         rw[HPD.out]
        have S:RdL RI (w6.setCell ⟨g7,k,none⟩ (.int .i64 (pd:Int))) (some ⟨g7,0,none⟩) f (nats l7):=q14 (R:=RI) hst (q1o fun v hv=>by
         obtain⟨z,J,rfl⟩:=zb6.1 hv;have:=HL7N.out z J
         omega)
        obtain⟨L,HW7⟩:∃L,Hid (L=w6.setCell ⟨g7,k,none⟩ (.int .i64 (pd:Int))):=⟨_,rfl⟩;have O:Below wr.heap.size wr L:=by rw[HW7.out];exact hb7.setCell hg7 _
        rw[<-HW7.out]at S;have T7:=q9 TT O rfl;have r57:=K.next qd O;obtain⟨b3,o3,u3,v3,rfl,hc3,⟨rfl,-,-⟩,-,hxv⟩:=(qt.next qd T7).at hlq;have hvi:=HTV.out v3 (zaf hxv);obtain⟨y1,rfl⟩:=zam hvi.1;have hy1n:y1<n:=by omega
        have HY1:Hid (nmAt tb q=y1):=by show _=_;rw[q1t hxv];simp
        have N:repI n f p q k<tb.length:=by rw[HTB.out,HTL.out];exact qko hn0 HP.out
        have T:=HTV.out _ (zcu N);have D:tb[repI n f p q k]?=some tb[repI n f p q k]:=zae N
        generalize tb[repI n f p q k]=v4 at T D
        obtain⟨y2,rfl⟩:=zam T.1;have hy2n:y2<n:=by omega
        have HY2:Hid (nmAt tb (repI n f p q k)=y2):=by show _=_;rw[q1t D];simp
        have HX4:=zaa D;have HV2:Hid (∀t,Below L.heap.size L t->Calls Tryz.prog 196 #[.agg #[.int .i64 (n:Int),.slice (some ⟨b,o,none⟩) m d],.int .i64 (j:Int),.slice (some ⟨g7,0,none⟩) f c7] t (Bl t (.int .i64 (y2:Int)))):=fun t J=>q7b _ ((n:Int),E) (some ⟨g7,0,none⟩) f c7 j n f y2 l7 tb t (HRD.out t (q9 T7 J rfl)) rfl hn8 (S.next qd J) HL7N.out (by omega) X.out (by rw[HREP.out];exact HX4.out)
        have HUN:Hid (∀t,Below L.heap.size L t->Calls Tryz.prog 171 #[.slice C n G,.int .i64 (y1:Int),.int .i64 (y2:Int)] t fun e w'=>∃A' c',e=.returned (.slice A' n c')/\w'.ownsRow t.heap.size 3 1 (.slice A' n c') n (ints (uniL P y1 y2))/\Below t.heap.size t w'):=fun t J=>q9z C n G P y1 y2 t (r57.next qd J) M.out.par hy1n hy2n (by omega)
        have F:Hid (PuI n p (uniL P y1 y2) (PhD n E p j q (k+1))):=(M.out.next HP.out hy1n hy2n).congr (by
         rw[<-PhD.pair X.out (by simpa using hlk)];unfold PrE;simp only[za1]
         rw[HY1.out,HY2.out])
        have HUP:Hid (ParP n (uniL P y1 y2)):=F.out.par;have jP0:=qe T7 cP0;have jP1:=qe T7 Y;have jc1:=qe T7 cc1;have r:Below L.heap.size L L:=zab _ _;clear hst hxv hvi D T N hdp U kc1 I K;go_upto_region 14 with fail;rw[<-HW7.out]
        go_region_held3 (fun w'=>w'.cell? ⟨w.heap.size,0,none⟩=some (.int .i64 (n:Int))/\w'.cell? ⟨w.heap.size,1,none⟩=some (.slice (some ⟨b,o,none⟩) m d)/\w'.cell? ⟨b,o+j*2+1,none⟩=some (.slice (some ⟨b3,o3,none⟩) V d')/\w'.cell? ⟨b3,o3+q,none⟩=some (.int .i64 (y1:Int))) (first|go_keep|exact⟨qe r jP0,qe r jP1,qe r jc1,qe r hc3⟩) (first
         |(go_at_call 196;(with_reducible refine(HV2.out _ ?_).mono ?_);(first|exact r|exact zai r);rintro e wn ⟨rfl,Q⟩;replace r:=q9 (by first|exact r|exact zai r) Q rfl)
         |(go_at_call 171;(with_reducible refine(HUN.out _ ?_).mono ?_);(first|exact r|exact zai r);rintro e wn ⟨A8,c8,rfl,H,Q⟩;replace H:=qh (base':=L.heap.size) H (by exact r.size);replace r:=q9 (by first|exact r|exact zai r) Q rfl))
        all_goals
         have T8:Below L.heap.size L _:=(by first|exact r|exact zai r)
         have r8:=q14 (R:=RI) H (q1o fun v hv=>by
          obtain⟨i,hi⟩:=zbh hv;have hil:i<n:=by rw[<-HUP.out.1];exact(zag.1 hi).1
          have h1:=HUP.out.at hil;rw[h1.1]at hi;injection hi with hi
          omega)
         clear H S;go_wp2_with fail
         go_roundw
         case rel=>exact⟨k+1,A8,c8,_,by omega,by go_num,rfl,r8,F,q9 hTk (q9 O T8 rfl) rfl⟩
         case measure=>simp[intOf];try omega
       .have hk1:¬(k:Int)<(f:Int):=by omega
        have F:Hid (PuI n p P (PhD n E p j (q+1) 0)):=M.out.congr (PhD.entry X.out (by simpa using hlk) (by have:=HTB.out;simp only;omega));clear U I kc1;go_wp2_with fail
        go_roundw
        case rel=>exact⟨q+1,C,G,P,by omega,by go_num,rfl,K,F,TT⟩
        case measure=>simp[intOf];try omega
    .have hq1:¬(q:Int)<(V:Int):=by omega
     have F:Hid (PuI n p P (PhD n E p (j+1) 0 0)):=M.out.congr (PhD.op X.out (by have:=HTB.out;simp only;omega));go_wp2_with fail
     go_roundw
     case rel=>exact⟨j+1,C,G,P,by omega,by go_num,rfl,K,F,y⟩
     case measure=>simp[intOf];try omega
  .have hj1:¬(j:Int)<(m:Int):=by omega
   have F:Hid (PuI n p P (q4d n E p)):=M.out.congr (PhD.done (by rw[HML.out];exact hlt));go_wp2_with fail;go_ret;exact⟨C,⟨G,rfl⟩,P,K,F.out,q9 T0 y rfl⟩
theorem q8v (A C:Option Addr) (n c m d:Nat) (f:List Int) (l:List Nat) (w:World) (X:RdL RI w A n f) (M:MpL n f) (N:RdL RI w C m (nats l)) (hd:∀z∈l,z<n) (hm:m<=1000) (hn:n<=1000):
  Calls Tryz.prog 117 #[.slice A n c,.slice C m d] w (OwI w (nats (l.map (nmAt f)))):=by
 have L:=qm w (.cells #[] 3);have K:=zby (base:=w.heap.size) (e:=3) (size:=1) w #[] 0 (zad _) (zah _) rfl;have q:Hid (l.length=m):=by show _=_;rw[<-N.len,q6t]
 have P:=zaa hd;have Q:=zaa M;clear hd M
 go_enter Tryz.func117,Tryz.ntmps117
 go_wp2_with fail
 go_loopw [5,6] (fun s i wr=>∃(k:Nat) (x:Option Addr) (B:Nat),k<=m/\i=.int .i64 k/\s=.slice x k B/\wr.ownsRow w.heap.size 3 1 (.slice x k B) k (ints (nats ((l.take k).map (nmAt f))))/\Below w.heap.size w wr) (fun _ i _=>m - (intOf i).toNat)
 case atStart=>exact⟨0,_,_,zah _,rfl,rfl,K,L⟩
 case round=>
  clear K L;obtain⟨k,x,B,hk,rfl,rfl,g,a⟩:=hrel
  by_cases hlt:k<m
  .have W:(0:Int)<=(k:Int):=by omega
   have H:(k:Int)<(m:Int):=by omega
   have E:k<l.length:=by rw[q.out];exact hlt
   have h:l[k]?=some l[k]:=zae E;have r:=P.out _ (zcu E)
   generalize l[k]=dd at h r
   obtain⟨b,o,u,v,rfl,hc,⟨rfl,-,-⟩,-,p⟩:=(N.next qd a).at hlt;rw[qgs h]at p;injection p with p
   subst p;have D:=Q.out.at r;obtain⟨Z,o4,u4,v4,rfl,G,⟨rfl,-,-⟩,-,j⟩:=(X.next qd a).at r;rw[D.1]at j;injection j with j
   subst j;obtain⟨J,y⟩:∃z,Hid (nmAt f dd=z):=⟨_,rfl⟩;rw[y.out]at G;have R:Hid (nats ((l.take (k+1)).map (nmAt f))=nats ((l.take k).map (nmAt f))++ [(J:Int)]):=by
    show _=_
    rw[zbj,h,zeo,q6s,<-y.out];rfl
   have Y:=a.size;have T:(0:Int)<=(dd:Int):=by omega
   have U:(dd:Int)<(n:Int):=by omega
   clear h D
   go_wp2_with (at_builtin;refine app1 wr rfl _ _ 43 3 rfl (.int .i64 0) 8 zax q15 rfl (by decide) w.heap.size k B x _ rfl g (.int .i64 (J:Int)) rfl rfl (by omega) Y ?_;intro O S w2 t V F)
   go_roundw
   case rel=>exact⟨k+1,O,S,by omega,by go_num,rfl,by rw[R.out,q2y];exact t,a.trans F⟩
   case measure=>simp[intOf];try omega
  .obtain rfl:k=m:=by omega
   have H:¬(k:Int)<(k:Int):=by omega
   have I:Hid ((nats (l.map (nmAt f))).length=k):=by show _=_;rw[q6t,zcv,q.out]
   rw[zaq (by rw[q.out];exact zad _)]at g;go_wp2_with fail;go_ret;exact⟨x,B,by rw[I.out];rfl,by rw[I.out];exact g,a⟩
theorem qjp (cs:List Value) (x:qi) (A:Option Addr) (m c:Nat) (f:List Int) (w:World) (h:qf.rd w cs x) (r:AlgP x) (j:RdL RI w A m f):
  Calls Tryz.prog 167 #[.agg cs.toArray,.agg cs.toArray,.slice A m c] w (Bl w (.bool (mpB x.1.toNat f))):=by
 obtain⟨B,k,d,rfl,-,G⟩:=qv h;obtain⟨n,u⟩:∃n:Nat,x.1=(n:Int):=⟨x.1.toNat,by have:=r.1;omega⟩;have l:Hid (x.1.toNat=n):=by show _=_;omega
 have F:n<=8:=by have:=r.2.1;omega
 rw[l.out,u];obtain⟨I,i,o,g,y,C⟩:=q1p w #[.int .i64 (n:Int),.slice B k d] #[.int .i64 (n:Int),.slice B k d] 24 24;have b:=zaa i;have p:=y.cell 0;have q:=C.cell 0;simp at p q;have H:=j.next qd o;have D:=zaa j.len;have v:=j.le;have s:=zaa (q4q A m c f (n:Int) I H (by omega) (by omega));obtain⟨E,a⟩:∃z,Hid (q1v 0 ((n:Int) - 1) f=z):=⟨_,rfl⟩;rw[a.out]at s;have t:Hid (mpB n f=(decide (m=n) &&E)):=by show _=_;unfold mpB;rw[a.out,D.out]
 clear i g G h r j u
 by_cases hmn:m=n
 .subst hmn
  have hd:((m:Int)==(m:Int))=true:=by simp
  go_enter Tryz.func167,Tryz.ntmps167
  go_upto_region 1 with fail;rw[<-b.out];go_wp2_with fail;refine s.out.mono ?_;rintro e J ⟨rfl,rfl⟩;go_wp2_with fail;go_ret;exact⟨qg (by rw[t.out];simp),o⟩
 .have hd:((m:Int)==(n:Int))=false:=by rw[zbi];omega
  go_enter Tryz.func167,Tryz.ntmps167
  go_upto_region 1 with fail;rw[<-b.out];go_wp2_with fail;go_ret;exact⟨qg (by rw[t.out,zbn hmn];rfl),o⟩
def FsE (w:World) (P:Prop) (e:Ending) (w':World):Prop:=∃v1 v2 b,e=.returned (.tuple #[v1,v2,.bool b])/\(b=false↔P)/\Below w.heap.size w w'
theorem qfm (cs:List Value) (x:qi) (A:Option Addr) (n c:Nat) (f:List Int) (w:World) (h:qf.rd w cs x) (hx:AlgP x) (hn:x.1=(n:Int)) (hr:RdL RI w A n f) (hf:MpL n f):
  Calls Tryz.prog 168 #[.agg cs.toArray,.agg cs.toArray,.slice A n c] w (FsE w (HomP n x.2 f)):=by
 have hrd:=h;obtain⟨a,u⟩:=x;obtain⟨hx1,hx2,ac,t⟩:=hx;simp only at hx1 hx2 ac t hn;subst hn;rw[za1]at t;have aa:0<n:=by omega
 have hn8:n<=8:=by omega
 obtain⟨B,m,d,rfl,-,qo⟩:=qv h;have HML:=zaa qo.len;have HOPS:=zaa t;have hm4:m<=4:=by rw[<-qo.len];exact ac
 obtain⟨T,hw0,T0,hsz0,BP,BQ⟩:=q1p w #[.int .i64 (n:Int),.slice B m d] #[.int .i64 (n:Int),.slice B m d] 24 24;have HW0:=zaa hw0;have HRD:Hid (∀s,Below T.heap.size T s->qf.rd s [.int .i64 (n:Int),.slice B m d] ((n:Int),u)):=fun s C=>qf.stab (qf.stab hrd T0.block) C.block
 replace qo:=qo.next T0;have r0:=hr.next qd T0;obtain⟨cP0,Y⟩:=cl2 BP;obtain⟨cQ0,cQ1⟩:=cl2 BQ;have HF:=zaa hf;clear hw0 hsz0 ac t h hr hrd hf
 go_enter Tryz.func168,Tryz.ntmps168
 go_upto_region 1 with fail;rw[<-HW0.out];go_wp2_with fail
 go_loopw [9] (fun i wr=>∃k:Nat,k<=m/\i=.int .i64 k/\Hid (HomTo n u f k 0)/\Below T.heap.size T wr) (fun i _=>m - (intOf i).toNat)
 case atStart=>exact⟨0,zah _,rfl,HomTo.start _ _ _,zab _ _⟩
 case round=>
  obtain⟨k,hk,rfl,HI,r⟩:=hrel;have N:=qe r Y
  by_cases hlt:k<m
  .have hk0:(0:Int)<=(k:Int):=by omega
   have hk1:(k:Int)<(m:Int):=by omega
   obtain⟨b,o,vs,op,rfl,-,hc,hrr,-,ad⟩:=qo.at hlt;obtain⟨B',F,d',rfl,-,qt⟩:=rdOp hrr;have L:=HOPS.out op (zaf ad);obtain⟨j,tb,rfl,har⟩:=q7z L;have J:=zaa ad;have HTL:Hid (F=n ^ j):=by show _=_;rw[<-qt.len];have:=L.2.2.1;simpa using this
   have HTB:Hid (tb.length=F):=qt.len;have HTV:=zaa L.2.2.2;have hm512:F<=4096:=by rw[HTL.out];exact q3n hn8 (by omega)
   have cc0:T.cell? ⟨b,o+k*2,none⟩=some (.int .i64 (j:Int)):=hc 0 _ rfl;have cc1:T.cell? ⟨b,o+k*2+1,none⟩=some (.slice B' F d'):=hc 1 _ rfl;clear hc hrr ad L;go_wp2_with fail;clear N
   go_loopw [10] (fun i wi=>∃q:Nat,q<=F/\i=.int .i64 q/\Hid (HomTo n u f k q)/\Below T.heap.size T wi) (fun i _=>F - (intOf i).toNat)
   case atStart=>exact⟨0,zah _,rfl,HI,r⟩
   case round=>
    clear HI r;obtain⟨q,hq,rfl,HI,r⟩:=hrel;have kP0:=qe r cP0;have N:=qe r Y;have kc0:=qe r cc0;have kc1:=qe r cc1
    by_cases hlq:q<F
    .have hq0:(0:Int)<=(q:Int):=by omega
     have hq1:(q:Int)<(F:Int):=by omega
     have HA:Hid (∀s,Below wr.heap.size wr s->Calls Tryz.prog 116 #[.int .i64 (n:Int),.int .i64 (j:Int),.int .i64 (q:Int)] s fun e w'=>∃g,e=.returned (.slice (some ⟨g,0,none⟩) j j)/\w'.ownsRow s.heap.size 3 1 (.slice (some ⟨g,0,none⟩) j j) j (ints (nats (digs n j q)))/\Below s.heap.size s w'):=fun s C=>q4w q j n s aa (by omega) (by omega) (by omega)
     have p:Below wr.heap.size wr wr:=zab _ _;go_upto_region 7 with fail
     go_cut [11]from 30 to 60 (fun u8 wx=>∃g,u8=.slice (some ⟨g,0,none⟩) j j/\wx.ownsRow wr.heap.size 3 1 (.slice (some ⟨g,0,none⟩) j j) j (ints (nats (digs n j q)))/\Below wr.heap.size wr wx)
     case first=>
      go_region_held3 (fun w'=>w'.cell? ⟨w.heap.size,0,none⟩=some (.int .i64 (n:Int))/\w'.cell? ⟨w.heap.size,1,none⟩=some (.slice (some ⟨b,o,none⟩) m d)/\w'.cell? ⟨b,o+k*2,none⟩=some (.int .i64 (j:Int))) (first|go_keep|exact⟨qe p kP0,qe p N,qe p kc0⟩) (first
       |(go_at_call 116;(with_reducible refine(HA.out _ ?_).mono ?_);(first|exact p|exact zai p);rintro e wn ⟨g,rfl,E,D⟩;replace p:=q9 (by first|exact p|exact zai p) D rfl))
      all_goals
       have HON:=zaa E;clear E;go_wp2_with fail;go_meet;exact⟨g,rfl,HON.out,by first|exact p|exact zai p⟩
     case rest=>
      obtain⟨g,rfl,ab,hTc⟩:=hcut;obtain⟨O,HWC⟩:∃wq:World,wq=wc:=⟨_,rfl⟩;subst HWC;have G:=q9 r hTc rfl;obtain⟨ds,H⟩:∃l,Hid (digs n j q=l):=⟨_,rfl⟩;have V:Hid (∀dd∈ds,dd<n):=fun dd K=>by rw[<-H.out]at K;exact q2u aa K
      have HDL:Hid (ds.length=j):=by show _=_;rw[<-H.out,q2d]
      rw[H.out]at ab
      have rA:=q14 (R:=RI) ab (q1o fun v hv=>by
       obtain⟨dd,K,rfl⟩:=zb6.1 hv;have:=V.out dd K
       omega)
      obtain⟨l8,I⟩:∃l,Hid (ds.map (nmAt f)=l):=⟨_,rfl⟩;have Q:Hid (∀z∈l8,z<n):=fun z C=>by
       rw[<-I.out]at C;obtain⟨y,hy,rfl⟩:=zb6.1 C;exact(HF.out.at (V.out y hy)).2
      have P:Hid ((nats l8).length=j):=by show _=_;rw[q6t,<-I.out,zcv,HDL.out]
      have HIX:Hid (idx n l8=toI n j f q):=by show _=_;unfold toI;rw[H.out,I.out]
      obtain⟨b3,o3,u3,v,rfl,hc3,⟨rfl,-,-⟩,-,ae⟩:=(qt.next qd G).at hlq;have hvi:=HTV.out v (zaf ae);obtain⟨y,rfl⟩:=zam hvi.1;have hyn:y<n:=by omega
      have HY:Hid (nmAt tb q=y):=by show _=_;rw[q1t ae];simp
      have Z:=HF.out.at hyn;obtain⟨fy,W⟩:∃z,Hid (nmAt f y=z):=⟨_,rfl⟩;rw[W.out]at Z;obtain⟨b4,o4,u4,v4,rfl,hc4,⟨rfl,-,-⟩,-,t⟩:=(r0.next qd G).at hyn;rw[Z.1]at t;injection t with t
      subst t;have hIMl:toI n j f q<F:=by rw[HTL.out];exact HF.out.im aa _ _
      obtain⟨u5,v5,hc5,⟨rfl,-,-⟩,-,M⟩:=(qt.next qd G).at' hIMl;have S:=HTV.out v5 (zaf M);obtain⟨z,rfl⟩:=zam S.1;have HZ:Hid (nmAt tb (toI n j f q)=z):=by show _=_;rw[q1t M];simp
      have HX5:=zaa M;have HIM:Hid (∀s,Below O.heap.size O s->Calls Tryz.prog 117 #[.slice (some ⟨b4,o4,none⟩) n c,.slice (some ⟨g,0,none⟩) j j] s (OwI s (nats l8))):=fun s C=>by
       have:=q8v (some ⟨b4,o4,none⟩) (some ⟨g,0,none⟩) n c j j f ds s ((r0.next qd G).next qd C) HF.out (rA.next qd C) V.out (by omega) (by omega)
       rwa [I.out]at this
      have HVA:Hid (∀(A:Option Addr) (c8:Nat) (s:World),Below O.heap.size O s->RdL RI s A j (nats l8)->Calls Tryz.prog 196 #[.agg #[.int .i64 (n:Int),.slice (some ⟨b,o,none⟩) m d],.int .i64 (k:Int),.slice A j c8] s (Bl s (.int .i64 (z:Int)))):=fun A c8 s C hra=>q7b _ ((n:Int),u) A j c8 k n j z l8 tb s (HRD.out s (q9 G C rfl)) rfl hn8 hra Q.out (by omega) J.out (by rw[HIX.out];exact HX5.out)
      obtain⟨bb,U⟩:∃z',Hid (((fy:Int) !=(z:Int))=z'):=⟨_,rfl⟩;have hy0:(0:Int)<=(y:Int):=by omega
      have hy1:(y:Int)<(n:Int):=by omega
      have jP1:=qe G Y;have jQ0:=qe G cQ0;have jQ1:=qe G cQ1;have jc1:=qe G cc1;have p:Below O.heap.size O O:=zab _ _;clear ae hvi M S Z kP0 N kc0 kc1 ab;go_upto_region 8 with fail
      go_cut [58]from 40 to 60 (fun u58 wx=>u58=.bool bb/\Below O.heap.size O wx)
      case first=>
       go_region_held3 (fun w'=>w'.cell? ⟨w.heap.size,1,none⟩=some (.slice (some ⟨b,o,none⟩) m d)/\w'.cell? ⟨w.heap.size+1,0,none⟩=some (.int .i64 (n:Int))/\w'.cell? ⟨w.heap.size+1,1,none⟩=some (.slice (some ⟨b,o,none⟩) m d)/\w'.cell? ⟨b,o+k*2+1,none⟩=some (.slice (some ⟨b3,o3,none⟩) F d')/\w'.cell? ⟨b3,o3+q,none⟩=some (.int .i64 (y:Int))/\w'.cell? ⟨b4,o4+y,none⟩=some (.int .i64 (fy:Int))) (first|go_keep|exact⟨qe p jP1,qe p jQ0,qe p jQ1,qe p jc1,qe p hc3,qe p hc4⟩) (first
        |(go_at_call 117;(with_reducible refine(HIM.out _ ?_).mono ?_);(first|exact p|exact zai p);rintro e wn ⟨A8,c8,rfl,E,D⟩;rw[P.out]at E;rw[P.out];have r8:=q14 (R:=RI) E (q1o fun v hv=>(by obtain⟨zz,hzz,rfl⟩:=zb6.1 hv;have:=Q.out zz hzz;omega));replace p:=q9 (by first|exact p|exact zai p) D rfl)
        |(go_at_call 196;(with_reducible refine(HVA.out _ _ _ ?_ ?_).mono ?_);(first|exact p|exact zai p);(first|exact r8|exact r8.drew qd);rintro e wn ⟨rfl,D⟩;replace p:=q9 (by first|exact p|exact zai p) D rfl))
       all_goals
        go_wp2_with fail;go_meet;exact⟨by rw[<-U.out],by first|exact p|exact zai p⟩
      case rest=>
       obtain⟨rfl,hTc2⟩:=hcut;have TN:=q9 G hTc2 rfl
       rcases bb with _|_
       .have X:Hid (HomTo n u f k (q+1)):=HI.out.entry J.out (by
         simp only[za1];rw[HY.out,W.out,HZ.out];have:=U.out;have h2:(fy:Int)=(z:Int):=by simpa using this
         omega)
        go_wp2_with fail
        go_roundw
        case rel=>exact⟨q+1,by omega,by go_num,X,TN⟩
        case measure=>simp[intOf];try omega
       .have HNO:Hid (¬HomP n u f):=fun hh=>by
         have h1:=hh _ (zaf J.out) q (by have:=HTB.out;simp only;omega);simp only[za1]at h1;rw[HY.out,W.out,HZ.out]at h1;have:=U.out;rw[h1]at this;simp at this
        go_wp2_with fail
        go_ret3
        exact⟨_,_,true,rfl,⟨fun h=>(by cases h),fun h=>absurd h HNO.out⟩,q9 T0 TN rfl⟩
    .have hq1:¬(q:Int)<(F:Int):=by omega
     have X:Hid (HomTo n u f (k+1) 0):=HI.out.op J.out (by have:=HTB.out;simp only;omega);go_wp2_with fail
     go_roundw
     case rel=>exact⟨k+1,by omega,by go_num,X,r⟩
     case measure=>simp[intOf];try omega
  .have hk1:¬(k:Int)<(m:Int):=by omega
   have HD:Hid (HomP n u f):=HI.out.done (by rw[HML.out];exact hlt);have C:=r.size;go_wp2_with fail
   go_ret3
   exact⟨_,_,false,rfl,⟨fun _=>HD.out,fun _=>rfl⟩,q9 T0 (r.alloc C _) rfl⟩
theorem qfk (cs ds:List Value) (x:qi) (e:q1a) (w:World) (h:qf.rd w cs x) (h':qu.rd w ds e) (G:AlgP x):
  Calls Tryz.prog 98 #[.agg cs.toArray,.agg ds.toArray] w (Bl w (.bool (askB x.1.toNat x.2 e.1 e.2))):=by
 have hrd:=h;have hrd':=h';obtain⟨B,m,d,rfl,-,qo⟩:=qv h;obtain⟨O,o,cL,Q,z,cR,rfl,rL,rR⟩:=q1i h';obtain⟨F,hw0,S,hsz0,BP,BQ⟩:=q1p w #[.int .i64 x.1,.slice B m d] #[.slice O o cL,.slice Q z cR] 24 55;have ab:=zaa hw0;have H1:Hid (∀a,Below F.heap.size F a->qf.rd a [.int .i64 x.1,.slice B m d] x):=fun a n=>qf.stab (qf.stab hrd S.block) n.block
 have X:Hid (∀a,Below F.heap.size F a->RdL RI a O o e.1):=fun a n=>(rL.next qd S).next qd n
 have HR:Hid (∀a,Below F.heap.size F a->RdL RI a Q z e.2):=fun a n=>(rR.next qd S).next qd n
 have HLB:=zaa rL.bounds;have HRB:=zaa rR.bounds;have HNL:=zaa rL.len;have HNR:=zaa rR.len;obtain⟨j,J⟩:=cl2 BP;obtain⟨r,s⟩:=cl2 BQ;obtain⟨N,T⟩:∃N:Nat,x.1=(N:Int):=⟨x.1.toNat,by have:=G.1;omega⟩;have hN8:N<=8:=by have:=G.2.1;omega
 have hN1:1<=N:=by have:=G.1;omega
 have HNT:Hid (x.1.toNat=N):=by show _=_;omega
 rw[T]at j;rw[HNT.out];rw[T]at ab;obtain⟨f,D⟩:∃l,Hid (q5v e.1 e.2=l):=⟨_,rfl⟩;have aa:Hid (f.length<=6):=by show _<=6;rw[<-D.out];exact qak _ _
 have V:=zaa (qb8 _ x O o cL e.1 F (H1.out _ (zab _ _)) (X.out _ (zab _ _)) _ G.ops G.2.2.1);have W:=zaa fun(a:World) (n:Below F.heap.size F a)=>qb8 _ x Q z cR e.2 a (H1.out _ n) (HR.out _ n) _ G.ops G.2.2.1
 obtain⟨b1,H⟩:∃b,Hid (q2q x.2 e.1=b):=⟨_,rfl⟩;obtain⟨b2,I⟩:∃b,Hid (q2q x.2 e.2=b):=⟨_,rfl⟩;rw[H.out,T]at V;rw[I.out,T]at W;rw[T];have t:Hid (askB N x.2 e.1 e.2=((b1 &&b2) &&decide (N ^ f.length<=5000))):=by show _=_;unfold askB;rw[H.out,I.out,D.out]
 clear hw0 hsz0 hrd hrd' rL rR qo G h h' T
 go_enter Tryz.func98,Tryz.ntmps98
 go_upto_region 1 with fail;rw[<-ab.out];go_wp2_with fail;refine V.out.mono ?_;rintro e1 w1 ⟨rfl,E⟩;have M:=kk4 E j J r s;clear j J r s;obtain⟨j,J,r,s⟩:=M
 rcases b1 with _|_
 .go_wp2_with fail
  go_ret;exact⟨qg (by rw[t.out];rfl),q9 S E rfl⟩
 go_wp2_with fail;refine(W.out _ E).mono ?_;rintro e2 g ⟨rfl,hb2⟩;have M:=kk3 hb2 j r s;clear j r s;obtain⟨j,r,s⟩:=M;have TV:=q9 E hb2 rfl
 rcases b2 with _|_
 .go_wp2_with fail
  go_ret;exact⟨qg (by rw[t.out];rfl),q9 S TV rfl⟩
 have Y:=H;have Z:=I;have hnL:o<=60:=by have:=(q2t Y.out).1;have:=HNL.out;omega
 have hnR:z<=60:=by have:=(q2t Z.out).1;have:=HNR.out;omega
 have HO1:Hid (∀a,Below g.heap.size g a->Calls Tryz.prog 110 #[.slice O o cL] a fun e1 w'=>∃A' c',e1=.returned (.slice A' o c')/\w'.ownsRow a.heap.size 3 1 (.slice A' o c') o (ints e.1)/\Below a.heap.size a w'):=fun a n=>q2h O o cL e.1 a ((X.out g TV).next qd n) (by omega)
 have HRR:Hid (∀a,Below g.heap.size g a->RdL RI a Q z e.2):=fun a n=>(HR.out g TV).next qd n
 have KQ0:Hid (∀a,Below g.heap.size g a->a.cell? ⟨w.heap.size+1,0,none⟩=some (.slice O o cL)):=fun a n=>qe n r
 have KQ1:Hid (∀a,Below g.heap.size g a->a.cell? ⟨w.heap.size+1,1,none⟩=some (.slice Q z cR)):=fun a n=>qe n s
 have HVV:Hid (∀(A:Option Addr) (c:Nat) (a:World),Below g.heap.size g a->a.ownsRow g.heap.size 3 1 (.slice A (o+z) c) (o+z) (ints (e.1++e.2))->Calls Tryz.prog 158 #[.slice A (o+z) c] a (OwI a f)):=fun A c a n ho=>by
  have:=q8g A (o+z) c (e.1++e.2) a (q14 (R:=RI) ho (q1o fun v u=>by
   rcases zat.1 u with u|u
   .exact HLB.out v u
   .exact HRB.out v u)) (fun v u=>by
   rcases zat.1 u with u|u
   .exact(q21 (q2z Y.out v u)).1
   .exact(q21 (q2z Z.out v u)).1)
  rwa [show q1n 6 (varM (e.1++e.2))=f from(q1x fun y _=>qd3 e.1 e.2 y).trans D.out]at this
 have HVB:Hid (∀v∈f, -9223372036854775808<=v/\v<=9223372036854775807):=by rw[<-D.out];exact fun v u=>by have:=q5w e.1 e.2 v u;omega
 obtain⟨q,HQ⟩:∃q,Hid (f.length=q):=⟨_,rfl⟩;go_upto_region 3 with fail
 go_cut [5,6]from 20 to 26 (fun u5 u6 wx=>∃U c7,u5=.slice U f.length c7/\u6=.int .i64 1/\RdL RI wx U f.length f/\Below g.heap.size g wx)
 case first=>
  have C:Below g.heap.size g g:=zab _ _
  go_region_law (first
   |(go_simp;go_at_call 110;(with_reducible refine(HO1.out _ ?_).mono ?_);(first|exact C|exact qc C _);rintro e1 w5 ⟨A5,c5,rfl,ho5,hb5⟩;replace C:=q9 (by first|exact C|exact qc C _) hb5 rfl;have cE0:=KQ0.out _ C;have cE1:=KQ1.out _ C)
   |(refine q1b (R:=RI) _ rfl (.tmp 22) (.tmp 24) 43 3 rfl (.int .i64 0) 8 zax q15 rfl (by decide) g.heap.size o c5 A5 (ints e.1) (by rfl) (by exact ho5) Q z cR e.2 (fun y=>.int .i64 y) (fun _=>rfl) (by rfl) (HRR.out _ (by first|exact C|exact qc C _)) (fun _ _ _ hr=>hr.1) (by omega) (by exact C.size) ?_;intro A6 c6 w6 K hg6 hb6;have T6:Below g.heap.size g w6:=(by first|exact C.trans hb6|exact(qc C _).trans hb6);have L:w6.ownsRow g.heap.size 3 1 (.slice A6 (o+z) c6) (o+z) (ints (e.1++e.2)):=(by simpa[ints]using K))
   |(go_simp;go_at_call 158;refine(HVV.out A6 c6 _ ?_ ?_).mono ?_;(first|exact T6|exact qc T6 _);(exact L);rintro e2 w7 ⟨U,c7,rfl,ho7,hb7⟩;have T7:=q9 (by first|exact T6|exact qc T6 _) hb7 rfl;have r7:=q14 (R:=RI) ho7 (q1o HVB.out)))
  all_goals
   go_wp2_with fail;go_meet;exact⟨U,c7,rfl,rfl,r7,T7⟩
 case rest=>
  obtain⟨U,c7,rfl,rfl,r7,T7⟩:=hcut;obtain⟨w8,HWC⟩:∃wq:World,wq=wc:=⟨_,rfl⟩;subst HWC;rw[HQ.out]at r7 t aa⊢;have hq6:=aa.out;replace j:=qe T7 j;have T8:=q9 S (q9 TV T7 rfl) rfl;go_wp2_with fail
  go_loop [6,7] (fun p i=>∃(k P:Nat),k<=q/\i=.int .i64 k/\p=.int .i64 P/\Hid (P=N ^ k)) (fun _ i=>q - (intOf i).toNat)
  case atStart=>exact⟨0,1,zah _,rfl,rfl,(by show _=_;rw[zfu])⟩
  case round=>
   obtain⟨k,P,hk,rfl,rfl,HP⟩:=hrel
   by_cases hlt:k<q
   .have hk1:(k:Int)<(q:Int):=by omega
    have hP:P<=262144:=by rw[HP.out];exact qg2 hN8 (by omega)
    have hM:P*N<=262144*8:=zcj hP hN8;have hm0:(0:Int)<=(P:Int)*(N:Int):=by rw[<-zbx];omega
    have hm1:(P:Int)*(N:Int)<=2097152:=by rw[<-zbx];omega
    have HE:Hid ((P:Int)*(N:Int)=((P*N:Nat):Int)):=(zbx _ _).symm;have HF:Hid (P*N=N ^ (k+1)):=by show _=_;rw[HP.out,zff]
    clear hM;go_wp2_with fail
    go_round
    case rel=>exact⟨k+1,P*N,by omega,by go_num,by rw[HE.out],HF⟩
    case measure=>simp[intOf];try omega
   .obtain rfl:k=q:=by omega
    have hk1:¬(k:Int)<(k:Int):=by omega
    go_wp2_with fail;go_ret;exact⟨qg (by rw[t.out,<-HP.out,zdt,zdt];exact decide_eq_decide.2 (by omega)),T8⟩
def lenV:Value->Nat| .slice _ n _=>n|_=>0
def CsE (w:World) (hold:Prop) (e:Ending) (w':World):Prop:=∃v,e=.returned (.tuple #[v,.bool (!(tt hold))])/\Below w.heap.size w w'
theorem qcb (cs M:List Value) (x:qi) (e:q1a) (w:World) (h:qf.rd w cs x) (h':qu.rd w M e) (hx:AlgP x) (hA:askB x.1.toNat x.2 e.1 e.2=true):
  Calls Tryz.prog 159 #[.agg cs.toArray,.agg M.toArray] w (CsE w (q62 x.1.toNat x.2 e.1 e.2)):=by
 have hrd:=h;have hrd':=h';obtain⟨B,m,d,rfl,-,qo⟩:=qv h;obtain⟨AL,I,cL,AR,O,cR,rfl,rL,rR⟩:=q1i h';obtain⟨w0,hw0,T0,hsz0,BP,BQ⟩:=q1p w #[.int .i64 x.1,.slice B m d] #[.slice AL I cL,.slice AR O cR] 24 55;have HW0:=zaa hw0;have H1:Hid (∀f,Below w0.heap.size w0 f->qf.rd f [.int .i64 x.1,.slice B m d] x):=fun f D=>qf.stab (qf.stab hrd T0.block) D.block
 have HLL:Hid (∀f,Below w0.heap.size w0 f->RdL RI f AL I e.1):=fun f D=>(rL.next qd T0).next qd D
 have HR:Hid (∀f,Below w0.heap.size w0 f->RdL RI f AR O e.2):=fun f D=>(rR.next qd T0).next qd D
 have HLB:=zaa rL.bounds;have HRB:=zaa rR.bounds;have HNL:=zaa rL.len;have HNR:=zaa rR.len;have HX:=zaa hx;obtain⟨K,ab⟩:=cl2 BP;obtain⟨Q,S⟩:=cl2 BQ;obtain⟨N,hN⟩:∃N:Nat,x.1=(N:Int):=⟨x.1.toNat,by have:=hx.1;omega⟩;have HNN:=zaa hN;have hN8:N<=8:=by have:=hx.2.1;omega
 have hN1:1<=N:=by have:=hx.1;omega
 have hN0:0<N:=hN1;have HNT:Hid (x.1.toNat=N):=by show _=_;omega
 rw[hN]at K;rw[HNT.out];rw[hN]at HW0;obtain⟨a,E⟩:∃l,Hid (q5v e.1 e.2=l):=⟨_,rfl⟩;have HV6:Hid (a.length<=6):=by show _<=6;rw[<-E.out];exact qak _ _
 have HVI:Hid (∀v∈a,0<=v/\v<=5):=by rw[<-E.out];exact q5w _ _
 have W:=zaa (q4t hA).1;have X:=zaa (q4t hA).2;have hnL:I<=60:=by have:=(q2t W.out).1;have:=HNL.out;omega
 have hnR:O<=60:=by have:=(q2t X.out).1;have:=HNR.out;omega
 obtain⟨r,V⟩:∃r,Hid (N ^ a.length=r):=⟨_,rfl⟩;have HR5:Hid (r<=5000):=by
  show r<=5000
  unfold askB at hA;rw[za4,zbt,HNT.out,E.out,V.out]at hA;exact hA.2
 have HVM:Hid (∀v∈a,v<(mxV a:Int)):=by rw[<-E.out];exact fun v t=>qlc t
 have HM6:Hid (mxV a<=6):=by show _<=6;rw[<-E.out];exact qoc _ _
 have HVLL:Hid (∀v∈e.1,v<(mxV a:Int)):=by rw[<-E.out];exact fun v t=>q92 W.out X.out (.inl t)
 have HVRR:Hid (∀v∈e.2,v<(mxV a:Int)):=by rw[<-E.out];exact fun v t=>q92 W.out X.out (.inr t)
 have T:Hid (q62 N x.2 e.1 e.2↔∀i,i<r->evT N x.2 (Wb N a (i+1)) e.1=evT N x.2 (Wb N a (i+1)) e.2):=by
  show _↔_
  unfold q62 TryP;rw[E.out,V.out]
 rw[hN];clear hw0 hsz0 hrd hrd' rL rR qo hx h h' hN hA;obtain⟨C,aa⟩:∃C:World,C=w0:=⟨_,rfl⟩;rw[<-aa]at K ab Q S;have TV:Below w0.heap.size w0 C:=by rw[aa];exact zab _ _
 rw[<-aa]at HW0;have TV0:Below w.heap.size w C:=by rw[aa];exact T0
 clear aa
 go_enter Tryz.func159,Tryz.ntmps159
 go_upto_region 1 with fail;rw[<-HW0.out];have HO1:Hid (∀f,Below C.heap.size C f->Calls Tryz.prog 110 #[.slice AL I cL] f fun e1 w'=>∃A' c',e1=.returned (.slice A' I c')/\w'.ownsRow f.heap.size 3 1 (.slice A' I c') I (ints e.1)/\Below f.heap.size f w'):=fun f D=>q2h AL I cL e.1 f ((HLL.out C TV).next qd D) (by omega)
 have HRR:Hid (∀f,Below C.heap.size C f->RdL RI f AR O e.2):=fun f D=>(HR.out C TV).next qd D
 have KQ0:Hid (∀f,Below C.heap.size C f->f.cell? ⟨w.heap.size+1,0,none⟩=some (.slice AL I cL)):=fun f D=>qe D Q
 have KQ1:Hid (∀f,Below C.heap.size C f->f.cell? ⟨w.heap.size+1,1,none⟩=some (.slice AR O cR)):=fun f D=>qe D S
 have HVV:Hid (∀(A:Option Addr) (c:Nat) (f:World),Below C.heap.size C f->f.ownsRow C.heap.size 3 1 (.slice A (I+O) c) (I+O) (ints (e.1++e.2))->Calls Tryz.prog 158 #[.slice A (I+O) c] f (OwI f a)):=fun A c f D ho=>by
  have:=q8g A (I+O) c (e.1++e.2) f (q14 (R:=RI) ho (q1o fun v t=>by
   rcases zat.1 t with t|t
   .exact HLB.out v t
   .exact HRB.out v t)) (fun v t=>by
   rcases zat.1 t with t|t
   .exact(q21 (q2z W.out v t)).1
   .exact(q21 (q2z X.out v t)).1)
  rwa [show q1n 6 (varM (e.1++e.2))=a from(q1x fun y _=>qd3 e.1 e.2 y).trans E.out]at this
 have HVB:Hid (∀v∈a, -9223372036854775808<=v/\v<=9223372036854775807):=by rw[<-E.out];exact fun v t=>by have:=q5w e.1 e.2 v t;omega
 go_upto_region 1 with fail
 go_cut [6]from 11 to 17 (fun u6 wx=>∃A7 c7,u6=.slice A7 a.length c7/\RdL RI wx A7 a.length a/\Below C.heap.size C wx)
 case first=>
  have n:Below C.heap.size C C:=zab _ _
  go_region_law (first
   |(go_simp;go_at_call 110;(with_reducible refine(HO1.out _ ?_).mono ?_);(first|exact n|exact qc n _);rintro e1 w5 ⟨A5,c5,rfl,ho5,hb5⟩;replace n:=q9 (by first|exact n|exact qc n _) hb5 rfl;have cE0:=KQ0.out _ n;have cE1:=KQ1.out _ n)
   |(refine q1b (R:=RI) _ rfl (.tmp 13) (.tmp 15) 43 3 rfl (.int .i64 0) 8 zax q15 rfl (by decide) C.heap.size I c5 A5 (ints e.1) (by rfl) (by exact ho5) AR O cR e.2 (fun y=>.int .i64 y) (fun _=>rfl) (by rfl) (HRR.out _ (by first|exact n|exact qc n _)) (fun _ _ _ hr=>hr.1) (by omega) (by exact n.size) ?_;intro A6 c6 w6 hown6 hg6 hb6;have T6:Below C.heap.size C w6:=(by first|exact n.trans hb6|exact(qc n _).trans hb6);have hown7:w6.ownsRow C.heap.size 3 1 (.slice A6 (I+O) c6) (I+O) (ints (e.1++e.2)):=(by simpa[ints]using hown6))
   |(go_simp;go_at_call 158;refine(HVV.out A6 c6 _ ?_ ?_).mono ?_;(first|exact T6|exact qc T6 _);(exact hown7);rintro e2 w7 ⟨A7,c7,rfl,ho7,hb7⟩;have T7:=q9 (by first|exact T6|exact qc T6 _) hb7 rfl;have r7:=q14 (R:=RI) ho7 (q1o HVB.out)))
  all_goals
   go_wp2_with fail;go_meet;exact⟨A7,c7,rfl,r7,T7⟩
 case rest=>
  obtain⟨A7,c7,rfl,r7,T7⟩:=hcut;obtain⟨P,HWC⟩:∃wq:World,wq=wc:=⟨_,rfl⟩;subst HWC;obtain⟨q,HQ⟩:∃q,Hid (a.length=q):=⟨_,rfl⟩;rw[HQ.out]at r7 HV6 V⊢;have hq6:=HV6.out;have zkk:=kk4 T7 K ab Q S;clear K ab Q S;obtain⟨K,ab,Q,S⟩:=zkk;have T2:=q9 TV T7 rfl;have T02:=q9 TV0 T7 rfl;have hr5:=HR5.out;obtain⟨mx,U⟩:∃mx,Hid (mxV a=mx):=⟨_,rfl⟩;rw[U.out]at HM6 HVM HVLL HVRR;have hm6:=HM6.out;have HWL:Hid (∀i,(Wb N a i).length=mx):=fun i=>by rw[qis,U.out]
  have HMQ:Hid (q=0->mx=0):=fun h0=>by rw[<-U.out,zdj (HQ.out.trans h0)];rfl
  have HML:Hid (∀v,a[q - 1]?=some v->(mx:Int)=v+1/\0<=v):=fun v t=>by
   have hvi:=HVI.out v (zaf t);exact⟨by rw[<-U.out];exact qcg (by rw[List.getLast?_eq_getElem?,HQ.out];exact t) hvi.1,hvi.1⟩
  have T3:=qm P (.cells #[] 3);have hO:=zby (base:=P.heap.size) (e:=3) (size:=1) P #[] 0 (zad _) (zah _) rfl;clear KQ0 KQ1 HO1 HRR HVV;go_wp2_with fail
  go_loopw [7] (fun s wr=>∃(k b c:Nat),k<=mx/\s=.slice (some ⟨b,0,none⟩) k c/\wr.ownsRow P.heap.size 3 1 (.slice (some ⟨b,0,none⟩) k c) k (ints (List.replicate k 0))/\Below P.heap.size P wr) (fun s _=>mx - lenV s)
  case atStart=>exact⟨0,_,_,zah _,rfl,hO,T3⟩
  case round=>
   clear hO T3;obtain⟨k,b,c,hk,rfl,L,o⟩:=hrel;have ac:=qe o K
   by_cases hlt:k<mx
   .have hq0:0<q:=by
     rcases zc9 q with h|h
     .have:=HMQ.out h;omega
     .exact h
    obtain⟨b2,o2,vv,v,rfl,hc,⟨rfl,hv0,hv1⟩,-,G⟩:=r7.at (k:=q - 1) (by omega);have hmv:=HML.out v G;obtain⟨p,hp⟩:∃p,p=q - 1:=⟨_,rfl⟩;rw[<-hp]at hc;replace hc:=qe o hc;have ep:(q:Int) - 1=(p:Int):=by omega
    have hp0:(0:Int)<=(p:Int):=by omega
    have hp1:(p:Int)<(q:Int):=by omega
    have hq1:(0:Int)<(q:Int):=by omega
    have hkv:(k:Int)<=v:=by omega
    have D:=o.size;clear G hp hmv ac
    go_wp2_with (at_builtin;refine app1 wr rfl _ _ 43 3 rfl (.int .i64 0) 8 zax q15 rfl (by decide) P.heap.size k c _ _ rfl L (.int .i64 0) rfl rfl (by omega) D ?_;intro A3 c3 w3 hown3 hg3 hb3)
    obtain⟨b3,rfl,-,-⟩:=q2b hown3 (by omega)
    go_roundw
    case rel=>exact⟨k+1,b3,c3,by omega,rfl,by rw[List.replicate_succ',q2y];exact hown3,o.trans hb3⟩
    case measure=>simp[lenV];try omega
   .obtain rfl:k=mx:=by omega
    have hW0:(ints (List.replicate k 0))=ints (Wb N a 0):=by rw[qit,U.out,q7s]
    rw[hW0]at L;clear hlt hW0
    rcases zc9 q with hq0|hq0
    case' inl=>
     have hq1:¬(0:Int)<(q:Int):=by omega
     clear hq0 ac;go_wp2_with fail
    case' inr=>
     have hq1:(0:Int)<(q:Int):=by omega
     obtain⟨b2,o2,vv,v,e7,hc,⟨rfl,hv0,hv1⟩,-,G⟩:=r7.at (k:=q - 1) (by omega);have hmv:=HML.out v G;subst e7;obtain⟨p,hp⟩:∃p,p=q - 1:=⟨_,rfl⟩;rw[<-hp]at hc;replace hc:=qe o hc;have ep:(q:Int) - 1=(p:Int):=by omega
     have hp0:(0:Int)<=(p:Int):=by omega
     have hp1:(p:Int)<(q:Int):=by omega
     have hkv:¬(k:Int)<=v:=by omega
     clear G hp hmv ac;go_wp2_with fail;clear ep hp0 hp1 hkv hc hv0 hv1 hq0
    all_goals
     clear hq1
     go_loopw [8] (fun i wr=>∃j:Nat,j<=r/\i=.int .i64 j/\Hid (∀i,i<j->evT N x.2 (Wb N a (i+1)) e.1=evT N x.2 (Wb N a (i+1)) e.2)/\wr.ownsRow P.heap.size 3 1 (.slice (some ⟨b,0,none⟩) k c) k (ints (Wb N a j))/\Below P.heap.size P wr) (fun i _=>r - (intOf i).toNat)
     case atStart=>exact⟨0,zah _,rfl,(fun i hi=>absurd hi (by omega)),L,o⟩
     case round=>
      clear L o;obtain⟨j,hj,rfl,HALL,L,o⟩:=hrel;have kP0:=qe o K
      by_cases hlt:j<r
      .have hj0:(0:Int)<=(j:Int):=by omega
       have hj1:(j:Int)<(r:Int):=by omega
       have HA:=zaa (q4w j q N wr hN0 (by omega) (by omega) (by omega));have hgV:=(L.lt b rfl);go_wp2_with fail;refine(qb6 N q r _ V.out hN8 HV6.out).mono ?_;rintro e1 w' ⟨rfl,rfl⟩;go_wp2_with fail;refine HA.out.mono ?_;rintro e1 w4 ⟨g,rfl,H,hb4⟩;have hgA:=H.lt g rfl;have hV4:=ql L hb4;have hT4:Below P.heap.size P w4:=o.trans (hb4.mono o.size);obtain⟨M,HDS⟩:∃M,Hid (digs N q j=M):=⟨_,rfl⟩;have HDL:Hid (M.length=q):=by show _=_;rw[<-HDS.out,q2d]
       rw[HDS.out]at H;have hgg:g≠b:=by omega
       clear L kP0 HA;go_wp2_with fail
       go_loopw [10] (fun i wi=>∃p:Nat,p<=q/\i=.int .i64 p/\wi.ownsRow wr.heap.size 3 1 (.slice (some ⟨g,0,none⟩) q q) q (ints (nats M))/\wi.ownsRow P.heap.size 3 1 (.slice (some ⟨b,0,none⟩) k c) k (ints (setV a M p (Wb N a j)))/\Below P.heap.size P wi) (fun i _=>q - (intOf i).toNat)
       case atStart=>exact⟨0,zah _,rfl,H,hV4,hT4⟩
       case round=>
        clear H hV4 hT4 o hb4;obtain⟨p,hp,rfl,H,L,F⟩:=hrel
        by_cases hlp:p<q
        .have hp0:(0:Int)<=(p:Int):=by omega
         have hp1:(p:Int)<(q:Int):=by omega
         obtain⟨b9,o9,vv,v,e8,hc,⟨rfl,hv0,hv1⟩,-,G⟩:=r7.at hlp
         first|subst e8|(injection e8 with e8;injection e8 with e81 e82;subst e81;subst e82)
         have hvi:=HVI.out v (zaf G);have hvm:=HVM.out v (zaf G);obtain⟨y,rfl⟩:=zam hvi.1;have hpl:p<M.length:=by rw[HDL.out];exact hlp
         have hdp:M[p]?=some M[p]:=zae hpl
         generalize M[p]=dd at hdp
         have hcd:wr.cell? ⟨g,p,none⟩=some (.int .i64 (dd:Int)):=by
          rw[H.cellAt p (by omega)];unfold ints nats;rw[za6,za6,hdp];rfl
         have hSL:(setV a M p (Wb N a j)).length=k:=by rw[q9i,HWL.out]
         obtain⟨u,hcell⟩:∃u,wr.cell? ⟨b,y,none⟩=some u:=⟨_,(L.cellAt y (by omega)).trans (zae (by rw[q3d];omega))⟩;have hfz:=L.frozenAt y;have hst:=(L.stored y (.int .i64 (dd:Int))).1;rw[q2a]at hst;have HST:=zaa hst;have HSET:Hid (setV a M (p+1) (Wb N a j)=(setV a M p (Wb N a j)).set y (dd:Int)):=by
          show _=_
          rw[setV,zan,G,zan,hdp];simp
         replace hc:=qe F hc;have HOA2:=zaa (q5n H (p:=⟨b,y,none⟩) (by simp[Value.ownBlock];exact hgg) (.int .i64 (dd:Int)));have hy1:(y:Int)<(k:Int):=by omega
         clear G hdp H L hvm hst;go_upto_region 12 with fail
         go_region
         all_goals
          go_wp2_with fail
          go_roundw
          case rel=>exact⟨p+1,by omega,by go_num,HOA2.out,by rw[HSET.out];exact HST.out,by first|exact F.setCell hgV.1 _|exact(F.drew).setCell hgV.1 _|exact(qc F _).setCell hgV.1 _⟩
          case measure=>simp[intOf];try omega
        .obtain rfl:p=q:=by omega
         have hp1:¬(p:Int)<(p:Int):=by omega
         have HW1:Hid (setV a M p (Wb N a j)=Wb N a (j+1)):=by show _=_;rw[Wb,HQ.out,HDS.out]
         rw[HW1.out]at L;obtain⟨VL,J⟩:∃l,Hid (Wb N a (j+1)=l):=⟨_,rfl⟩;obtain⟨eL,HEL⟩:∃z,Hid (evT N x.2 VL e.1=z):=⟨_,rfl⟩;obtain⟨eR,HER⟩:∃z,Hid (evT N x.2 VL e.2=z):=⟨_,rfl⟩;have Y:Hid (∀y∈VL,0<=y/\y<=x.1 - 1):=fun y hy=>by rw[<-J.out]at hy;have:=qir hN0 a (j+1) y hy;rw[HNN.out];exact this
         have Z:Hid (VL.length=k):=by show _=_;rw[<-J.out,HWL.out]
         have HVL1:Hid (∀v∈e.1,v<(VL.length:Int)):=fun v t=>by rw[Z.out];exact HVLL.out v t
         have HVR1:Hid (∀v∈e.2,v<(VL.length:Int)):=fun v t=>by rw[Z.out];exact HVRR.out v t
         have rV:RdL RI wr (some ⟨b,0,none⟩) k VL:=by
          rw[J.out]at L;exact q14 (R:=RI) L (q1o fun v t=>by have:=Y.out v t;rw[HNN.out]at this;omega)
         have TT:=q9 T2 F rfl;have HC1:Hid (∀f,Below wr.heap.size wr f->Calls Tryz.prog 160 #[.agg #[.int .i64 (N:Int),.slice B m d],.slice AL I cL,.slice (some ⟨b,0,none⟩) k c] f (Bl f (.int .i64 (eL:Int)))):=fun f D=>by
          have:=q5k _ x AL (some ⟨b,0,none⟩) I cL k c e.1 VL f (H1.out f (q9 TT D rfl)) HX.out (HLL.out f (q9 TT D rfl)) (rV.next qd D) W.out HVL1.out Y.out;rw[HNT.out,HEL.out,HNN.out]at this;exact this
         have HC2:Hid (∀f,Below wr.heap.size wr f->Calls Tryz.prog 160 #[.agg #[.int .i64 (N:Int),.slice B m d],.slice AR O cR,.slice (some ⟨b,0,none⟩) k c] f (Bl f (.int .i64 (eR:Int)))):=fun f D=>by
          have:=q5k _ x AR (some ⟨b,0,none⟩) O cR k c e.2 VL f (H1.out f (q9 TT D rfl)) HX.out (HR.out f (q9 TT D rfl)) (rV.next qd D) X.out HVR1.out Y.out;rw[HNT.out,HER.out,HNN.out]at this;exact this
         have ac:=qe F K;have dP1:=qe F ab;have dQ0:=qe F Q;have dQ1:=qe F S;obtain⟨bb,HBB⟩:∃b,Hid (((eL:Int) !=(eR:Int))=b):=⟨_,rfl⟩;have n:Below wr.heap.size wr wr:=zab _ _;clear rV H;go_upto_region 13 with fail
         go_cut [77]from 67 to 78 (fun u77 wx=>u77=.bool bb/\Below wr.heap.size wr wx)
         case first=>
          go_region_held3 (fun w'=>w'.cell? ⟨w.heap.size,0,none⟩=some (.int .i64 (N:Int))/\w'.cell? ⟨w.heap.size,1,none⟩=some (.slice B m d)/\w'.cell? ⟨w.heap.size+1,0,none⟩=some (.slice AL I cL)/\w'.cell? ⟨w.heap.size+1,1,none⟩=some (.slice AR O cR)) (first|go_keep|exact⟨qe n ac,qe n dP1,qe n dQ0,qe n dQ1⟩) (first
           |(go_at_call 160;(with_reducible refine(HC1.out _ ?_).mono ?_);(first|exact n|exact zai n|exact qc (zab _ _) _|exact qc n _);rintro e1 wn ⟨rfl,hbn⟩;replace n:=q9 (by first|exact n|exact zai n|exact qc (zab _ _) _|exact qc n _) hbn rfl)
           |(go_at_call 160;(with_reducible refine(HC2.out _ ?_).mono ?_);(first|exact n|exact zai n|exact qc (zab _ _) _|exact qc n _);rintro e1 wn ⟨rfl,hbn⟩;replace n:=q9 (by first|exact n|exact zai n|exact qc (zab _ _) _|exact qc n _) hbn rfl))
          all_goals
           go_wp2_with fail;go_meet;exact⟨by rw[<-HBB.out],by first|exact n|exact zai n⟩
         case rest=>
          obtain⟨rfl,hTc⟩:=hcut;have hTn:=q9 F hTc rfl;have hVc:=ql L hTc;obtain⟨w9,HWC⟩:∃wq:World,wq=wc:=⟨_,rfl⟩;subst HWC
          rcases bb with _|_
          .have HEQ:Hid (evT N x.2 (Wb N a (j+1)) e.1=evT N x.2 (Wb N a (j+1)) e.2):=by
            show _=_
            have:=HBB.out;rw[J.out,HEL.out,HER.out];have h2:(eL:Int)=(eR:Int):=by simpa using this
            omega
           have HALL2:Hid (∀i,i<j+1->evT N x.2 (Wb N a (i+1)) e.1=evT N x.2 (Wb N a (i+1)) e.2):=fun i hi=>by
            by_cases e:i=j
            .subst e;exact HEQ.out
            .exact HALL.out i (by omega)
           go_wp2_with fail
           go_roundw
           case rel=>exact⟨j+1,by omega,by go_num,HALL2,hVc,hTn⟩
           case measure=>simp[intOf];try omega
          .have HNE:Hid (tt (q62 N x.2 e.1 e.2)=false):=by
            refine(q2g fun hh=>?_).symm;have h1:=T.out.1 hh j hlt;have:=HBB.out;rw[J.out,HEL.out,HER.out]at h1;rw[h1]at this;simp at this
           go_wp2_with fail
           go_ret2
           exact⟨_,by rw[HNE.out];rfl,q9 T02 hTn rfl⟩
      .have hj1:¬(j:Int)<(r:Int):=by omega
       have HYES:Hid (tt (q62 N x.2 e.1 e.2)=true):=(q6i (T.out.2 fun i hi=>HALL.out i (by omega))).symm;go_wp2_with fail;refine(qb6 N q r _ V.out hN8 HV6.out).mono ?_;rintro e1 w' ⟨rfl,rfl⟩;go_wp2_with fail
       go_ret2
       exact⟨_,by rw[HYES.out];rfl,(q9 T02 o rfl).alloc (zbb T02.size o.size) _⟩
theorem qfl (cs o:List Value) (x:qi) (e:q1a) (w:World) (h:qf.rd w cs x) (k:qu.rd w o e) (q:AlgP x) (p:askB x.1.toNat x.2 e.1 e.2=true):
  Calls Tryz.prog 99 #[.agg cs.toArray,.agg o.toArray] w (Bl w (.bool (tt (q62 x.1.toNat x.2 e.1 e.2)))):=by
 have c:=h;have a:=k;obtain⟨B,m,d,rfl,-,I⟩:=qv h;obtain⟨r,G,z,s,H,F,rfl,J,K⟩:=q1i k;obtain⟨L,g,j,f,t,u⟩:=q1p w #[.int .i64 x.1,.slice B m d] #[.slice r G z,.slice s H F] 24 55;have i:=zaa g;have y:=zaa (qcb _ _ x e L (qf.stab c j.block) (qu.stab a j.block) q p);obtain⟨A,C⟩:=cl2 t;obtain⟨D,E⟩:=cl2 u;obtain⟨b,n⟩:∃b,Hid (tt (q62 x.1.toNat x.2 e.1 e.2)=b):=⟨_,rfl⟩;clear g f c a I J K h k q p
 go_enter Tryz.func99,Tryz.ntmps99
 go_upto_region 1 with fail;rw[<-i.out];go_wp2_with fail;refine y.out.mono ?_;rintro M N ⟨v,rfl,l⟩;rw[n.out]
 rcases b with _|_
 all_goals
  go_wp2_with fail;go_ret;exact⟨qg (by rw[n.out]),q9 j l rfl⟩
theorem qdo (cs ds:List Value) (x:qi) (e:q1a) (J:Option Addr) (E X:Nat) (V:List Int) (w:World) (h:qf.rd w cs x) (h':qu.rd w ds e) (i:RdL RI w J E V) (hx:AlgP x) (hA:askB x.1.toNat x.2 e.1 e.2=true):
  Calls Tryz.prog 100 #[.agg cs.toArray,.agg ds.toArray,.slice J E X] w (Bl w (.bool (q45 x.1.toNat x.2 e.1 e.2 V))):=by
 have hrd:=h;have hrd':=h';obtain⟨B,m,d,rfl,-,qo⟩:=qv h;obtain⟨S,t,cL,T,D,cR,rfl,rL,rR⟩:=q1i h';obtain⟨I,hw0,T0,hsz0,BP,BQ⟩:=q1p w #[.int .i64 x.1,.slice B m d] #[.slice S t cL,.slice T D cR] 24 55;have ab:=zaa hw0;have H1:Hid (∀a,Below I.heap.size I a->qf.rd a [.int .i64 x.1,.slice B m d] x):=fun a j=>qf.stab (qf.stab hrd T0.block) j.block
 have HLL:Hid (∀a,Below I.heap.size I a->RdL RI a S t e.1):=fun a j=>(rL.next qd T0).next qd j
 have HR:Hid (∀a,Below I.heap.size I a->RdL RI a T D e.2):=fun a j=>(rR.next qd T0).next qd j
 have HLB:=zaa rL.bounds;have HRB:=zaa rR.bounds;have HNL:=zaa rL.len;have HNR:=zaa rR.len;have HX:=zaa hx;obtain⟨M,cP1⟩:=cl2 BP;obtain⟨O,P⟩:=cl2 BQ;obtain⟨N,hN⟩:∃N:Nat,x.1=(N:Int):=⟨x.1.toNat,by have:=hx.1;omega⟩;have Z:=zaa hN;have hN8:N<=8:=by have:=hx.2.1;omega
 have hN1:1<=N:=by have:=hx.1;omega
 have hN0:0<N:=hN1;have aa:Hid (x.1.toNat=N):=by show _=_;omega
 rw[hN]at M;rw[aa.out];rw[hN]at ab;obtain⟨f,r⟩:∃l,Hid (q5v e.1 e.2=l):=⟨_,rfl⟩;have HV6:Hid (f.length<=6):=by show _<=6;rw[<-r.out];exact qak _ _
 have HVI:Hid (∀v∈f,0<=v/\v<=5):=by rw[<-r.out];exact q5w _ _
 have F:=zaa (q4t hA).1;have G:=zaa (q4t hA).2;have hnL:t<=60:=by have:=(q2t F.out).1;have:=HNL.out;omega
 have hnR:D<=60:=by have:=(q2t G.out).1;have:=HNR.out;omega
 have HV:Hid (∀a,Below I.heap.size I a->RdL RI a J E V):=fun a j=>(i.next qd T0).next qd j
 have L:=zaa i.len;have hnle:=i.le;have HVL0:Hid (∀v∈e.1,v<(mxV f:Int)):=by rw[<-r.out];exact fun v i=>q92 F.out G.out (.inl i)
 have HVR0:Hid (∀v∈e.2,v<(mxV f:Int)):=by rw[<-r.out];exact fun v i=>q92 F.out G.out (.inr i)
 rw[hN];clear hw0 hsz0 hrd hrd' rL rR qo hx h h' hN hA i;obtain⟨n,H⟩:∃n:World,n=I:=⟨_,rfl⟩;rw[<-H]at M cP1 O P;have TV:Below I.heap.size I n:=by rw[H];exact zab _ _
 rw[<-H]at ab;have TV0:Below w.heap.size w n:=by rw[H];exact T0
 clear H
 go_enter Tryz.func100,Tryz.ntmps100
 go_upto_region 1 with fail;rw[<-ab.out];have HO1:Hid (∀a,Below n.heap.size n a->Calls Tryz.prog 110 #[.slice S t cL] a fun e1 w'=>∃A' c',e1=.returned (.slice A' t c')/\w'.ownsRow a.heap.size 3 1 (.slice A' t c') t (ints e.1)/\Below a.heap.size a w'):=fun a j=>q2h S t cL e.1 a ((HLL.out n TV).next qd j) (by omega)
 have HRR:Hid (∀a,Below n.heap.size n a->RdL RI a T D e.2):=fun a j=>(HR.out n TV).next qd j
 have KQ0:Hid (∀a,Below n.heap.size n a->a.cell? ⟨w.heap.size+1,0,none⟩=some (.slice S t cL)):=fun a j=>qe j O
 have KQ1:Hid (∀a,Below n.heap.size n a->a.cell? ⟨w.heap.size+1,1,none⟩=some (.slice T D cR)):=fun a j=>qe j P
 have HVV:Hid (∀(A:Option Addr) (c:Nat) (a:World),Below n.heap.size n a->a.ownsRow n.heap.size 3 1 (.slice A (t+D) c) (t+D) (ints (e.1++e.2))->Calls Tryz.prog 158 #[.slice A (t+D) c] a (OwI a f)):=fun A c a j ho=>by
  have:=q8g A (t+D) c (e.1++e.2) a (q14 (R:=RI) ho (q1o fun v i=>by
   rcases zat.1 i with i|i
   .exact HLB.out v i
   .exact HRB.out v i)) (fun v i=>by
   rcases zat.1 i with i|i
   .exact(q21 (q2z F.out v i)).1
   .exact(q21 (q2z G.out v i)).1)
  rwa [show q1n 6 (varM (e.1++e.2))=f from(q1x fun y _=>qd3 e.1 e.2 y).trans r.out]at this
 have HVB:Hid (∀v∈f, -9223372036854775808<=v/\v<=9223372036854775807):=by rw[<-r.out];exact fun v i=>by have:=q5w e.1 e.2 v i;omega
 go_upto_region 1 with fail
 go_cut [7]from 9 to 15 (fun u7 wx=>∃A7 c7,u7=.slice A7 f.length c7/\RdL RI wx A7 f.length f/\Below n.heap.size n wx)
 case first=>
  have g:Below n.heap.size n n:=zab _ _
  go_region_law (first
   |(go_simp;go_at_call 110;(with_reducible refine(HO1.out _ ?_).mono ?_);(first|exact g|exact qc g _);rintro e1 w5 ⟨A5,c5,rfl,ho5,hb5⟩;replace g:=q9 (by first|exact g|exact qc g _) hb5 rfl;have cE0:=KQ0.out _ g;have cE1:=KQ1.out _ g)
   |(refine q1b (R:=RI) _ rfl (.tmp 11) (.tmp 13) 43 3 rfl (.int .i64 0) 8 zax q15 rfl (by decide) n.heap.size t c5 A5 (ints e.1) (by rfl) (by exact ho5) T D cR e.2 (fun y=>.int .i64 y) (fun _=>rfl) (by rfl) (HRR.out _ (by first|exact g|exact qc g _)) (fun _ _ _ hr=>hr.1) (by omega) (by exact g.size) ?_;intro A6 c6 w6 hown6 hg6 hb6;have T6:Below n.heap.size n w6:=(by first|exact g.trans hb6|exact(qc g _).trans hb6);have hown7:w6.ownsRow n.heap.size 3 1 (.slice A6 (t+D) c6) (t+D) (ints (e.1++e.2)):=(by simpa[ints]using hown6))
   |(go_simp;go_at_call 158;refine(HVV.out A6 c6 _ ?_ ?_).mono ?_;(first|exact T6|exact qc T6 _);(exact hown7);rintro e2 w7 ⟨A7,c7,rfl,ho7,hb7⟩;have W:=q9 (by first|exact T6|exact qc T6 _) hb7 rfl;have r7:=q14 (R:=RI) ho7 (q1o HVB.out)))
  all_goals
   go_wp2_with fail;go_meet;exact⟨A7,c7,rfl,r7,W⟩
 case rest=>
  obtain⟨A7,c7,rfl,r7,W⟩:=hcut;obtain⟨wr,ac⟩:∃wq:World,wq=wc:=⟨_,rfl⟩;subst ac;obtain⟨q,HQ⟩:∃q,Hid (f.length=q):=⟨_,rfl⟩;rw[HQ.out]at r7 HV6⊢;have hq6:=HV6.out;have dP0:=qe W M;have dP1:=qe W cP1;have dQ0:=qe W O;have dQ1:=qe W P;have TT:=q9 TV W rfl;have s:=q9 TV0 W rfl;obtain⟨Q,C⟩:∃Q,Hid (mxV f=Q):=⟨_,rfl⟩;have hm6:Q<=6:=by rw[<-C.out,<-r.out];exact qoc _ _
  clear KQ0 KQ1 HO1 HRR HVV M cP1 O P
  go_upto_if 18 with fail
  go_cut [8,18]from 19 to 25 (fun u8 _ wx=>u8=.int .i64 (Q:Int)/\wx=wr)
  case first=>
   rcases zc9 q with h0|h0
   .have hv0:f= []:=zdj (by rw[HQ.out];exact h0)
    have hm0:Q=0:=by rw[<-C.out,hv0];rfl
    subst h0;subst hm0;go_wp2_with fail;go_meet;exact⟨rfl,rfl⟩
   .have hq0:(0:Int)<(q:Int):=by omega
    obtain⟨b,o,vv,v,rfl,hc,⟨rfl,hv0,hv1⟩,-,hxv⟩:=r7.at (k:=q - 1) (by omega);have hvi:=HVI.out v (zaf hxv);have hmx:(Q:Int)=v+1:=by rw[<-C.out];exact qcg (by rw[List.getLast?_eq_getElem?,HQ.out];exact hxv) hvi.1
    obtain⟨p,hp⟩:∃p,p=q - 1:=⟨_,rfl⟩;rw[<-hp]at hc;have ep:(q:Int) - 1=(p:Int):=by omega
    have hp0:(0:Int)<=(p:Int):=by omega
    have hp1:(p:Int)<(q:Int):=by omega
    have em:v+1=(Q:Int):=by omega
    clear hxv hp hmx;go_wp2_with fail;go_meet;exact⟨rfl,rfl⟩
  case rest=>
   obtain⟨rfl,hwc⟩:=hcut;subst hwc;obtain⟨ins,K⟩:∃b,Hid (q1v 0 ((N:Int) - 1) V=b):=⟨_,rfl⟩;obtain⟨wr,ac⟩:∃wq:World,wq=wc:=⟨_,rfl⟩;subst ac
   by_cases hnm:E=Q
   rotate_left
   .have u:Hid (q45 N x.2 e.1 e.2 V=false):=by show _=_;unfold q45;rw[r.out,C.out,L.out,zbn hnm,Bool.false_and,zd9]
    have hd1:((E:Int)==(Q:Int))=false:=by rw[zbi];omega
    clear r7;go_upto_region 5 with fail
    go_quiet (fail)
    go_wp2_with fail;go_ret;exact⟨qg u.out.symm,(by first|exact s|exact qc (s) _|exact qc (qc (s) _) _|exact qc (qc (qc (s) _) _) _)⟩
   subst hnm;have hd1:((E:Int)==(E:Int))=true:=by rw[zdp]
   have HEl:Hid (∀a,Calls Tryz.prog 115 #[.int .i64 (N:Int),.slice J E X] a (fun e1 w'=>e1=.returned (.bool ins)/\a=w')\/True):=fun a=>.inr trivial
   have Y:Hid (∀a,Below wr.heap.size wr a->Calls Tryz.prog 115 #[.int .i64 (N:Int),.slice J E X] a (Qt a (.bool ins))):=fun a j=>by
    have:=q4q J E X V (N:Int) a (HV.out a (q9 TT j rfl)) (by omega) (by omega);rw[K.out]at this
    first|exact this|exact q23 this
   clear HEl
   rcases ins with _|_
   .have u:Hid (q45 N x.2 e.1 e.2 V=false):=by show _=_;unfold q45;rw[K.out];rfl
    clear r7;go_upto_region 5 with fail
    go_quiet ((go_at_call 115;first|exact q1k (Y.out _ (by first|exact zab _ _|exact qc (zab _ _) _))|exact q1e (Y.out _ (by first|exact zab _ _|exact qc (zab _ _) _))))
    go_wp2_with fail;go_ret;exact⟨qg u.out.symm,(by first|exact s|exact qc (s) _|exact qc (qc (s) _) _|exact qc (qc (qc (s) _) _) _)⟩
   .obtain⟨eL,HEL⟩:∃z,Hid (evT N x.2 V e.1=z):=⟨_,rfl⟩
    obtain⟨eR,HER⟩:∃z,Hid (evT N x.2 V e.2=z):=⟨_,rfl⟩;obtain⟨bb,HBB⟩:∃b,Hid (((eL:Int) !=(eR:Int))=b):=⟨_,rfl⟩;have HIV:=zaa (q4n.1 K.out);have U:Hid (∀y∈V,0<=y/\y<=x.1 - 1):=fun y hy=>by have:=HIV.out y hy;rw[Z.out];exact this
    have HVL1:Hid (∀v∈e.1,v<(V.length:Int)):=fun v i=>by rw[L.out];have:=HVL0.out v i;rw[C.out]at this;exact this
    have HVR1:Hid (∀v∈e.2,v<(V.length:Int)):=fun v i=>by rw[L.out];have:=HVR0.out v i;rw[C.out]at this;exact this
    have u:Hid (q45 N x.2 e.1 e.2 V=bb):=by
     show _=_
     unfold q45;rw[K.out,r.out,C.out,L.out,HEL.out,HER.out,<-HBB.out,zbm rfl,zdt,zdt];rw[zcd,zbt,bne_iff_ne];exact⟨fun h hh=>h (by omega),fun h hh=>h (by omega)⟩
    have rV:=HV.out wr TT;have HC1:Hid (∀a,Below wr.heap.size wr a->Calls Tryz.prog 160 #[.agg #[.int .i64 (N:Int),.slice B m d],.slice S t cL,.slice J E X] a (Bl a (.int .i64 (eL:Int)))):=fun a j=>by
     have:=q5k _ x S J t cL E X e.1 V a (H1.out a (q9 TT j rfl)) HX.out (HLL.out a (q9 TT j rfl)) (rV.next qd j) F.out HVL1.out U.out;rw[aa.out,HEL.out,Z.out]at this;exact this
    have HC2:Hid (∀a,Below wr.heap.size wr a->Calls Tryz.prog 160 #[.agg #[.int .i64 (N:Int),.slice B m d],.slice T D cR,.slice J E X] a (Bl a (.int .i64 (eR:Int)))):=fun a j=>by
     have:=q5k _ x T J D cR E X e.2 V a (H1.out a (q9 TT j rfl)) HX.out (HR.out a (q9 TT j rfl)) (rV.next qd j) G.out HVR1.out U.out;rw[aa.out,HER.out,Z.out]at this;exact this
    have g:Below wr.heap.size wr wr:=zab _ _;clear rV r7;go_upto_region 5 with fail
    go_region_held3 (fun w'=>w'.cell? ⟨w.heap.size,0,none⟩=some (.int .i64 (N:Int))/\w'.cell? ⟨w.heap.size,1,none⟩=some (.slice B m d)/\w'.cell? ⟨w.heap.size+1,0,none⟩=some (.slice S t cL)/\w'.cell? ⟨w.heap.size+1,1,none⟩=some (.slice T D cR)) (first|go_keep|exact⟨qe g dP0,qe g dP1,qe g dQ0,qe g dQ1⟩) (first
     |(go_at_call 160;(with_reducible refine(HC1.out _ ?_).mono ?_);(first|exact g|exact zai g|exact qc (zab _ _) _|exact qc g _);rintro e1 wn ⟨rfl,hbn⟩;replace g:=q9 (by first|exact g|exact zai g|exact qc (zab _ _) _|exact qc g _) hbn rfl)
     |(go_at_call 160;(with_reducible refine(HC2.out _ ?_).mono ?_);(first|exact g|exact zai g|exact qc (zab _ _) _|exact qc g _);rintro e1 wn ⟨rfl,hbn⟩;replace g:=q9 (by first|exact g|exact zai g|exact qc (zab _ _) _|exact qc g _) hbn rfl)
     |(go_at_call 115;(refine(Y.out _ ?_).mono ?_);(first|exact g|exact zai g|exact qc (zab _ _) _|exact qc g _);rintro e1 wn ⟨rfl,zn,rfl⟩))
    all_goals
     go_wp2_with fail;go_ret;exact⟨qg (by rw[u.out,<-HBB.out]),q9 s (by first|exact g|exact zai g) rfl⟩
def StTo (n:Nat) (ops:List OpM) (L:List Bool) (k q y:Nat):Prop:=∃j o i,ops[j]?=some o/\(j<k\/(j=k/\i<q))/\i<o.2.length/\AllM n o.1.toNat i L=true/\nmAt o.2 i=y
structure StI (n:Nat) (ops:List OpM) (L M:List Bool) (k q:Nat):Prop where
 len:M.length=n
 val:∀y,y<n->(gB M y=true↔gB L y=true\/StTo n ops L k q y)
theorem StI.start {n:Nat} {ops:List OpM} {L:List Bool} (h:L.length=n):StI n ops L L 0 0:=⟨h,fun y b=>⟨.inl,fun a=>a.elim id fun⟨j,o,i,_,h,_⟩=>by omega⟩⟩
theorem StI.skip {n:Nat} {ops:List OpM} {L M:List Bool} {k q:Nat} {o:OpM} (h:StI n ops L M k q) (m:ops[k]?=some o) (l:AllM n o.1.toNat q L=false):StI n ops L M k (q+1):=⟨h.len,fun y p=>by
 rw[h.val y p];refine or_congr Iff.rfl ⟨fun⟨j,d,i,a,f,b⟩=>⟨j,d,i,a,by omega,b⟩,fun⟨j,d,i,a,f,b,c,g⟩=>⟨j,d,i,a,?_,b,c,g⟩⟩
 by_cases e:j=k/\i=q
 .obtain⟨rfl,rfl⟩:=e
  rw[m]at a;injection a with a
  subst a;rw[l]at c;cases c
 .omega⟩
theorem StI.mark {n:Nat} {ops:List OpM} {L M:List Bool} {k q v:Nat} {o:OpM} (h:StI n ops L M k q) (l:ops[k]?=some o) (m:o.2[q]?=some (v:Int)) (c:v<n) (s:AllM n o.1.toNat q L=true):StI n ops L (M.set v true) k (q+1):=⟨by rw[zcn];exact h.len,fun y u=>by
 rw[qdg (by rw[h.len];exact c)];have g:nmAt o.2 q=v:=by rw[q1t m];simp
 have t:=(zag.1 m).1
 by_cases e:y=v
 .subst e
  rw[zao rfl];exact⟨fun _=>.inr ⟨k,o,q,l,.inr ⟨rfl,by omega⟩,t,s,g⟩,fun _=>rfl⟩
 .rw[zaj e,h.val y u]
  refine or_congr Iff.rfl ⟨fun⟨j,d,i,a,p,b⟩=>⟨j,d,i,a,by omega,b⟩,fun⟨j,d,i,a,p,b,r,f⟩=>⟨j,d,i,a,?_,b,r,f⟩⟩
  by_cases e2:j=k/\i=q
  .obtain⟨rfl,rfl⟩:=e2
   rw[l]at a;injection a with a
   subst a;exact absurd (f.symm.trans g) e
  .omega⟩
theorem StI.next {n:Nat} {ops:List OpM} {L M:List Bool} {k q:Nat} {o:OpM} (h:StI n ops L M k q) (g:ops[k]?=some o) (m:¬q<o.2.length):StI n ops L M (k+1) 0:=⟨h.len,fun y l=>by
 rw[h.val y l];refine or_congr Iff.rfl ⟨fun⟨j,c,i,a,d,b⟩=>⟨j,c,i,a,by omega,b⟩,fun⟨j,c,i,a,d,b,f⟩=>⟨j,c,i,a,?_,b,f⟩⟩
 by_cases e:j=k
 .subst e
  rw[g]at a;injection a with a
  subst a;omega
 .omega⟩
theorem StI.done {n:Nat} {ops:List OpM} {L M:List Bool} {k q:Nat} (h:StI n ops L M k q) (m:¬k<ops.length):M=stL n ops L:=by
 refine qj8 (n:=n) h.len (qg8 _ _ _) fun y e=>?_
 rw[qct e,zcd,zef,q3p,h.val y e];refine or_congr Iff.rfl ⟨fun⟨j,o,i,f,l,a,b,c⟩=>⟨o,zaf f,i,a,b,c⟩,fun⟨o,g,i,a,b,c⟩=>?_⟩;obtain⟨j,d⟩:=zbh g;have:=(zag.1 d).1;exact⟨j,o,i,d,.inl (by omega),a,b,c⟩
theorem qm2 (A:Option Addr) (m c n:Nat) (S:List Int) (w:World) (h:RdL RI w A m S) (hS:∀v∈S,0<=v/\v<=(n:Int) - 1) (N:n<=1000):
  Calls Tryz.prog 164 #[.int .i64 n,.slice A m c] w fun e w'=>e=.returned (.slice (some ⟨w.heap.size,0,none⟩) n n)/\w'.ownsRow w.heap.size 4 1 (.slice (some ⟨w.heap.size,0,none⟩) n n) n (bls (inL n S))/\Below w.heap.size w w':=by
 have D:=zaa hS;have C:=zaa h.len;have H:=h.le;clear hS
 go_enter Tryz.func164,Tryz.ntmps164
 go_wp2_with (at_make;refine qa1 w rfl _ _ rfl n rfl rfl (by omega) ?_;intro O d l)
 have j:=(zab w.heap.size w).grown l (zad _) (by simp);clear l
 go_loopw [6] (fun i wr=>∃k:Nat,k<=m/\i=.int .i64 k/\wr.ownsRow w.heap.size 4 1 (.slice (some ⟨w.heap.size,0,none⟩) n n) n (bls (inL n (S.take k)))/\Below w.heap.size w wr) (fun i _=>m - (intOf i).toNat)
 case atStart=>
  refine⟨0,zah _,rfl,?_,j⟩;have e:inL n (S.take 0)=List.replicate n false:=by
   unfold inL;rw[zc4];exact List.eq_replicate_iff.2 ⟨by simp,fun b E=>by obtain⟨y,-,rfl⟩:=zb6.1 E;rfl⟩
  rw[e];exact d
 case round=>
  clear d j;obtain⟨k,M,rfl,a,f⟩:=hrel
  by_cases hlt:k<m
  .have G:(0:Int)<=(k:Int):=by omega
   have s:(k:Int)<(m:Int):=by omega
   obtain⟨b,o,u,v,rfl,B,⟨rfl,I,J⟩,-,z⟩:=h.at hlt;have t:=D.out v (zaf z);obtain⟨x,rfl⟩:=zam t.1;have q:x<n:=by omega
   have g:=zaa (qc5 z q);replace B:=qe f B;have r:wr.cell? ⟨w.heap.size,x,none⟩=some (.bool (gB (inL n (S.take k)) x)):=by rw[a.cellAt x (by omega),q64 (by rw[q5f];exact q)]
   have F:=a.frozenAt x;have p:=(a.stored x (.bool true)).1;rw[q78,g.out]at p;have K:(0:Int)<=(x:Int):=by omega
   have L:(x:Int)<(n:Int):=by omega
   clear z a;go_wp2_with fail
   go_roundw
   case rel=>exact⟨k+1,by omega,by go_num,p,f.setCell (zad _) _⟩
   case measure=>simp[intOf];try omega
  .have s:¬(k:Int)<(m:Int):=by omega
   rw[zaq (by rw[C.out];omega)]at a;go_wp2_with fail;go_ret;exact⟨rfl,a,f⟩
theorem qi6 (cs:List Value) (x:qi) (A:Option Addr) (n c:Nat) (L:List Bool) (w:World) (h:qf.rd w cs x) (hx:AlgP x) (hn:x.1=(n:Int)) (hr:RdL RB w A n L):
  Calls Tryz.prog 165 #[.agg cs.toArray,.slice A n c] w fun e w'=>∃A' c',e=.returned (.slice A' n c')/\w'.ownsRow w.heap.size 4 1 (.slice A' n c') n (bls (stL n x.2 L))/\Below w.heap.size w w':=by
 obtain⟨a,C⟩:=x;obtain⟨hx1,hx2,X,K⟩:=hx;simp only at hx1 hx2 X K hn;subst hn;rw[za1]at K;have V:0<n:=by omega
 have hn8:n<=8:=by omega
 obtain⟨B,m,d,rfl,-,qo⟩:=qv h;have HML:=zaa qo.len;have HOPS:=zaa K;have hm4:m<=4:=by rw[<-qo.len];exact X
 have HLL:=zaa hr.len;obtain⟨u,hw0,T0,hsz0,BP⟩:=q16 w #[.int .i64 (n:Int),.slice B m d] 24;have HW0:=zaa hw0;replace qo:=qo.next T0;have r0:=hr.next qai T0;obtain⟨cP0,S⟩:=cl2 BP;have T:=qm u (.cells #[] 4);have r1:=r0.next qai T;have hO:(u.alloc (.cells #[] 4)).ownsRow u.heap.size 4 1 (.slice (some ⟨u.heap.size,0,none⟩) 0 0) 0 []:=zby u #[] 0 (zad _) (zah _) rfl;clear hw0 hsz0 X K h hr
 go_enter Tryz.func165,Tryz.ntmps165
 go_upto_region 1 with fail;rw[<-HW0.out]
 go_wp2_with (at_builtin;refine qiw (R:=RB) _ rfl _ _ 146 4 rfl (.bool false) 1 Tryz.underlying146 qjd rfl (by decide) u.heap.size 0 0 _ [] rfl hO A n c L (fun b=>.bool b) (fun _=>rfl) rfl r1 (fun _ _ _ hr=>hr) (by omega) (by simp) ?_;intro A5 c5 w5 t U hb5)
 rw[show 0+n=n from zcm n,zch]at t;obtain⟨g5,rfl,-,-⟩:=q2b t V;have T5:=T.trans hb5;clear hO r1 T hb5 U;go_wp2_with fail
 go_loopw [6] (fun i wr=>∃(k:Nat) (M:List Bool),k<=m/\i=.int .i64 k/\Hid (StI n C L M k 0)/\wr.ownsRow u.heap.size 4 1 (.slice (some ⟨g5,0,none⟩) n c5) n (bls M)/\Below u.heap.size u wr) (fun i _=>m - (intOf i).toNat)
 case atStart=>exact⟨0,L,zah _,rfl,StI.start HLL.out,t,T5⟩
 case round=>
  clear t T5;obtain⟨k,M,hk,rfl,O,r,j⟩:=hrel;have E:=qe j S
  by_cases hlt:k<m
  .have hk0:(0:Int)<=(k:Int):=by omega
   have hk1:(k:Int)<(m:Int):=by omega
   obtain⟨b,o,vs,op,rfl,-,hc,hrr,-,Y⟩:=qo.at hlt;obtain⟨B',N,d',rfl,-,qt⟩:=rdOp hrr;have J:=HOPS.out op (zaf Y);obtain⟨f,tb,rfl,har⟩:=q7z J;have Q:=zaa Y;have HTL:Hid (N=n ^ f):=by show _=_;rw[<-qt.len];have:=J.2.2.1;simpa using this
   have HTB:Hid (tb.length=N):=qt.len;have HTV:=zaa J.2.2.2;have hm512:N<=4096:=by rw[HTL.out];exact q3n hn8 (by omega)
   have cc0:u.cell? ⟨b,o+k*2,none⟩=some (.int .i64 (f:Int)):=hc 0 _ rfl;have cc1:u.cell? ⟨b,o+k*2+1,none⟩=some (.slice B' N d'):=hc 1 _ rfl;clear hc hrr Y J;go_wp2_with fail;clear E
   go_loopw [7] (fun i wr=>∃(q:Nat) (M:List Bool),q<=N/\i=.int .i64 q/\Hid (StI n C L M k q)/\wr.ownsRow u.heap.size 4 1 (.slice (some ⟨g5,0,none⟩) n c5) n (bls M)/\Below u.heap.size u wr) (fun i _=>N - (intOf i).toNat)
   case atStart=>exact⟨0,M,zah _,rfl,O,r,j⟩
   case round=>
    clear r O j;obtain⟨q,M,hq,rfl,O,r,j⟩:=hrel;have kP0:=qe j cP0;have E:=qe j S;have kc0:=qe j cc0;have kc1:=qe j cc1
    by_cases hlq:q<N
    .have hq0:(0:Int)<=(q:Int):=by omega
     have hq1:(q:Int)<(N:Int):=by omega
     have HA:Hid (∀wz,Below wr.heap.size wr wz->Calls Tryz.prog 116 #[.int .i64 (n:Int),.int .i64 (f:Int),.int .i64 (q:Int)] wz fun e w'=>∃g,e=.returned (.slice (some ⟨g,0,none⟩) f f)/\w'.ownsRow wz.heap.size 3 1 (.slice (some ⟨g,0,none⟩) f f) f (ints (nats (digs n f q)))/\Below wz.heap.size wz w'):=fun wz hz=>q4w q f n wz V (by omega) (by omega) (by omega)
     have F:Below wr.heap.size wr wr:=zab _ _;go_upto_region 8 with fail
     go_cut [8]from 32 to 69 (fun u8 wx=>∃g,u8=.slice (some ⟨g,0,none⟩) f f/\wx.ownsRow wr.heap.size 3 1 (.slice (some ⟨g,0,none⟩) f f) f (ints (nats (digs n f q)))/\Below wr.heap.size wr wx)
     case first=>
      go_region_held3 (fun w'=>w'.cell? ⟨w.heap.size,0,none⟩=some (.int .i64 (n:Int))/\w'.cell? ⟨w.heap.size,1,none⟩=some (.slice (some ⟨b,o,none⟩) m d)/\w'.cell? ⟨b,o+k*2,none⟩=some (.int .i64 (f:Int))) (first|go_keep|exact⟨qe F kP0,qe F E,qe F kc0⟩) (first
       |(go_at_call 116;(with_reducible refine(HA.out _ ?_).mono ?_);(first|exact F|exact zai F);rintro e wn ⟨g,rfl,hon,hbn⟩;replace F:=q9 (by first|exact F|exact zai F) hbn rfl))
      all_goals
       have HON:=zaa hon;clear hon;go_wp2_with fail;go_meet;exact⟨g,rfl,HON.out,by first|exact F|exact zai F⟩
     case rest=>
      obtain⟨g,rfl,hoA,hTc⟩:=hcut;obtain⟨w9,HWC⟩:∃wq:World,wq=wc:=⟨_,rfl⟩;subst HWC;have s:=ql r hTc;have T9:=q9 j hTc rfl;have rL:=r0.next qai T9;obtain⟨H,G⟩:∃l,Hid (digs n f q=l):=⟨_,rfl⟩;have HDN:Hid (∀dd∈H,dd<n):=fun dd hdd=>by rw[<-G.out]at hdd;exact q2u V hdd
      have HDL:Hid (H.length=f):=by show _=_;rw[<-G.out,q2d]
      rw[G.out]at hoA;clear kP0 E kc0 kc1 r;go_wp2_with fail
      go_loop [9,10] (fun al kk=>∃p:Nat,p<=f/\kk=.int .i64 p/\al=.bool ((H.take p).all (gB L))) (fun _ kk=>f - (intOf kk).toNat)
      case atStart=>exact⟨0,zah _,rfl,rfl⟩
      case round=>
       obtain⟨p,hp,rfl,rfl⟩:=hrel;obtain⟨al,P⟩:∃z,Hid ((H.take p).all (gB L)=z):=⟨_,rfl⟩;rw[P.out]
       by_cases hlp:p<f
       .have hp0:(0:Int)<=(p:Int):=by omega
        have hp1:(p:Int)<(f:Int):=by omega
        have hpl:p<H.length:=by rw[HDL.out];exact hlp
        have I:H[p]?=some H[p]:=zae hpl;have hdn:=HDN.out _ (zcu hpl)
        generalize H[p]=dd at I hdn
        have hcd:w9.cell? ⟨g,p,none⟩=some (.int .i64 (dd:Int)):=by
         rw[hoA.cellAt p (by omega)];unfold ints nats;rw[za6,za6,I];rfl
        obtain⟨bb,bo,uu,bv,rfl,hcb,rfl,-,hxb⟩:=rL.at hdn;have HTK:Hid ((H.take (p+1)).all (gB L)=(al &&bv)):=by
         show _=_
         rw[zbj,I,List.all_append,P.out,<-q7q hxb];simp
        have hd0:(0:Int)<=(dd:Int):=by omega
        have hd1:(dd:Int)<(n:Int):=by omega
        clear I hxb
        rcases al with _|_
        all_goals
         go_wp2_with fail
         go_round
         case rel=>exact⟨p+1,by omega,by go_num,by rw[HTK.out];rfl⟩
         case measure=>simp[intOf];try omega
       .obtain rfl:p=f:=by omega
        have hp1:¬(p:Int)<(p:Int):=by omega
        have HAM:Hid (AllM n p q L=al):=by
         show _=_
         unfold AllM;rw[G.out,<-P.out,zaq (by rw[HDL.out];exact zad _)]
        obtain⟨b3,o3,u3,v,rfl,hc3,⟨rfl,-,-⟩,-,Z⟩:=(qt.next qd T9).at hlq;have hvi:=HTV.out v (zaf Z);obtain⟨y,rfl⟩:=zam hvi.1;have hyn:y<n:=by omega
        have HXV:=zaa Z;have hll:=O.out.len;have hcell:w9.cell? ⟨g5,y,none⟩=some (.bool (gB M y)):=by rw[s.cellAt y (by omega),q64 (by omega)]
        have hy0:(0:Int)<=(y:Int):=by omega
        have hy1:(y:Int)<(n:Int):=by omega
        have hfz:=s.frozenAt y;have W:=(s.stored y (.bool true)).1;rw[q78]at W;have HST:=zaa W;have U:=(s.lt g5 rfl).1;have E:=qe T9 S;have kc1:=qe T9 cc1;clear W Z
        rcases al with _|_
        .have D:Hid (StI n C L M k (q+1)):=O.out.skip Q.out (by simpa using HAM.out)
         go_wp2_with fail
         go_roundw
         case rel=>exact⟨q+1,M,by omega,by go_num,D,s,T9⟩
         case measure=>simp[intOf];try omega
        .have D:Hid (StI n C L (M.set y true) k (q+1)):=O.out.mark Q.out HXV.out hyn (by simpa using HAM.out)
         go_wp2_with fail
         go_roundw
         case rel=>exact⟨q+1,M.set y true,by omega,by go_num,D,HST.out,T9.setCell U _⟩
         case measure=>simp[intOf];try omega
    .have hq1:¬(q:Int)<(N:Int):=by omega
     have D:Hid (StI n C L M (k+1) 0):=O.out.next Q.out (by have:=HTB.out;simp only;omega);go_wp2_with fail
     go_roundw
     case rel=>exact⟨k+1,M,by omega,by go_num,D,r,j⟩
     case measure=>simp[intOf];try omega
  .have hk1:¬(k:Int)<(m:Int):=by omega
   have HD:Hid (M=stL n C L):=O.out.done (by rw[HML.out];exact hlt);have hz0:=T0.size;go_wp2_with fail;go_ret;exact⟨_,c5,rfl,by rw[<-HD.out];exact qh r hz0,q9 T0 j rfl⟩
theorem q7d (cs:List Value) (x:qi) (A:Option Addr) (m c:Nat) (S:List Int) (w:World) (h:qf.rd w cs x) (l:AlgP x) (X:RdL RI w A m S) (hS:∀v∈S,0<=v/\v<=x.1 - 1):
  Calls Tryz.prog 106 #[.agg cs.toArray,.slice A m c] w (OwI w (genL x.1.toNat x.2 S)):=by
 have D:=h;obtain⟨B,k,d,rfl,-,qo⟩:=qv h;obtain⟨n,K⟩:∃n:Nat,x.1=(n:Int):=⟨x.1.toNat,by have:=l.1;omega⟩;have M:=zaa K;have hn8:n<=8:=by have:=l.2.1;omega
 have T:0<n:=by have:=l.1;omega
 have q:Hid (x.1.toNat=n):=by show _=_;omega
 obtain⟨G,F,I,E,W⟩:=q16 w #[.int .i64 x.1,.slice B k d] 24;have t:=zaa F;have r:Hid (∀V,Below G.heap.size G V->qf.rd V [.int .i64 x.1,.slice B k d] x):=fun V hz=>qf.stab (qf.stab D I.block) hz.block
 rw[K]at t W hS r;obtain⟨O,P⟩:=cl2 W;have HX:=zaa l;have HS:=zaa hS;have Z:=zaa (qm2 A m c n S G (X.next qd I) HS.out (by omega));have HV:Hid (∀o∈x.2,∀v∈o.2,0<=v/\v<=(n:Int) - 1):=fun o ho=>by have:=(l.2.2.2 o ho).2.2.2;rw[q.out]at this;exact this
 rw[q.out];rw[K];clear F E D qo h l X hS K
 go_enter Tryz.func106,Tryz.ntmps106
 go_upto_region 1 with fail;rw[<-t.out];go_wp2_with fail;refine Z.out.mono ?_;rintro e w1 ⟨rfl,C,u⟩;have r1:=q14 (R:=RB) C (fun z _=>rfl);clear C;go_wp2_with fail
 go_loopw [5,6] (fun s i wr=>∃(j:Nat) (p:Option Addr) (J:Nat),j<=n+1/\i=.int .i64 j/\s=.slice p n J/\RdL RB wr p n (stN n x.2 j (inL n S))/\Below G.heap.size G wr) (fun _ i _=>n+1 - (intOf i).toNat)
 case atStart=>exact⟨0,_,_,zah _,rfl,rfl,r1,u⟩
 case round=>
  clear r1 u;obtain⟨j,p,J,hj,rfl,rfl,f,a⟩:=hrel;have kP0:=qe a O;have U:=qe a P
  by_cases hlt:j<n+1
  .have Q:(j:Int)<=(n:Int):=by omega
   have H:=zaa (qi6 _ x p n J _ wr (r.out _ a) HX.out M.out f);clear f;go_wp2_with fail;refine H.out.mono ?_;rintro e w2 ⟨L,N,rfl,b,g⟩;have r6:=q14 (R:=RB) b (fun z _=>rfl);clear b;go_wp2_with fail
   go_roundw
   case rel=>exact⟨j+1,L,N,by omega,by go_num,rfl,r6,q9 a g rfl⟩
   case measure=>simp[intOf];try omega
  .obtain rfl:j=n+1:=by omega
   have Q:¬((n+1:Nat):Int)<=(n:Int):=by omega
   have Y:Hid (q1n n (gB (stN n x.2 (n+1) (inL n S)))=genL n x.2 S):=q1x fun y hy=>qpg T (q5f _ _) HV.out hy
   have H:=zaa (qi5 p n J _ wr f (by omega));rw[Y.out]at H;clear f U;go_wp2_with fail;refine H.out.mono ?_;rintro e w2 ⟨L,N,rfl,b,g⟩;go_wp2_with fail;go_ret;exact⟨L,N,rfl,qh b (zbb I.size a.size),q9 I (q9 a g rfl) rfl⟩
theorem q7v (cs:List Value) (x:qi) (A:Option Addr) (m c:Nat) (S:List Int) (w:World) (h:qf.rd w cs x) (D:AlgP x) (Z:RdL RI w A m S):
  Calls Tryz.prog 161 #[.agg cs.toArray,.slice A m c] w (Bl w (.bool (subB x.1.toNat x.2 S))):=by
 have u:=h;obtain⟨B,k,d,rfl,-,qo⟩:=qv h;obtain⟨n,F⟩:∃n:Nat,x.1=(n:Int):=⟨x.1.toNat,by have:=D.1;omega⟩;have K:=zaa F;have hn8:n<=8:=by have:=D.2.1;omega
 have hn0:0<n:=by have:=D.1;omega
 have i:Hid (x.1.toNat=n):=by show _=_;omega
 obtain⟨G,C,E,y,W⟩:=q16 w #[.int .i64 x.1,.slice B k d] 24;have o:=zaa C;have j:Hid (∀V,Below G.heap.size G V->qf.rd V [.int .i64 x.1,.slice B k d] x):=fun V hz=>qf.stab (qf.stab u E.block) hz.block
 rw[F]at o W j;obtain⟨cP0,cP1⟩:=cl2 W;have HX:=zaa D;have T:=Z.next qd E;have X:=zaa (q8u A m c S 0 ((n:Int) - 1) G T);obtain⟨Y,a⟩:∃b,Hid ((q1v 0 ((n:Int) - 1) S &&q20 S)=b):=⟨_,rfl⟩;rw[a.out]at X;have L:Hid (subB n x.2 S=(Y &&decide ((genL n x.2 S).length=S.length))):=by show _=_;unfold subB;rw[a.out]
 rw[i.out];rw[F];clear C y u qo h D Z F
 go_enter Tryz.func161,Tryz.ntmps161
 go_upto_region 1 with fail;rw[<-o.out];go_wp2_with fail;refine X.out.mono ?_;rintro e w1 ⟨rfl,z,rfl⟩
 rcases Y with _|_
 .go_wp2_with fail
  go_ret;exact⟨qg (by rw[L.out];rfl),qc E z⟩
 have q:=a.out;rw[za4]at q;have s:∀v∈S,0<=v/\v<=x.1 - 1:=fun v Q=>by rw[K.out];exact q4n.1 q.1 v Q
 have f:=zaa (qp0 (n:=n) (ops:=x.2) (fun v Q=>q4n.1 q.1 v Q) q.2);have I:=zaa (q7d _ x A m c S (G.drewN z) (j.out _ (qc (zab _ _) z)) HX.out (T.drewN qd z) s);rw[i.out]at I;have g:=zaa (qo0 (n:=n) (ops:=x.2) (S:=S) (by omega));obtain⟨p,J⟩:∃l,Hid (genL n x.2 S=l):=⟨_,rfl⟩;rw[J.out]at I L g f;clear s q;go_wp2_with fail;refine I.out.mono ?_;rintro e U ⟨A2,c2,rfl,t,r⟩;have r2:=q14 (R:=RI) t (q1o g.out);have T2:=q9 E ((qc (zab _ _) z).trans r) rfl;have M:=zaa (q3z A2 A p.length m c2 c p S U r2 (T.next qd ((qc (zab _ _) z).trans r)));clear t;go_wp2_with fail;refine M.out.mono ?_;rintro e w3 N;have O:e=.returned (.bool (eqL p S))/\Below U.heap.size U w3:=by
  first
   |(obtain⟨rfl,rfl⟩:=N;exact⟨rfl,zab _ _⟩)
   |(obtain⟨rfl,z3,rfl⟩:=N;exact⟨rfl,qc (zab _ _) z3⟩)
 obtain⟨rfl,P⟩:=O;have H:Hid (eqL p S=decide (p.length=S.length)):=by
  show _=_
  rw[zcd,zbt,f.out];exact q89
 clear N;go_wp2_with fail;go_ret;exact⟨qg (by rw[L.out,H.out];rfl),q9 T2 P rfl⟩
theorem qhx (cs:List Value) (x:qi) (A:Option Addr) (m c:Nat) (S:List Int) (w:World) (h:qf.rd w cs x) (s:AlgP x) (z:RdL RI w A m S):
  Calls Tryz.prog 102 #[.agg cs.toArray,.slice A m c] w (Bl w (.tuple #[.bool (subB x.1.toNat x.2 S),.bool true])):=by
 have l:=h;obtain⟨B,k,d,rfl,-,F⟩:=qv h;obtain⟨t,o,q,n,C⟩:=q16 w #[.int .i64 x.1,.slice B k d] 24;have p:=zaa o;have f:Hid (∀u,Below t.heap.size t u->qf.rd u [.int .i64 x.1,.slice B k d] x):=fun u E=>qf.stab (qf.stab l q.block) E.block
 obtain⟨i,j⟩:=cl2 C;have D:=zaa s;have G:=z.next qd q;have y:=zaa (q4x _ x t (f.out _ (zab _ _)));rw[q40.2 s]at y;obtain⟨I,g⟩:∃b,Hid (subB x.1.toNat x.2 S=b):=⟨_,rfl⟩;rw[g.out];clear o n l F h s z
 go_enter Tryz.func102,Tryz.ntmps102
 go_upto_region 1 with fail;rw[<-p.out];go_wp2_with fail;refine y.out.mono ?_;rintro e H ⟨rfl,a⟩;replace i:=qe a i;replace j:=qe a j;have v:=zaa (q7v _ x A m c S H (f.out _ a) D.out (G.next qd a));rw[g.out]at v;go_wp2_with fail;refine v.out.mono ?_;rintro e J ⟨rfl,r⟩;go_wp2_with fail
 go_ret2
 exact⟨rfl,q9 q (q9 a r rfl) rfl⟩
theorem qm4 (cs:List Value) (x:qi) (A:Option Addr) (m c:Nat) (f:List Int) (w:World) (h:qf.rd w cs x) (v:AlgP x) (K:RdL RI w A m f):
  Calls Tryz.prog 107 #[.agg cs.toArray,.agg cs.toArray,.slice A m c] w (Bl w (.bool (homB x.1.toNat x.2 f))):=by
 have r:=h;obtain⟨B,k,d,rfl,-,qo⟩:=qv h;obtain⟨n,R⟩:∃n:Nat,x.1=(n:Int):=⟨x.1.toNat,by have:=v.1;omega⟩;have D:=zaa R;have p:Hid (x.1.toNat=n):=by show _=_;omega
 obtain⟨L,t,u,s,U,V⟩:=q1p w #[.int .i64 x.1,.slice B k d] #[.int .i64 x.1,.slice B k d] 24 24;have G:=zaa t;have q:Hid (∀M,Below L.heap.size L M->qf.rd M [.int .i64 x.1,.slice B k d] x):=fun M Z=>qf.stab (qf.stab r u.block) Z.block
 obtain⟨i,j⟩:=cl2 U;obtain⟨l,o⟩:=cl2 V;have X:=zaa v;have y:=zaa K.len;have T:=K.next qd u;have C:=zaa (qjp _ x A m c f L (q.out _ (zab _ _)) v T);rw[p.out]at C;rw[p.out];obtain⟨Q,g⟩:∃z,Hid (mpB n f=z):=⟨_,rfl⟩;rw[g.out]at C;have E:Hid (homB n x.2 f=(Q &&tt (HomP n x.2 f))):=by show _=_;unfold homB;rw[<-g.out];rfl
 clear t s qo h r v K R
 go_enter Tryz.func107,Tryz.ntmps107
 go_upto_region 1 with fail;rw[<-G.out];go_wp2_with fail;refine C.out.mono ?_;rintro e w1 ⟨rfl,a⟩;have N:=kk4 a i j l o;clear i j l o;obtain⟨i,j,l,o⟩:=N
 rcases Q with _|_
 .go_wp2_with fail
  go_ret;exact⟨qg (by rw[E.out];rfl),q9 u a rfl⟩
 have I:=qk0.1 g.out;have J:m=n:=by rw[<-y.out];exact I.1
 subst J;have W:=zaa (qfm _ x A m c f w1 (q.out _ a) X.out D.out (T.next qd a) I);clear I;go_wp2_with fail;refine W.out.mono ?_;rintro e w2 ⟨v1,v2,b,rfl,S,H⟩;have O:=zaa S;clear S;have P:=q9 u (q9 a H rfl) rfl
 rcases b with _|_
 .have F:=zaa (q6i (O.out.1 rfl))
  go_wp2_with fail;go_ret;exact⟨qg (by rw[E.out,<-F.out];rfl),P⟩
 .have F:=zaa (q2g (fun Y=>absurd (O.out.2 Y) (by decide)))
  go_wp2_with fail;go_ret;exact⟨qg (by rw[E.out,<-F.out];rfl),P⟩
theorem qm3 (cs:List Value) (x:qi) (A:Option Addr) (m c:Nat) (p:List Int) (w:World) (h:qf.rd w cs x) (r:AlgP x) (H:RdL RI w A m p):
  Calls Tryz.prog 104 #[.agg cs.toArray,.slice A m c] w (Bl w (.bool (q3q x.1.toNat x.2 p))):=by
 have i:=h;obtain⟨B,k,d,rfl,-,Z⟩:=qv h;obtain⟨n,q⟩:∃n:Nat,x.1=(n:Int):=⟨x.1.toNat,by have:=r.1;omega⟩;have u:=zaa q;have v:Hid (x.1.toNat=n):=by show _=_;omega
 have X:n<=8:=by have:=r.2.1;omega
 obtain⟨b,l,o,j,K⟩:=q16 w #[.int .i64 x.1,.slice B k d] 24;have g:=zaa l;have f:Hid (∀J,Below b.heap.size b J->qf.rd J [.int .i64 x.1,.slice B k d] x):=fun J Y=>qf.stab (qf.stab i o.block) Y.block
 rw[q]at g K f;obtain⟨V,W⟩:=cl2 K;have T:=zaa r;have t:=zaa H.len;have I:=H.next qd o;have L:=zaa (q68 A n m c p b I (by omega));obtain⟨N,a⟩:∃z,Hid (tt (ParP n p)=z):=⟨_,rfl⟩;rw[a.out]at L;have y:Hid (q3q n x.2 p=(N &&tt (q4d n x.2 p))):=by show _=_;unfold q3q;rw[a.out]
 rw[v.out];rw[q];clear l j Z h i r H q
 go_enter Tryz.func104,Tryz.ntmps104
 go_upto_region 1 with fail;rw[<-g.out];go_wp2_with fail;refine L.out.mono ?_;rintro e w1 ⟨rfl,z,rfl⟩
 rcases N with _|_
 .go_wp2_with fail
  go_ret;exact⟨qg (by rw[y.out];rfl),qc o z⟩
 have G:=q3p.1 a.out;have F:m=n:=by rw[<-t.out];exact G.1
 subst F;have R:=zaa (qi9 _ x A m c p (b.drewN z) (f.out _ (qc (zab _ _) z)) T.out u.out (I.drewN qd z) G);clear G;go_wp2_with fail;refine R.out.mono ?_;rintro e O ⟨Q,U,P,rfl,r2,D,E⟩;have M:Below b.heap.size b O:=(qc (zab _ _) z).trans E;have C:=zaa (q3z Q A m m U c P p O r2 (I.next qd M));have S:Hid (eqL P p=tt (q4d m x.2 p)):=by
  show _=_
  rw[zcd,q3p,q89];exact⟨D.back,D.same⟩
 rw[S.out]at C;obtain⟨b2,s⟩:∃z,Hid (tt (q4d m x.2 p)=z):=⟨_,rfl⟩;rw[s.out]at C y;clear D r2;go_wp2_with fail;refine C.out.mono ?_;rintro e w3 ⟨rfl,z3,rfl⟩;go_wp2_with fail;go_ret;exact⟨qg (by rw[y.out];rfl),qc (q9 o M rfl) z3⟩
theorem q9y (cs ds:List Value) (x:qi) (f:q12) (w:World) (h:qf.rd w cs x) (h':qj.rd w ds f) (hx:AlgP x):
  Calls Tryz.prog 58 #[.agg cs.toArray,.agg ds.toArray] w (Bl w (.bool (q1l x f))):=by
 have hrd:=h;obtain⟨B,k,d,rfl,-,qo⟩:=qv h;obtain⟨AL,nL,cL,AR,nR,cR,F,A,Q,rfl,-,rL,rR,rV⟩:=q1u h';obtain⟨i,⟨L,R⟩,V⟩:=f;simp only at rL rR rV;obtain⟨n,hN⟩:∃n:Nat,x.1=(n:Int):=⟨x.1.toNat,by have:=hx.1;omega⟩;have j:Hid (x.1.toNat=n):=by show _=_;omega
 have hn8:n<=8:=by have:=hx.2.1;omega
 have hn1:1<=n:=by have:=hx.1;omega
 obtain⟨K,hw0,J,hsz0,BP,BQ⟩:=q1p w #[.int .i64 x.1,.slice B k d] #[.int .i64 i,.slice AL nL cL,.slice AR nR cR,.slice F A Q] 24 57;have I:=zaa hw0;have N:Hid (∀g,Below K.heap.size K g->qf.rd g [.int .i64 x.1,.slice B k d] x):=fun g t=>qf.stab (qf.stab hrd J.block) t.block
 have ad:=rL.next qd J;have ae:=rR.next qd J;have af:=rV.next qd J;have H2:Hid (∀g,Below K.heap.size K g->qu.rd g [.slice AL nL cL,.slice AR nR cR] ((L,R):q1a)):=fun g t=>q22 (ad.next qd t) (ae.next qd t)
 have u:Hid (∀g,Below K.heap.size K g->RdL RI g F A V):=fun g t=>af.next qd t
 have hle:=ad.le;have hle2:=ae.le;have hle3:=af.le;have HLV:=zaa rV.len;have U:=zaa hx;have HLL:=zaa rL.len;have HLR:=zaa rR.len;obtain⟨m,p⟩:=cl2 BP;obtain⟨ac,q,r,E⟩:=cl4 BQ;obtain⟨ne,HNE⟩:∃b,Hid (noEq (L,R)=b):=⟨_,rfl⟩;have D:Hid (q1l x (i,(L,R),V)=if i=1 then q7r n x.2 L R &&decide (A=0)else if i=2 then askB n x.2 L R &&q45 n x.2 L R V else ne &&(if i=3 then subB n x.2 V else if i=4 then q3q n x.2 V else if i=5 then genB n x.2 V else if i=6 then homB n x.2 V else false)):=by
  show _=_
  unfold q1l;simp only;rw[j.out,HNE.out,HLV.out]
 obtain⟨S,C⟩:∃b,Hid (askB n x.2 L R=b):=⟨_,rfl⟩;have G:Hid (∀g,Below K.heap.size K g->Calls Tryz.prog 98 #[.agg #[.int .i64 x.1,.slice B k d],.agg #[.slice AL nL cL,.slice AR nR cR]] g (Bl g (.bool S))):=fun g t=>by
  have:=qfk _ _ x (L,R) g (N.out g t) (H2.out g t) U.out;rw[j.out]at this;simp only at this
  rwa [C.out]at this
 rw[hN]at BP I m;rw[hN];clear hw0 hsz0 hrd qo h h' hx rL rR rV ad ae af
 by_cases h1:i=1
 .subst h1
  have a:Hid (q1l x (1,(L,R),V)=(q7r n x.2 L R &&decide (A=0))):=by show _=_;rw[D.out,zao rfl]
  rw[hN]at G N;clear D
  rcases T:decide (A=0)with _|_
  .have hd3:=q4p T
   rw[T,zd9]at a;clear T
   go_enter Tryz.func58,Tryz.ntmps58
   go_upto_region 1 with fail;rw[<-I.out];go_wp2_with fail;go_ret;exact⟨qg a.out.symm,J⟩
  .have hd3:=q4p T
   rw[T,Bool.and_true]at a;clear T
   go_enter Tryz.func58,Tryz.ntmps58
   go_upto_region 1 with fail;rw[<-I.out];go_wp2_with fail;refine(G.out _ (zab _ _)).mono ?_;rintro e s ⟨rfl,c⟩;have M:=kk4 c m p q r;clear m p q r;obtain⟨m,p,q,r⟩:=M
   rcases S with _|_
   .have HH:Hid (q7r n x.2 L R=false):=by show _=_;unfold q7r;rw[C.out];rfl
    go_wp2_with fail;go_ret;exact⟨qg (by rw[a.out,HH.out]),q9 J c rfl⟩
   .have o:=zaa (qfl _ _ x (L,R) s (N.out _ c) (H2.out _ c) U.out (by rw[j.out];exact C.out))
    rw[j.out]at o;simp only at o;have HH:Hid (q7r n x.2 L R=tt (q62 n x.2 L R)):=by show _=_;unfold q7r;rw[C.out];rfl
    obtain⟨hb,HHB⟩:∃b,Hid (tt (q62 n x.2 L R)=b):=⟨_,rfl⟩;rw[HHB.out]at o HH;go_wp2_with fail;refine o.out.mono ?_;rintro e w2 ⟨rfl,y⟩;go_wp2_with fail;go_ret;exact⟨qg (by rw[a.out,HH.out]),q9 J (q9 c y rfl) rfl⟩
 by_cases h2:i=2
 .subst h2
  have a:Hid (q1l x (2,(L,R),V)=(S &&q45 n x.2 L R V)):=by show _=_;rw[D.out,zaj (by decide),zao rfl,C.out]
  rw[hN]at G N;clear D h1
  go_enter Tryz.func58,Tryz.ntmps58
  go_upto_region 1 with fail;rw[<-I.out];go_wp2_with fail;refine(G.out _ (zab _ _)).mono ?_;rintro e s ⟨rfl,c⟩;have M:=kk5 c m p q r E;clear m p q r E;obtain⟨m,p,q,r,E⟩:=M
  rcases S with _|_
  .go_wp2_with fail
   go_ret;exact⟨qg (by rw[a.out];rfl),q9 J c rfl⟩
  .have o:=zaa (qdo _ _ x (L,R) F A Q V s (N.out _ c) (H2.out _ c) (u.out _ c) U.out (by rw[j.out];exact C.out))
   rw[j.out]at o;simp only at o;obtain⟨fb,HFB⟩:∃b,Hid (q45 n x.2 L R V=b):=⟨_,rfl⟩;rw[HFB.out]at o a;go_wp2_with fail;refine o.out.mono ?_;rintro e w2 ⟨rfl,y⟩;go_wp2_with fail;go_ret;exact⟨qg (by rw[a.out];rfl),q9 J (q9 c y rfl) rfl⟩
 have e1:(i==1)=false:=zbi.2 h1;have e2:(i==2)=false:=zbi.2 h2;have HT2:Hid (q1l x (i,(L,R),V)=(ne &&(if i=3 then subB n x.2 V else if i=4 then q3q n x.2 V else if i=5 then genB n x.2 V else if i=6 then homB n x.2 V else false))):=by show _=_;rw[D.out,zaj h1,zaj h2]
 have HNQ:=zaa (q9x _ (L,R) K (H2.out _ (zab _ _)));rw[HNE.out]at HNQ;rw[hN]at N;clear D h1 h2 G
 go_enter Tryz.func58,Tryz.ntmps58
 go_upto_region 1 with fail;rw[<-I.out];go_wp2_with fail;refine HNQ.out.mono ?_;rintro e s ⟨rfl,c⟩;have O:=q9 J c rfl;have M:=kk6 c m p ac q r E;clear m p ac q r E;obtain⟨m,p,ac,q,r,E⟩:=M
 rcases ne with _|_
 .have a:Hid (q1l x (i,(L,R),V)=false):=by show _=_;rw[HT2.out];rfl
  go_wp2_with fail;go_ret;exact⟨qg a.out.symm,O⟩
 have H:Hid (q1l x (i,(L,R),V)=(if i=3 then subB n x.2 V else if i=4 then q3q n x.2 V else if i=5 then genB n x.2 V else if i=6 then homB n x.2 V else false)):=by show _=_;rw[HT2.out];rfl
 by_cases W:i=3
 .subst W
  have a:Hid (q1l x (3,(L,R),V)=subB n x.2 V):=by show _=_;rw[H.out,zao rfl]
  have o:=zaa (qhx _ x F A Q V s (N.out _ c) U.out (u.out _ c));rw[j.out]at o;obtain⟨b,HB⟩:∃b,Hid (subB n x.2 V=b):=⟨_,rfl⟩;rw[HB.out]at o a;clear e1 e2;go_wp2_with fail;refine o.out.mono ?_;rintro e w2 ⟨rfl,y⟩;go_wp2_with fail;go_ret;exact⟨qg a.out.symm,q9 O y rfl⟩
 by_cases h4:i=4
 .subst h4
  have a:Hid (q1l x (4,(L,R),V)=q3q n x.2 V):=by show _=_;rw[H.out,zaj (by decide),zao rfl]
  have HP:=zaa (q68 F n A Q V s (u.out _ c) (by omega));obtain⟨pb,HPB⟩:∃b,Hid (tt (ParP n V)=b):=⟨_,rfl⟩;rw[HPB.out]at HP;have Y:Hid (pb=false->q3q n x.2 V=false):=fun h=>by unfold q3q;rw[HPB.out,h];rfl
  clear e1 e2 W;go_wp2_with fail;refine HP.out.mono ?_;rintro e w2 ⟨rfl,z,rfl⟩
  rcases pb with _|_
  .have HCF:Hid (q3q n x.2 V=false):=Y.out rfl
   clear Y;go_wp2_with fail;go_ret;exact⟨qg (by rw[a.out];exact HCF.out.symm),qc O z⟩
  .clear Y
   have Tz:Below K.heap.size K (s.drewN z):=qc c z;have o:=zaa (qm3 _ x F A Q V (s.drewN z) (N.out _ Tz) U.out (u.out _ Tz));rw[j.out]at o;obtain⟨b,HB⟩:∃b,Hid (q3q n x.2 V=b):=⟨_,rfl⟩;rw[HB.out]at o a;go_wp2_with fail;refine o.out.mono ?_;rintro e w3 ⟨rfl,hb3⟩;go_wp2_with fail;go_ret;exact⟨qg a.out.symm,q9 J (q9 Tz hb3 rfl) rfl⟩
 have T:(i==3)=false:=zbi.2 W;have e4:(i==4)=false:=zbi.2 h4
 by_cases h5:i=5
 .subst h5
  have a:Hid (q1l x (5,(L,R),V)=genB n x.2 V):=by show _=_;rw[H.out,zaj (by decide),zaj (by decide),zao rfl]
  obtain⟨b1,X⟩:∃b,Hid ((q1v 0 ((n:Int) - 1) V &&q20 V)=b):=⟨_,rfl⟩;have Z:Hid (genB n x.2 V=(b1 &&decide ((genL n x.2 V).length=n))):=by show _=_;unfold genB;rw[X.out]
  have ab:Hid (∀g,Below s.heap.size s g->Calls Tryz.prog 105 #[.slice F A Q,.int .i64 0,.int .i64 ((n:Int) - 1)] g (Qt g (.bool b1))):=fun g t=>by
   have:=q8u F A Q V 0 ((n:Int) - 1) g (u.out g (q9 c t rfl))
   rwa [X.out]at this
  obtain⟨gl,aa⟩:∃l,Hid (genL n x.2 V=l):=⟨_,rfl⟩;have hgl:gl.length<=8:=by rw[<-aa.out];exact zbb (q3t _ _) hn8
  have hw1:IntKind.i64.wrap ((n:Int) - 1)=(n:Int) - 1:=by rw[zde];omega
  rw[aa.out]at Z;clear e1 e2 T e4 W h4
  rcases b1 with _|_
  .go_wp2_with fail
   go_quiet ((go_at_call 105;first|exact q1k (ab.out _ (by first|exact zab _ _|exact qc (zab _ _) _))|exact q1e (ab.out _ (by first|exact zab _ _|exact qc (zab _ _) _))))
   go_wp2_with fail;go_ret;exact⟨qg (by rw[a.out,Z.out];rfl),(by first|exact O|exact qc (O) _|exact qc (qc (O) _) _|exact qc (qc (qc (O) _) _) _)⟩
  .have hb:=X.out
   rw[za4]at hb;have HGT:Hid (∀g,Below s.heap.size s g->Calls Tryz.prog 106 #[.agg #[.int .i64 (n:Int),.slice B k d],.slice F A Q] g (OwI g gl)):=fun g t=>by
    have:=q7d _ x F A Q V g (N.out g (q9 c t rfl)) U.out (u.out g (q9 c t rfl)) (fun v hv=>by have:=q4n.1 hb.1 v hv;have h2:=j.out;have W:=U.out.1;omega);rw[j.out,aa.out]at this;exact this
   have KP0:Hid (∀g,Below s.heap.size s g->g.cell? ⟨w.heap.size,0,none⟩=some (.int .i64 (n:Int))):=fun g t=>qe t m
   have P:Below s.heap.size s s:=zab _ _;clear hb;go_wp2_with fail
   go_region_law (first
    |(go_simp;go_at_call 105;(with_reducible refine(ab.out _ ?_).mono ?_);(first|exact P|exact qc P _);rintro e wb ⟨rfl,zb,rfl⟩)
    |(go_simp;go_at_call 106;(with_reducible refine(HGT.out _ ?_).mono ?_);(first|exact P|exact qc P _);rintro e wc ⟨A5,c5,rfl,-,hb5⟩;replace P:=q9 (by first|exact P|exact qc P _) hb5 rfl;have cR0:=KP0.out _ P))
   all_goals
    go_wp2_with fail;go_ret;exact⟨qg (by rw[a.out,Z.out,zdt,zcd];simp;try omega),q9 O (by first|exact P|exact qc P _) rfl⟩
 have e5:(i==5)=false:=zbi.2 h5
 by_cases h6:i=6
 .subst h6
  have a:Hid (q1l x (6,(L,R),V)=homB n x.2 V):=by show _=_;rw[H.out,zaj (by decide),zaj (by decide),zaj (by decide),zao rfl]
  have o:=zaa (qm4 _ x F A Q V s (N.out _ c) U.out (u.out _ c));rw[j.out]at o;obtain⟨b,HB⟩:∃b,Hid (homB n x.2 V=b):=⟨_,rfl⟩;rw[HB.out]at o a;clear e1 e2 T e4 e5 W h4 h5;go_wp2_with fail;refine o.out.mono ?_;rintro e w2 ⟨rfl,y⟩;go_wp2_with fail;go_ret;exact⟨qg a.out.symm,q9 O y rfl⟩
 have e6:(i==6)=false:=zbi.2 h6;have a:Hid (q1l x (i,(L,R),V)=false):=by show _=_;rw[H.out,zaj W,zaj h4,zaj h5,zaj h6]
 clear W h4 h5 h6;go_wp2_with fail;go_ret;exact⟨qg a.out.symm,O⟩
theorem qlk {α:Type} {S:Sh α} {E:TypeId} {w:World} {v:Value} {xs:List α} {a:List Nat} (h:(Sh.rows S E).own w [v] xs a):∀B n c,v=.slice B n c->n<=c:=by
 obtain⟨k,d,bls,e,P,-⟩:=h;injection e with e _
 subst e;intro B n c e
 rcases P.row.2 with⟨e',i⟩|⟨g,b,f,e',-,-,j,-⟩
 .rw[e]at e'
  injection e' with _ e2 e3
  omega
 .rw[e]at e'
  injection e' with _ e2 e3
  omega
def qge (cs:List Value):Prop:=∀F n c,cs[3]?=some (.slice F n c)->n<=c
theorem q7l {w:World} {cs:List Value} {x:LabM} {d:List Nat} (h:q19.own w cs x d):qge cs:=by
 obtain⟨f,_,_,_,rfl,-,⟨_,rfl,-⟩,⟨g,i,_,_,rfl,-,⟨_,_,_,_,rfl,-,⟨_,rfl,-⟩,⟨k,_,_,rfl,-⟩⟩,⟨j,_,_,_,rfl,-,b,-⟩⟩⟩:=h;have a:=b;obtain⟨v,_,_,rfl,-⟩:=a;intro F n c e;simp at e;exact qlk b F n c e
theorem qao (cs:List Value) (x:LabM) (w:World) (h:q19.rd w cs x) (a:qge cs):Calls Tryz.prog 41 #[.agg cs.toArray] w (Bl w (.bool (labB x))):=
 qc4 (fun cs b x f w h c d=>q8s cs b x f w h c (q40.1 d)) cs x w h a
theorem qfh (cs:List Value) (x:LabM) (w:World) (h:q19.rd w cs x):Calls Tryz.prog 34 #[.agg cs.toArray] w (Bl w (.bool (labB x))):=
 qen (fun cs a x f w h b c=>q9y cs a x f w h b (q40.1 c)) cs x w h
theorem q69 {x:LabM} (h:labB x=true):0<=x.2.2.2/\x.2.2.2<=9999/\x.2.2.1.length<=12/\(x.1=true->AlgP x.2.1):=by
 have a:x.2.2.1.length<=12:=by
  by_cases hc:x.2.2.1.length<=12
  .exact hc
  .rw[qds hc]at h;cases h
 have b:0<=x.2.2.2:=by
  by_cases hc:x.2.2.2<0
  .rw[qfo hc]at h;cases h
  .omega
 have c:x.2.2.2<=9999:=by
  by_cases hc:9999<x.2.2.2
  .rw[qfn hc]at h;cases h
  .omega
 refine⟨b,c,a,fun d=>?_⟩;rw[q7w b c d,za4,za4]at h;exact q40.1 h.1.1
def q1d (x:q12):Nat:=1+x.2.1.1.length+x.2.1.2.length+x.2.2.length
def q75 (k:Int) (x:q12):q12:=(k,(nums (k+1) x.2.1.1.length,nums (k+1+x.2.1.1.length) x.2.1.2.length),nums (k+1+x.2.1.1.length+x.2.1.2.length) x.2.2.length)
def q4z (x:LabM):Nat:=q1g x.2.1+cntS q1d x.2.2.1
def qid (k:Int) (x:LabM):LabM:=(x.1,q6c k x.2.1,mkL q75 q1d (k+q1g x.2.1) x.2.2.1,x.2.2.2)
theorem qcc (v:Value) (xs:List q12) (bl:List Nat) (k0:Int) (w:World) (h:(Sh.rows qj 57).own w [v] xs bl) (hnd:bl.Nodup) (h0:0<=k0) (h1:k0+cntS q1d xs<=4611686018427387904):
  Calls Tryz.prog 51 #[v,.int .i64 k0] w (MkE (Sh.rows qj 57) w [v] (mkL q75 q1d k0 xs) bl (k0+cntS q1d xs)):=by
 obtain⟨v',css0,bls,e,R,rfl⟩:=h;injection e with e _
 subst e;obtain⟨A,c,rfl⟩:=qq R.row;have hnl:=q6v R.row;unfold maxLen at hnl;have aa:=zaa hnd;clear hnd
 go_enter Tryz.func51,Tryz.ntmps51
 go_wp2
 go_loopw [1,5] (fun q i wr=>∃(j:Nat) (k:Int) (ys:List q12) (d:List (List Value)),j<=xs.length/\i=.int .i64 j/\q=.int .i64 k/\MkAt q75 q1d k0 xs ys j k/\Parts qj 57 wr (.slice A xs.length c) ys d bls/\ChgB (obl (.slice A xs.length c)++bls.flatten) w wr) (fun _ i _=>xs.length - (intOf i).toNat)
 case atStart=>exact⟨0,k0,xs,css0,zah _,rfl,rfl,MkAt.start _ _,R,ChgB.refl _ _⟩
 case round=>
  clear R;obtain⟨j,k,ys,d,hj,rfl,rfl,HM,N,CH⟩:=hrel;have U:ys.length=xs.length:=HM.2.2.1
  by_cases hlt:j<xs.length
  .have hd:xs.drop j=xs[j]::xs.drop (j+1):=zbd hlt
   generalize xs[j]=x at hd
   obtain⟨hyj,hk0,hk1⟩:=HM.left hd;have HS:=zaa (HM.step hd);obtain⟨g,cap,hv⟩:=N.slice (by omega:j<ys.length);injection hv with hA hn2 l
   subst hA;clear hn2 l;have hl1:=N.l1;have hl2:=N.l2;have n:d[j]?=some (d[j]'(by omega)):=zae (by omega);have t:bls[j]?=some (bls[j]'(by omega)):=zae (by omega)
   generalize d[j]'(by omega)=cj at n
   generalize bls[j]'(by omega)=bk at t
   have ho:=N.el j cj x bk n hyj t;obtain⟨c0,c1,b0,b1,rfl,rfl,O0,⟨cE,cS,bE,y,rfl,rfl,⟨cL,cR,D,E,rfl,rfl,OL,OR⟩,W⟩⟩:=ho;obtain⟨_,rfl,⟨rfl,lo0,hi0⟩,rfl⟩:=O0;obtain⟨_,rfl,B,J,F,rfl,-⟩:=(Sh.il 3).ord OL;obtain⟨_,rfl,C,K,G,rfl,-⟩:=(Sh.il 3).ord OR;obtain⟨_,rfl,L,O,M,rfl,-⟩:=(Sh.il 3).ord W;have T:=qch aa.out (g:=g) rfl;have S:∀b∈(D++E)++y,b∈bls.flatten:=fun b f=>zbp.2 ⟨_,zaf t,by simpa using f⟩
   have Y:=qp5 aa.out t;have V:((D++E)++y).Nodup:=by simpa using Y
   have gL:g∉D:=fun u=>T (S g (by simp[u]))
   have gR:g∉E:=fun u=>T (S g (by simp[u]))
   have gS:g∉y:=fun u=>T (S g (by simp[u]))
   have dLR:=nd_x (nd_l V);have dRL:=nd_y (nd_l V);have dLS:∀z∈D,z∉y:=fun z hz=>nd_x V z (zba _ hz)
   have dRS:∀z∈E,z∉y:=fun z hz=>nd_x V z (zay _ hz)
   have dSL:∀z∈y,z∉D:=fun z hz u=>dLS z u hz
   have dSR:∀z∈y,z∉E:=fun z hz u=>dRS z u hz
   have hmb:j*4+4<=xs.length*4:=by omega
   have s:=N.row;rw[U]at s;have r:=N.all;have q0:j*4<xs.length*qj.m:=by show _<_*4;omega
   have q1:j*4+1<xs.length*qj.m:=by show _<_*4;omega
   have q2:j*4+2<xs.length*qj.m:=by show _<_*4;omega
   have q3:j*4+3<xs.length*qj.m:=by show _<_*4;omega
   have F0:d.flatten[j*4]?=some (.int .i64 x.1):=by have:=q26 r j 0 (by decide);rw[n]at this;exact this
   have F1:d.flatten[j*4+1]?=some (.slice B J F):=by have:=q26 r j 1 (by decide);rw[n]at this;exact this
   have F2:d.flatten[j*4+2]?=some (.slice C K G):=by have:=q26 r j 2 (by decide);rw[n]at this;exact this
   have F3:d.flatten[j*4+3]?=some (.slice L O M):=by have:=q26 r j 3 (by decide);rw[n]at this;exact this
   have cc0:wr.cell? ⟨g,j*4,none⟩=some (.int .i64 x.1):=(s.cellAt _ q0).trans F0;have cc1:wr.cell? ⟨g,j*4+1,none⟩=some (.slice B J F):=(s.cellAt _ q1).trans F1;have ff0:wr.frozen? ⟨g,j*4,none⟩=false:=s.frozenAt _;obtain⟨w1,o⟩:∃wb,wb=wr.setCell ⟨g,j*4,none⟩ (.int .i64 k):=⟨_,rfl⟩;have a:w1.ownsRow 0 57 qj.m (.slice (some ⟨g,0,none⟩) xs.length c) xs.length (d.flatten.set (j*4) (.int .i64 k)):=by rw[o];exact(s.stored (j*4) (.int .i64 k)).1
   replace OL:(Sh.il 3).own w1 [.slice B J F] x.2.1.1 D:=by rw[o];exact Sh.oset' (p:=⟨g,j*4,none⟩) OL gL _
   replace OR:(Sh.il 3).own w1 [.slice C K G] x.2.1.2 E:=by rw[o];exact Sh.oset' (p:=⟨g,j*4,none⟩) OR gR _
   replace W:(Sh.il 3).own w1 [.slice L O M] x.2.2 y:=by rw[o];exact Sh.oset' (p:=⟨g,j*4,none⟩) W gS _
   have P:ChgB (g::((D++E)++y)) wr w1:=by rw[o];exact ChgB.set (p:=⟨g,j*4,none⟩) (za2 ..) _
   have E1:(d.flatten.set (j*4) (.int .i64 k))[j*4+1]?=some (.slice B J F):=q3b F1 (by omega);have E2:(d.flatten.set (j*4) (.int .i64 k))[j*4+2]?=some (.slice C K G):=q3b F2 (by omega);have E3:(d.flatten.set (j*4) (.int .i64 k))[j*4+3]?=some (.slice L O M):=q3b F3 (by omega);obtain⟨fl,HFL⟩:∃fl,Hid (d.flatten.set (j*4) (.int .i64 k)=fl):=⟨_,rfl⟩;rw[HFL.out]at a E1 E2 E3;have HE1:=zaa E1;have HE2:=zaa E2;have HE3:=zaa E3;have HBJ:=zaa t;have HP:=zaa N;have HYL:=zaa U;have hj0:(0:Int)<=(j:Int):=by omega
   have hj1:(j:Int)<(xs.length:Int):=by omega
   have hmc:q1d x=1+x.2.1.1.length+x.2.1.2.length+x.2.2.length:=rfl;clear hd HM N U n t hyj s F0 F1 F2 F3 E1 E2 E3 Y;go_wp2_with fail;rw[<-o];clear o cc0 cc1 ff0;refine(q2c _ x.2.1.1 D (k+1) w1 OL (by omega) (by omega)).mono ?_;rintro e w2 ⟨rfl,PL,l⟩;replace a:=q7h a l (fun b f=>by injection f with f;subst f;exact gL);replace P:=P.trans (l.mono fun b f=>zaw _ (by simp[f]));replace OR:=Sh.ochg OR l dRL;replace W:=Sh.ochg W l dSL;have cc2:w2.cell? ⟨g,j*4+2,none⟩=some (.slice C K G):=(a.cellAt _ q2).trans HE2.out;clear l;go_wp2_with fail;clear cc2;refine(q2c _ x.2.1.2 E (k+1+x.2.1.1.length) w2 OR (by omega) (by omega)).mono ?_;rintro e w3 ⟨rfl,PR,H⟩;replace a:=q7h a H (fun b f=>by injection f with f;subst f;exact gR);replace P:=P.trans (H.mono fun b f=>zaw _ (by simp[f]));replace PL:=Sh.ochg PL H dLR;replace W:=Sh.ochg W H dSR;have cc3:w3.cell? ⟨g,j*4+3,none⟩=some (.slice L O M):=(a.cellAt _ q3).trans HE3.out;clear H;go_wp2_with fail;clear cc3;refine(q2c _ x.2.2 y (k+1+x.2.1.1.length+x.2.1.2.length) w3 W (by omega) (by omega)).mono ?_;rintro e w4 ⟨rfl,PS,I⟩;replace a:=q7h a I (fun b f=>by injection f with f;subst f;exact gS);replace P:=P.trans (I.mono fun b f=>zaw _ (by simp[f]));replace PL:=Sh.ochg PL I dLS;replace PR:=Sh.ochg PR I dRS;clear I;have Z:fl=q3o d.flatten (j*qj.m) [.int .i64 k,.slice B J F,.slice C K G,.slice L O M]:=by
    show _=(((d.flatten.set (j*4) (.int .i64 k)).set (j*4+1) (.slice B J F)).set (j*4+1+1) (.slice C K G)).set (j*4+1+1+1) (.slice L O M)
    rw[HFL.out,q3v HE1.out,q3v HE2.out,q3v HE3.out]
   rw[Z]at a;have X:w4.ownsRow 0 57 qj.m (.slice (some ⟨g,0,none⟩) xs.length c) ys.length (q3o d.flatten (j*qj.m) [.int .i64 k,.slice B J F,.slice C K G,.slice L O M]):=by rw[HYL.out];exact a
   have hkr:InR k:=⟨by omega,by omega⟩;have Q:=HP.out.put aa.out HBJ.out (c':= [.int .i64 k,.slice B J F,.slice C K G,.slice L O M]) (x':=q75 k x) X ⟨[.int .i64 k], [.slice B J F,.slice C K G,.slice L O M], [],(D++E)++y,rfl,rfl,⟨_,rfl,⟨rfl,hkr.1,hkr.2⟩,rfl⟩,⟨[.slice B J F,.slice C K G], [.slice L O M],D++E,y,rfl,rfl,⟨[.slice B J F], [.slice C K G],D,E,rfl,rfl,PL,PR⟩,PS⟩⟩
    (fun b f hn=>P.block b (HP.out.lt b (zay _ f)) (fun u=>by
     rcases zbq.1 u with rfl|u
     .exact T f
     .exact hn (by simpa using u)))
   have CH2:=CH.trans (P.mono fun b f=>by
    rcases zbq.1 f with rfl|f
    .exact zba _ (q1h.2 rfl)
    .exact zay _ (S b f))
   clear Z a X P PL PR PS;have HPP':=zaa Q;clear Q;go_wp2_with fail
   go_roundw
   case rel=>exact⟨j+1,_,_,_,by omega,by go_num,rfl,by rw[show k+1+((x.2.1.1.length:Nat):Int)+((x.2.1.2.length:Nat):Int)+((x.2.2.length:Nat):Int)=k+q1d x from by rw[hmc];omega];exact HS.out,HPP'.out,CH2⟩
   case measure=>simp[intOf];omega
  .have hj':j=xs.length:=by omega
   obtain⟨rfl,hk⟩:=HM.done (zbe (by omega));have HK:=zaa hk;have Q:=zaa N;clear N hk U;have hlt':¬(j:Int)<(xs.length:Int):=by omega
   clear hj';go_wp2_with fail;go_ret;exact⟨q11 HK.out,⟨_,d,bls,rfl,Q.out,rfl⟩,CH⟩
theorem qc3 (A:Option Addr) (n c:Nat) (xs:List q12) (g:Int) (w:World) (h:RdN qj.m qj.rd w A n (mkL q75 q1d g xs)) (h0:0<=g) (h1:g+cntS q1d xs<=4611686018427387904):
  Calls Tryz.prog 55 #[.slice A n c,.int .i64 g] w (Bl w (.int .i64 (g+cntS q1d xs))):=by
 have ad:=h.le;have u:xs.length=n:=by rw[<-qcf q75 q1d g xs];exact h.len
 have p:=zaa u;clear u
 go_enter Tryz.func55,Tryz.ntmps55
 go_wp2
 go_loopw [1,5] (fun q i wr=>∃(j:Nat) (k:Int),j<=n/\i=.int .i64 j/\q=.int .i64 k/\HkAt q75 q1d g xs j k/\Below w.heap.size w wr) (fun _ i _=>n - (intOf i).toNat)
 case atStart=>exact⟨0,g,zah _,rfl,rfl,HkAt.start _ _,zab _ _⟩
 case round=>
  obtain⟨j,k,hj,rfl,rfl,B,E⟩:=hrel;have Y:=h.next E
  by_cases hlt:j<n
  .have I:j<xs.length:=by rw[p.out];exact hlt
   have hd:xs.drop j=xs[j]::xs.drop (j+1):=zbd I
   generalize xs[j]=x at hd
   obtain⟨t,ab,ac⟩:=B.left hd;have X:=zaa (B.step hd);obtain⟨b,o,vs,y,rfl,-,s,S,-,z⟩:=Y.at hlt;rw[t]at z;injection z with z
   subst z;obtain⟨L,T,O,M,U,P,N,V,Q,rfl,q0,qL,K,v⟩:=q1u S;have C:wr.cell? ⟨b,o+j*4,none⟩=some (.int .i64 k):=s 0 _ rfl;have D:wr.cell? ⟨b,o+j*4+1,none⟩=some (.slice L T O):=s 1 _ rfl;have l:wr.cell? ⟨b,o+j*4+2,none⟩=some (.slice M U P):=s 2 _ rfl;have d:wr.cell? ⟨b,o+j*4+3,none⟩=some (.slice N V Q):=s 3 _ rfl;have J:q1d x=1+x.2.1.1.length+x.2.1.2.length+x.2.2.length:=rfl;have ae:(k !=k)=false:=by simp
   have Z:(0:Int)<=(j:Int):=by omega
   have aa:(j:Int)<(n:Int):=by omega
   clear s hd t S;go_wp2_with fail;refine(q6p L T O x.2.1.1 (k+1) wr qL (by omega) (by omega)).mono ?_;rintro e w1 ⟨rfl,a⟩;have n1:¬k+1+(x.2.1.1.length:Int)<0:=by omega
   replace l:=qe a l;replace d:=qe a d;have F:=q9 E a rfl;replace K:=K.next qd a;replace v:=v.next qd a;clear C D a;go_wp2_with fail;refine(q6p M U P x.2.1.2 (k+1+x.2.1.1.length) w1 K (by omega) (by omega)).mono ?_;rintro e w2 ⟨rfl,f⟩;have n2:¬k+1+(x.2.1.1.length:Int)+(x.2.1.2.length:Int)<0:=by omega
   replace d:=qe f d;have G:=q9 F f rfl;replace v:=v.next qd f;clear l f;go_wp2_with fail;refine(q6p N V Q x.2.2 (k+1+x.2.1.1.length+x.2.1.2.length) w2 v (by omega) (by omega)).mono ?_;rintro e w3 ⟨rfl,r⟩;have n3:¬k+1+(x.2.1.1.length:Int)+(x.2.1.2.length:Int)+(x.2.2.length:Int)<0:=by omega
   have H:=q9 G r rfl;clear d r;go_wp2_with fail
   go_roundw
   case rel=>exact⟨j+1,_,by omega,by go_num,rfl,by rw[show k+1+((x.2.1.1.length:Nat):Int)+((x.2.1.2.length:Nat):Int)+((x.2.2.length:Nat):Int)=k+q1d x from by rw[J];omega];exact X.out,H⟩
   case measure=>simp[intOf];omega
  .have W:=zaa (B.done (zbe (by rw[p.out];omega)))
   have R:¬(j:Int)<(n:Int):=by omega
   go_wp2_with fail;go_ret;exact⟨q11 W.out,E⟩
theorem qfp (cs:List Value) (x:LabM) (r:List Nat) (c:Int) (w:World) (h:q19.own w cs x r) (z:r.Nodup) (J:0<=c) (X:c+q4z x<=4611686018427387904):
  Calls Tryz.prog 19 #[.agg cs.toArray,.int .i64 c] w (MkE q19 w cs (qid c x) r (c+q4z x)):=by
 obtain⟨R,S,N,O,rfl,rfl,F,⟨U,T,i,P,rfl,rfl,g,⟨V,W,j,Q,rfl,rfl,d,G⟩⟩⟩:=h;obtain⟨_,rfl,rfl,rfl⟩:=F;obtain⟨_,rfl,⟨rfl,A,y⟩,rfl⟩:=G;obtain⟨f,n,k,rfl,-⟩:=(Sh.rows qj 57).ord d;obtain⟨o,B,s,rfl,-⟩:=qv (qf.ord g);have L:q4z x=q1g x.2.1+cntS q1d x.2.2.1:=rfl;have a:(i++j).Nodup:=by simpa using z
 obtain⟨M,m,q,C,E⟩:=q16 w #[.bool x.1,.int .i64 x.2.1.1,.slice o B s,.slice f n k,.int .i64 x.2.2.2] 27;have t:∀b∈i,b<w.heap.size:=qf.olt g;replace g:=Sh.onext g q;replace d:=Sh.onext d q
 go_enter Tryz.func19,Tryz.ntmps19
 go_wp2_with fail;rw[<-m];clear m;refine(q6a _ x.2.1 i c M g (nd_l a) J (by omega)).mono ?_;rintro e D ⟨rfl,p,v⟩;replace d:=Sh.ochg d v (nd_y a);have I:D.cell? ⟨w.heap.size,3,none⟩=some (.slice f n k):=by
  rw[zb9 (v.block w.heap.size (by omega) (fun K=>by have:=t _ K;omega))];exact E.cell 3
 go_wp2_with fail;clear I;refine(qcc _ x.2.2.1 j (c+q1g x.2.1) D d (nd_r a) (by omega) (by omega)).mono ?_;rintro e Y ⟨rfl,H,l⟩;replace p:=Sh.ochg p l (nd_x a);go_wp2_with fail;go_ret;refine⟨q11 (by omega),⟨[.bool x.1], [.int .i64 x.2.1.1,.slice o B s,.slice f n k,.int .i64 x.2.2.2], [],i++(j++ []),rfl,rfl,⟨_,rfl,rfl,rfl⟩,⟨[.int .i64 x.2.1.1,.slice o B s], [.slice f n k,.int .i64 x.2.2.2],i,j++ [],rfl,rfl,p,⟨[.slice f n k], [.int .i64 x.2.2.2],j, [],rfl,rfl,H,⟨_,rfl,⟨rfl,A,y⟩,rfl⟩⟩⟩⟩,((ChgB.ofBelow q).trans (v.mono fun b u=>by simp[u])).trans (l.mono fun b u=>by simp[u])⟩
theorem q9p (cs:List Value) (x:LabM) (a:Int) (w:World) (h:q19.rd w cs (qid a x)) (u:0<=a) (D:a+q4z x<=4611686018427387904):
  Calls Tryz.prog 21 #[.agg cs.toArray,.int .i64 a] w (Bl w (.int .i64 (a+q4z x))):=by
 obtain⟨j,p,f,i,q,n,rfl,A,y,z,G⟩:=q3j h;have v:q4z x=q1g x.2.1+cntS q1d x.2.2.1:=rfl;obtain⟨r,d,k,o,s⟩:=q16 w #[.bool x.1,.int .i64 x.2.1.1,.slice j p f,.slice i q n,.int .i64 x.2.2.2] 27;have B:=q2o (x:=q6c a x.2.1) (cOps:=f) A (y.next k)
 go_enter Tryz.func21,Tryz.ntmps21
 go_wp2_with fail;have b:w.alloc (.cells #[.bool (qid a x).1,.int .i64 (qid a x).2.1.1,.slice j p f,.slice i q n,.int .i64 (qid a x).2.2.2] 27)=r:=d.symm;rw[b];clear b d;refine(q9o _ x.2.1 a r B u (by omega)).mono ?_;rintro e C ⟨rfl,c⟩;have l:=q9 k c rfl;have m:=(s.next c).cell 3;simp at m;have E:¬a+(q1g x.2.1:Int)<0:=by omega
 go_wp2_with fail;clear m;refine(qc3 _ _ _ x.2.2.1 (a+q1g x.2.1) C (z.next l) (by omega) (by omega)).mono ?_;rintro e H ⟨rfl,g⟩;have t:=q9 l g rfl;have F:¬a+(q1g x.2.1:Int)+(cntS q1d x.2.2.1:Int)<0:=by omega
 go_wp2_with fail;go_ret;exact⟨q11 (by omega),t⟩
theorem qjq {x:LabM} (h:q19.cnt x<=1048576):qf.cnt x.2.1<=1048576/\qf.cnt x.2.1+(x.2.2.1.length+cntS qj.cnt x.2.2.1)<=1048576:=by
 have a:(0+((qf.cnt x.2.1)+((x.2.2.1.length+cntS qj.cnt x.2.2.1)+0)))<=1048576:=h;omega
theorem qic {x:LabM} (h:q19.cnt x<=1048576):q4z x<=4194304:=by
 have b:=qjq h;have:∀l:List q12,cntS q1d l=l.length+cntS qj.cnt l:=fun l=>by
  induction l with
  |nil=>rfl
  | cons y l ih =>
    rw [q1j, q1j, ih, za0];show (1 + y.2.1.1.length + y.2.1.2.length + y.2.2.length) + _ = _ + ((0 + ((y.2.1.1.length + y.2.1.2.length) + y.2.2.length)) + _)
    omega
 have c:=qas b.1;have a:q1g x.2.1<=qf.cnt x.2.1:=by
  have:∀l:List OpM,cntS mcOp l=l.length+cntS shOp.cnt l:=fun l=>by
   induction l with
   |nil=>rfl
   | cons y l ih =>
     rw [q1j, q1j, ih, za0];show 1 + y.2.length + _ = _ + ((0 + y.2.length) + _)
     omega
  unfold q1g;rw[this];show _<=0+(x.2.1.2.length+cntS shOp.cnt x.2.1.2)
  omega
 unfold q4z;rw[this];omega
end Go.Proofs.YtfnmkbpogbekpaaGreatDoor
