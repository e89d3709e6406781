import Derived.Test.YtfnmkbpogbekpaaGreatDoorQ9
import Derived.Lib.IndexLaws
import Derived.RegionTactic
import Derived.ChangeAlike
set_option linter.unusedVariables false
set_option linter.unusedSimpArgs false
set_option maxRecDepth 100000
set_option maxHeartbeats 32000000
namespace Go.Proofs.YtfnmkbpogbekpaaGreatDoor
open Go.RowKit
theorem q3u {w:World} {lo g m:Nat} {e:TypeId} (h:Blk w g e #[]) (a:lo<=g):w.ownsRow lo e m (.slice (some ⟨g,0,none⟩) 0 0) 0 []:=
 ⟨by simp,.inr ⟨g,0, #[],rfl,a,h,zad _,zah _,by simp,by simp⟩⟩
theorem qip {w:World} {lo:Nat} {v:Value} (h:w.ownsRow lo 57 4 v 0 []):PG qj 4 57 lo w v [] [] []:=by
 refine⟨⟨qh h (zah _),rfl,rfl,fun k c x a h=>by simp at h⟩,h,?_⟩;rw[List.flatten_nil,zc3];exact q76 h
theorem own5 {lo:Nat} {w:World} {v:Value} {xs:List OpM} {css:List (List Value)} {bls:List (List Nat)} (q:PO lo w v xs css bls) {f:Nat} (r:Blk w f 57 #[]) (t:lo<=f) {g:Nat} {x y z A B:Value} (l:Blk w g 27 #[x,y,z,A,B]) (a b c d e:Value):
  PO lo (((((w.setCell ⟨g,0,none⟩ a).setCell ⟨g,1,none⟩ b).setCell ⟨g,2,none⟩ c).setCell ⟨g,3,none⟩ d).setCell ⟨g,4,none⟩ e) v xs css bls/\PG qj 4 57 lo (((((w.setCell ⟨g,0,none⟩ a).setCell ⟨g,1,none⟩ b).setCell ⟨g,2,none⟩ c).setCell ⟨g,3,none⟩ d).setCell ⟨g,4,none⟩ e) (.slice (some ⟨f,0,none⟩) 0 0) [] [] []/\∀b∈obl v++bls.flatten,b∉obl (.slice (some ⟨f,0,none⟩) 0 0)++([]:List (List Nat)).flatten:=by
 have h:=l.set_ 0 a;have i:=h.set_ 1 b;have j:=i.set_ 2 c;have m:=j.set_ 3 d;have o:=PO.setB (k:=4) (PO.setB (k:=3) (PO.setB (k:=2) (PO.setB (k:=1) (PO.setB (k:=0) q l (by decide) (by decide) a) h (by decide) (by decide) b) i (by decide) (by decide) c) j (by decide) (by decide) d) m (by decide) (by decide) e;have p:PG qj 4 57 lo w (.slice (some ⟨f,0,none⟩) 0 0) [] [] []:=qip (q3u r t);have n:=PGf.setB (k:=4) (PGf.setB (k:=3) (PGf.setB (k:=2) (PGf.setB (k:=1) (PGf.setB (k:=0) p l (by decide) (by decide) a) h (by decide) (by decide) b) i (by decide) (by decide) c) j (by decide) (by decide) d) m (by decide) (by decide) e;exact⟨o,n,fun b s u=>q5p o n.2.1 b s (by simpa using u)⟩
def qot (w:World) (x:LabM) (e:Ending) (w':World):Prop:=∃v u,e=.returned (.agg #[.bool x.1,.int .i64 x.2.1.1,v,u,.int .i64 x.2.2.2])/\LabD w.heap.size w' x v u/\Below w.heap.size w w'
theorem qi3 (cs:List Value) (x:LabM) (w:World) (h:q19.rd w cs x) (hn:q19.cnt x<=1048576):Calls Tryz.prog 36 #[.agg cs.toArray] w (qot w x):=by
 obtain⟨Bo,k,d,F,n,c,rfl,qZ,qO,qF,qR⟩:=q3j h;have hcn:0+(qf.cnt x.2.1+((x.2.2.1.length+cntS qj.cnt x.2.2.1)+0))<=1048576:=hn;obtain rfl:x.2.2.1.length=n:=qF.len;have hle:x.2.2.1.length<=1048576:=by omega
 obtain⟨E,hw0,T0,hsz0,BP,BQ⟩:=q1p w #[.bool x.1,.int .i64 x.2.1.1,.slice Bo k d,.slice F x.2.2.1.length c,.int .i64 x.2.2.2] #[.bool false,.int .i64 0,.slice none 0 0,.slice none 0 0,.int .i64 0] 27 27;have HW0:=zaa hw0;have HCL:Hid (∀wz,Below E.heap.size E wz->Calls Tryz.prog 71 #[.agg #[.int .i64 x.2.1.1,.slice Bo k d]] wz (AlgE wz x.2.1)):=fun wz hz=>qjn [.int .i64 x.2.1.1,.slice Bo k d] x.2.1 wz (q2o qZ ((qO.next T0).next hz)) (by omega)
 obtain⟨a,l,m,cP3,r⟩:=cl5 BP;have C:Below E.heap.size E E:=zab _ _;have HT0:=zaa T0;have HQF:=zaa (qF.next T0);have HCN:Hid (x.2.2.1.length+cntS qj.cnt x.2.2.1<=1048576):=by show _<=_;omega
 have hs1:w.heap.size+1<E.heap.size:=by omega
 clear hw0 hsz0 h qO qF hcn hn qR qZ T0
 go_enter Tryz.func36,Tryz.ntmps36
 go_upto_region 1 with fail;rw[<-HW0.out];have Q:=zaa (zap a (zap l (zap m r)))
 go_cut [3]from 5 to 13 (fun u3 wx=>∃g v u css bls a0 ai,u3=.pointer (some ⟨g,0,none⟩)/\Blk wx g 27 #[.bool x.1,.int .i64 x.2.1.1,v,u,.int .i64 x.2.2.2]/\PO E.heap.size wx v x.2.1.2 css bls/\PG qj 4 57 E.heap.size wx u [] a0 ai/\(∀b∈obl v++bls.flatten,b∉obl u++ai.flatten)/\Below E.heap.size E wx/\E.heap.size<=g)
 case first=>
  refine zb1 (S:=fun w'=>w'.cell? ⟨w.heap.size,0,none⟩=some (.bool x.1)/\w'.cell? ⟨w.heap.size,1,none⟩=some (.int .i64 x.2.1.1)/\w'.cell? ⟨w.heap.size,2,none⟩=some (.slice Bo k d)/\w'.cell? ⟨w.heap.size,4,none⟩=some (.int .i64 x.2.2.2)) (by kernel_rfl) ⟨a,l,m,r⟩ (fun hHeld0=>?_);obtain⟨D,Hwt1⟩:∃x,Hid (x=World.drew E):=⟨_,rfl⟩;have a1:Below E.heap.size E D:=by rw[Hwt1.out];exact(zab _ _).drew
  rw[<-Hwt1.out]at hHeld0⊢;have ywt1:=a1.size;replace C:=q9 C a1 rfl;have t:=kk4 a1 a l m r;clear a l m r;obtain⟨a,l,m,r⟩:=t;refine tp 0 (.pointer (some ⟨w.heap.size,0,none⟩)) rfl ?_;refine tk 1 (.bool x.1) rfl (.inl ⟨by kernel_rfl,fun wv hSw=>by(obtain⟨hS0,hS1,hS2,hS3⟩:=hSw);go_simp⟩) ?_;refine tp 2 (.pointer (some ⟨w.heap.size,1,none⟩)) rfl ?_;refine tk 3 (.agg #[.int .i64 x.2.1.1,.slice Bo k d]) rfl (.inl ⟨by kernel_rfl,fun wv hSw=>by(obtain⟨hS0,hS1,hS2,hS3⟩:=hSw);go_simp⟩) ?_;refine tp 6 (.pointer (some ⟨w.heap.size,4,none⟩)) rfl ?_;refine tk 7 (.int .i64 x.2.2.2) rfl (.inl ⟨by kernel_rfl,fun wv hSw=>by(obtain⟨hS0,hS1,hS2,hS3⟩:=hSw);go_simp⟩) ?_
  (try simp only[Act.put,zA,zB,zC,zD,zE,zF])
  refine zft (rs:= [4,5,9]) (by kernel_rfl) (by simp) ?_;refine(zd3 rfl (fun K hK=>?_) (zd3 rfl (fun K hK=>?_) (zd3 rfl (fun K hK=>?_) AllReadyH.nil)))
  .go_simp
   refine(HCL.out _ C).mono ?_;rintro e N ⟨v4,a9,a8,rfl,s,a2⟩;obtain⟨O,P,rfl⟩:=qq s.2.1;replace s:=s.mono C.size;go_wp2_with fail;have ywt2:=a2.size;replace C:=q9 C a2 rfl;have t:=kk4 a2 a l m r;clear a l m r;obtain⟨a,l,m,r⟩:=t;refine hK.out _ _ ⟨a,l,m,r⟩ (fun hHeld1=>?_);clear hK K hHeld0
   (try simp only[Act.put,zA,zB,zC,zD,zE,zF])
   refine r2 5 9 rfl (fun K hK=>?_) rfl (fun K hK=>?_)
   .go_simp
    obtain⟨ab,Hwt3,a3,Bwt3,zwt3⟩:=al N #[] 57;rw[<-Hwt3.out];replace C:=q9 C a3 rfl;replace s:=s.next a3;have t:=kk4 a3 a l m r;clear a l m r;obtain⟨a,l,m,r⟩:=t;refine hK.out _ _ ⟨a,l,m,r⟩ (fun hHeld2=>?_);clear hK K hHeld1;refine tp 8 (.agg #[.bool x.1,.int .i64 x.2.1.1,.slice O x.2.1.2.length P,.slice (some ⟨N.heap.size,0,none⟩) 0 0,.int .i64 x.2.2.2]) rfl ?_
    (try simp only[Act.put,zA,zB,zC,zD,zE,zF])
    refine r1 9 rfl (fun K hK=>?_);go_simp;obtain⟨wt4,Hwt4⟩:∃x,Hid (x=ab.alloc (.cells #[.bool false,.int .i64 0,.slice none 0 0,.slice none 0 0,.int .i64 0] 27)):=⟨_,zaa rfl⟩;rw[<-Hwt4.out];have am:Below ab.heap.size ab wt4:=by rw[Hwt4.out];exact qm _ _
    have Bwt4:Blk wt4 ab.heap.size 27 #[.bool false,.int .i64 0,.slice none 0 0,.slice none 0 0,.int .i64 0]:=by rw[Hwt4.out];exact Blk.new _ _ _
    replace C:=q9 C am rfl;replace s:=s.next am;replace Bwt3:=Bwt3.next am;have t:=kk4 am a l m r;clear a l m r;obtain⟨a,l,m,r⟩:=t;refine hK.out _ _ ⟨a,l,m,r⟩ (fun hHeld3=>?_);clear hK K hHeld2
    (try simp only[Act.put,zA,zB,zC,zD,zE,zF])
    refine r1 10 rfl (fun K hK=>?_);obtain⟨gC0,gC1,gC2,gC3,gC4,gF0,gF1,gF2,gF3,gF4⟩:=cf5 Bwt4;go_simp;obtain⟨wt5,a6⟩:∃wq,Hid (wq=(((((wt4.setCell ⟨ab.heap.size,0,none⟩ (.bool x.1)).setCell ⟨ab.heap.size,1,none⟩ (.int .i64 x.2.1.1)).setCell ⟨ab.heap.size,2,none⟩ (.slice O x.2.1.2.length P)).setCell ⟨ab.heap.size,3,none⟩ (.slice (some ⟨N.heap.size,0,none⟩) 0 0)).setCell ⟨ab.heap.size,4,none⟩ (.int .i64 x.2.2.2))):=⟨_,zaa rfl⟩;rw[<-a6.out];have Y:Blk wt5 ab.heap.size 27 #[.bool x.1,.int .i64 x.2.1.1,.slice O x.2.1.2.length P,.slice (some ⟨N.heap.size,0,none⟩) 0 0,.int .i64 x.2.2.2]:=by rw[a6.out];exact q18 Bwt4 _ _ _ _ _
    have B:=own5 s Bwt3 (by omega:E.heap.size<=N.heap.size) Bwt4 (.bool x.1) (.int .i64 x.2.1.1) (.slice O x.2.1.2.length P) (.slice (some ⟨N.heap.size,0,none⟩) 0 0) (.int .i64 x.2.2.2);rw[<-a6.out]at B;have G:Below E.heap.size E wt5:=by rw[a6.out];exact q10 C (by have:=C.size;omega) _ _ _ _ _
    replace a:=qe G Q.out.1;replace l:=qe G Q.out.2.1;replace m:=qe G Q.out.2.2.1;replace r:=qe G Q.out.2.2.2;have aa:E.heap.size<=ab.heap.size:=by omega
    refine hK.out _ _ ⟨a,l,m,r⟩ (fun hHeld4=>?_);clear hK K hHeld3
    (try simp only[Act.put,zA,zB,zC,zD,zE,zF])
    refine zbg (by kernel_rfl) ?_ _;go_wp2_with fail;go_meet;exact⟨_,_,_,_,_,_,_,rfl,Y,B.1,B.2.1,B.2.2,G,aa⟩
   .go_simp
    obtain⟨ao,Hwt6,a4,ap,zwt6⟩:=al N #[.bool false,.int .i64 0,.slice none 0 0,.slice none 0 0,.int .i64 0] 27;rw[<-Hwt6.out];replace C:=q9 C a4 rfl;replace s:=s.next a4;have t:=kk4 a4 a l m r;clear a l m r;obtain⟨a,l,m,r⟩:=t;refine hK.out _ _ ⟨a,l,m,r⟩ (fun hHeld2=>?_);clear hK K hHeld1
    (try simp only[Act.put,zA,zB,zC,zD,zE,zF])
    refine r1 5 rfl (fun K hK=>?_);go_simp;obtain⟨wt7,Hwt7⟩:∃x,Hid (x=ao.alloc (.cells #[] 57)):=⟨_,zaa rfl⟩;rw[<-Hwt7.out];have an:Below ao.heap.size ao wt7:=by rw[Hwt7.out];exact qm _ _
    have Bwt7:Blk wt7 ao.heap.size 57 #[]:=by rw[Hwt7.out];exact Blk.new _ _ _
    replace C:=q9 C an rfl;replace s:=s.next an;replace ap:=ap.next an;have t:=kk4 an a l m r;clear a l m r;obtain⟨a,l,m,r⟩:=t;refine hK.out _ _ ⟨a,l,m,r⟩ (fun hHeld3=>?_);clear hK K hHeld2;refine tp 8 (.agg #[.bool x.1,.int .i64 x.2.1.1,.slice O x.2.1.2.length P,.slice (some ⟨ao.heap.size,0,none⟩) 0 0,.int .i64 x.2.2.2]) rfl ?_
    (try simp only[Act.put,zA,zB,zC,zD,zE,zF])
    refine r1 10 rfl (fun K hK=>?_);obtain⟨gC0,gC1,gC2,gC3,gC4,gF0,gF1,gF2,gF3,gF4⟩:=cf5 ap;go_simp;obtain⟨wt8,a7⟩:∃wq,Hid (wq=(((((wt7.setCell ⟨N.heap.size,0,none⟩ (.bool x.1)).setCell ⟨N.heap.size,1,none⟩ (.int .i64 x.2.1.1)).setCell ⟨N.heap.size,2,none⟩ (.slice O x.2.1.2.length P)).setCell ⟨N.heap.size,3,none⟩ (.slice (some ⟨ao.heap.size,0,none⟩) 0 0)).setCell ⟨N.heap.size,4,none⟩ (.int .i64 x.2.2.2))):=⟨_,zaa rfl⟩;rw[<-a7.out];have Y:Blk wt8 N.heap.size 27 #[.bool x.1,.int .i64 x.2.1.1,.slice O x.2.1.2.length P,.slice (some ⟨ao.heap.size,0,none⟩) 0 0,.int .i64 x.2.2.2]:=by rw[a7.out];exact q18 ap _ _ _ _ _
    have B:=own5 s Bwt7 (by omega:E.heap.size<=ao.heap.size) ap (.bool x.1) (.int .i64 x.2.1.1) (.slice O x.2.1.2.length P) (.slice (some ⟨ao.heap.size,0,none⟩) 0 0) (.int .i64 x.2.2.2);rw[<-a7.out]at B;have G:Below E.heap.size E wt8:=by rw[a7.out];exact q10 C (by have:=C.size;omega) _ _ _ _ _
    replace a:=qe G Q.out.1;replace l:=qe G Q.out.2.1;replace m:=qe G Q.out.2.2.1;replace r:=qe G Q.out.2.2.2;have aa:E.heap.size<=N.heap.size:=by omega
    refine hK.out _ _ ⟨a,l,m,r⟩ (fun hHeld4=>?_);clear hK K hHeld3
    (try simp only[Act.put,zA,zB,zC,zD,zE,zF])
    refine zbg (by kernel_rfl) ?_ _;go_wp2_with fail;go_meet;exact⟨_,_,_,_,_,_,_,rfl,Y,B.1,B.2.1,B.2.2,G,aa⟩
  .go_simp
   obtain⟨ac,Hwt9,hbwt9,I,zwt9⟩:=al D #[] 57;rw[<-Hwt9.out];replace C:=q9 C hbwt9 rfl;have t:=kk4 hbwt9 a l m r;clear a l m r;obtain⟨a,l,m,r⟩:=t;refine hK.out _ _ ⟨a,l,m,r⟩ (fun hHeld1=>?_);clear hK K hHeld0
   (try simp only[Act.put,zA,zB,zC,zD,zE,zF])
   refine r2 4 9 rfl (fun K hK=>?_) rfl (fun K hK=>?_)
   .go_simp
    refine(HCL.out _ C).mono ?_;rintro e H ⟨v4,a9,a8,rfl,s,R⟩;obtain⟨O,P,rfl⟩:=qq s.2.1;replace s:=s.mono C.size;go_wp2_with fail;have ywt10:=R.size;replace C:=q9 C R rfl;replace I:=I.next R;have t:=kk4 R a l m r;clear a l m r;obtain⟨a,l,m,r⟩:=t;refine hK.out _ _ ⟨a,l,m,r⟩ (fun hHeld2=>?_);clear hK K hHeld1;refine tp 8 (.agg #[.bool x.1,.int .i64 x.2.1.1,.slice O x.2.1.2.length P,.slice (some ⟨D.heap.size,0,none⟩) 0 0,.int .i64 x.2.2.2]) rfl ?_
    (try simp only[Act.put,zA,zB,zC,zD,zE,zF])
    refine r1 9 rfl (fun K hK=>?_);go_simp;obtain⟨wt11,aw⟩:∃x,Hid (x=H.alloc (.cells #[.bool false,.int .i64 0,.slice none 0 0,.slice none 0 0,.int .i64 0] 27)):=⟨_,zaa rfl⟩;rw[<-aw.out];have T:Below H.heap.size H wt11:=by rw[aw.out];exact qm _ _
    have au:Blk wt11 H.heap.size 27 #[.bool false,.int .i64 0,.slice none 0 0,.slice none 0 0,.int .i64 0]:=by rw[aw.out];exact Blk.new _ _ _
    replace C:=q9 C T rfl;replace I:=I.next T;replace s:=s.next T;have t:=kk4 T a l m r;clear a l m r;obtain⟨a,l,m,r⟩:=t;refine hK.out _ _ ⟨a,l,m,r⟩ (fun hHeld3=>?_);clear hK K hHeld2
    (try simp only[Act.put,zA,zB,zC,zD,zE,zF])
    refine r1 10 rfl (fun K hK=>?_);obtain⟨gC0,gC1,gC2,gC3,gC4,gF0,gF1,gF2,gF3,gF4⟩:=cf5 au;go_simp;obtain⟨wt12,ae⟩:∃wq,Hid (wq=(((((wt11.setCell ⟨H.heap.size,0,none⟩ (.bool x.1)).setCell ⟨H.heap.size,1,none⟩ (.int .i64 x.2.1.1)).setCell ⟨H.heap.size,2,none⟩ (.slice O x.2.1.2.length P)).setCell ⟨H.heap.size,3,none⟩ (.slice (some ⟨D.heap.size,0,none⟩) 0 0)).setCell ⟨H.heap.size,4,none⟩ (.int .i64 x.2.2.2))):=⟨_,zaa rfl⟩;rw[<-ae.out];have Y:Blk wt12 H.heap.size 27 #[.bool x.1,.int .i64 x.2.1.1,.slice O x.2.1.2.length P,.slice (some ⟨D.heap.size,0,none⟩) 0 0,.int .i64 x.2.2.2]:=by rw[ae.out];exact q18 au _ _ _ _ _
    have B:=own5 s I (by omega:E.heap.size<=D.heap.size) au (.bool x.1) (.int .i64 x.2.1.1) (.slice O x.2.1.2.length P) (.slice (some ⟨D.heap.size,0,none⟩) 0 0) (.int .i64 x.2.2.2);rw[<-ae.out]at B;have G:Below E.heap.size E wt12:=by rw[ae.out];exact q10 C (by have:=C.size;omega) _ _ _ _ _
    replace a:=qe G Q.out.1;replace l:=qe G Q.out.2.1;replace m:=qe G Q.out.2.2.1;replace r:=qe G Q.out.2.2.2;have aa:E.heap.size<=H.heap.size:=by omega
    refine hK.out _ _ ⟨a,l,m,r⟩ (fun hHeld4=>?_);clear hK K hHeld3
    (try simp only[Act.put,zA,zB,zC,zD,zE,zF])
    refine zbg (by kernel_rfl) ?_ _;go_wp2_with fail;go_meet;exact⟨_,_,_,_,_,_,_,rfl,Y,B.1,B.2.1,B.2.2,G,aa⟩
   .go_simp
    obtain⟨wt13,ax⟩:∃x,Hid (x=ac.alloc (.cells #[.bool false,.int .i64 0,.slice none 0 0,.slice none 0 0,.int .i64 0] 27)):=⟨_,zaa rfl⟩;rw[<-ax.out];have aj:Below ac.heap.size ac wt13:=by rw[ax.out];exact qm _ _
    have Z:Blk wt13 ac.heap.size 27 #[.bool false,.int .i64 0,.slice none 0 0,.slice none 0 0,.int .i64 0]:=by rw[ax.out];exact Blk.new _ _ _
    replace C:=q9 C aj rfl;replace I:=I.next aj;have t:=kk4 aj a l m r;clear a l m r;obtain⟨a,l,m,r⟩:=t;refine hK.out _ _ ⟨a,l,m,r⟩ (fun hHeld2=>?_);clear hK K hHeld1
    (try simp only[Act.put,zA,zB,zC,zD,zE,zF])
    refine r1 4 rfl (fun K hK=>?_);go_simp;refine(HCL.out _ C).mono ?_;rintro e wt14 ⟨v4,a9,a8,rfl,s,U⟩;obtain⟨O,P,rfl⟩:=qq s.2.1;replace s:=s.mono C.size;go_wp2_with fail;replace C:=q9 C U rfl;replace I:=I.next U;replace Z:=Z.next U;have t:=kk4 U a l m r;clear a l m r;obtain⟨a,l,m,r⟩:=t;refine hK.out _ _ ⟨a,l,m,r⟩ (fun hHeld3=>?_);clear hK K hHeld2;refine tp 8 (.agg #[.bool x.1,.int .i64 x.2.1.1,.slice O x.2.1.2.length P,.slice (some ⟨D.heap.size,0,none⟩) 0 0,.int .i64 x.2.2.2]) rfl ?_
    (try simp only[Act.put,zA,zB,zC,zD,zE,zF])
    refine r1 10 rfl (fun K hK=>?_);obtain⟨gC0,gC1,gC2,gC3,gC4,gF0,gF1,gF2,gF3,gF4⟩:=cf5 Z;go_simp;obtain⟨wt15,af⟩:∃wq,Hid (wq=(((((wt14.setCell ⟨ac.heap.size,0,none⟩ (.bool x.1)).setCell ⟨ac.heap.size,1,none⟩ (.int .i64 x.2.1.1)).setCell ⟨ac.heap.size,2,none⟩ (.slice O x.2.1.2.length P)).setCell ⟨ac.heap.size,3,none⟩ (.slice (some ⟨D.heap.size,0,none⟩) 0 0)).setCell ⟨ac.heap.size,4,none⟩ (.int .i64 x.2.2.2))):=⟨_,zaa rfl⟩;rw[<-af.out];have Y:Blk wt15 ac.heap.size 27 #[.bool x.1,.int .i64 x.2.1.1,.slice O x.2.1.2.length P,.slice (some ⟨D.heap.size,0,none⟩) 0 0,.int .i64 x.2.2.2]:=by rw[af.out];exact q18 Z _ _ _ _ _
    have B:=own5 s I (by omega:E.heap.size<=D.heap.size) Z (.bool x.1) (.int .i64 x.2.1.1) (.slice O x.2.1.2.length P) (.slice (some ⟨D.heap.size,0,none⟩) 0 0) (.int .i64 x.2.2.2);rw[<-af.out]at B;have G:Below E.heap.size E wt15:=by rw[af.out];exact q10 C (by have:=C.size;omega) _ _ _ _ _
    replace a:=qe G Q.out.1;replace l:=qe G Q.out.2.1;replace m:=qe G Q.out.2.2.1;replace r:=qe G Q.out.2.2.2;have aa:E.heap.size<=ac.heap.size:=by omega
    refine hK.out _ _ ⟨a,l,m,r⟩ (fun hHeld4=>?_);clear hK K hHeld3
    (try simp only[Act.put,zA,zB,zC,zD,zE,zF])
    refine zbg (by kernel_rfl) ?_ _;go_wp2_with fail;go_meet;exact⟨_,_,_,_,_,_,_,rfl,Y,B.1,B.2.1,B.2.2,G,aa⟩
  .go_simp
   obtain⟨J,Hwt16,aA,z,zwt16⟩:=al D #[.bool false,.int .i64 0,.slice none 0 0,.slice none 0 0,.int .i64 0] 27;rw[<-Hwt16.out];replace C:=q9 C aA rfl;have t:=kk4 aA a l m r;clear a l m r;obtain⟨a,l,m,r⟩:=t;refine hK.out _ _ ⟨a,l,m,r⟩ (fun hHeld1=>?_);clear hK K hHeld0
   (try simp only[Act.put,zA,zB,zC,zD,zE,zF])
   refine r2 4 5 rfl (fun K hK=>?_) rfl (fun K hK=>?_)
   .go_simp
    refine(HCL.out _ C).mono ?_;rintro e M ⟨v4,a9,a8,rfl,s,V⟩;obtain⟨O,P,rfl⟩:=qq s.2.1;replace s:=s.mono C.size;go_wp2_with fail;have ywt17:=V.size;replace C:=q9 C V rfl;replace z:=z.next V;have t:=kk4 V a l m r;clear a l m r;obtain⟨a,l,m,r⟩:=t;refine hK.out _ _ ⟨a,l,m,r⟩ (fun hHeld2=>?_);clear hK K hHeld1
    (try simp only[Act.put,zA,zB,zC,zD,zE,zF])
    refine r1 5 rfl (fun K hK=>?_);go_simp;obtain⟨wt18,ay⟩:∃x,Hid (x=M.alloc (.cells #[] 57)):=⟨_,zaa rfl⟩;rw[<-ay.out];have W:Below M.heap.size M wt18:=by rw[ay.out];exact qm _ _
    have Bwt18:Blk wt18 M.heap.size 57 #[]:=by rw[ay.out];exact Blk.new _ _ _
    replace C:=q9 C W rfl;replace z:=z.next W;replace s:=s.next W;have t:=kk4 W a l m r;clear a l m r;obtain⟨a,l,m,r⟩:=t;refine hK.out _ _ ⟨a,l,m,r⟩ (fun hHeld3=>?_);clear hK K hHeld2;refine tp 8 (.agg #[.bool x.1,.int .i64 x.2.1.1,.slice O x.2.1.2.length P,.slice (some ⟨M.heap.size,0,none⟩) 0 0,.int .i64 x.2.2.2]) rfl ?_
    (try simp only[Act.put,zA,zB,zC,zD,zE,zF])
    refine r1 10 rfl (fun K hK=>?_);obtain⟨gC0,gC1,gC2,gC3,gC4,gF0,gF1,gF2,gF3,gF4⟩:=cf5 z;go_simp;obtain⟨wt19,ag⟩:∃wq,Hid (wq=(((((wt18.setCell ⟨D.heap.size,0,none⟩ (.bool x.1)).setCell ⟨D.heap.size,1,none⟩ (.int .i64 x.2.1.1)).setCell ⟨D.heap.size,2,none⟩ (.slice O x.2.1.2.length P)).setCell ⟨D.heap.size,3,none⟩ (.slice (some ⟨M.heap.size,0,none⟩) 0 0)).setCell ⟨D.heap.size,4,none⟩ (.int .i64 x.2.2.2))):=⟨_,zaa rfl⟩;rw[<-ag.out];have Y:Blk wt19 D.heap.size 27 #[.bool x.1,.int .i64 x.2.1.1,.slice O x.2.1.2.length P,.slice (some ⟨M.heap.size,0,none⟩) 0 0,.int .i64 x.2.2.2]:=by rw[ag.out];exact q18 z _ _ _ _ _
    have B:=own5 s Bwt18 (by omega:E.heap.size<=M.heap.size) z (.bool x.1) (.int .i64 x.2.1.1) (.slice O x.2.1.2.length P) (.slice (some ⟨M.heap.size,0,none⟩) 0 0) (.int .i64 x.2.2.2);rw[<-ag.out]at B;have G:Below E.heap.size E wt19:=by rw[ag.out];exact q10 C (by have:=C.size;omega) _ _ _ _ _
    replace a:=qe G Q.out.1;replace l:=qe G Q.out.2.1;replace m:=qe G Q.out.2.2.1;replace r:=qe G Q.out.2.2.2;have aa:E.heap.size<=D.heap.size:=by omega
    refine hK.out _ _ ⟨a,l,m,r⟩ (fun hHeld4=>?_);clear hK K hHeld3
    (try simp only[Act.put,zA,zB,zC,zD,zE,zF])
    refine zbg (by kernel_rfl) ?_ _;go_wp2_with fail;go_meet;exact⟨_,_,_,_,_,_,_,rfl,Y,B.1,B.2.1,B.2.2,G,aa⟩
   .go_simp
    obtain⟨wt20,az⟩:∃x,Hid (x=J.alloc (.cells #[] 57)):=⟨_,zaa rfl⟩;rw[<-az.out];have ak:Below J.heap.size J wt20:=by rw[az.out];exact qm _ _
    have av:Blk wt20 J.heap.size 57 #[]:=by rw[az.out];exact Blk.new _ _ _
    replace C:=q9 C ak rfl;replace z:=z.next ak;have t:=kk4 ak a l m r;clear a l m r;obtain⟨a,l,m,r⟩:=t;refine hK.out _ _ ⟨a,l,m,r⟩ (fun hHeld2=>?_);clear hK K hHeld1
    (try simp only[Act.put,zA,zB,zC,zD,zE,zF])
    refine r1 4 rfl (fun K hK=>?_);go_simp;refine(HCL.out _ C).mono ?_;rintro e wt21 ⟨v4,a9,a8,rfl,s,X⟩;obtain⟨O,P,rfl⟩:=qq s.2.1;replace s:=s.mono C.size;go_wp2_with fail;replace C:=q9 C X rfl;replace z:=z.next X;replace av:=av.next X;have t:=kk4 X a l m r;clear a l m r;obtain⟨a,l,m,r⟩:=t;refine hK.out _ _ ⟨a,l,m,r⟩ (fun hHeld3=>?_);clear hK K hHeld2;refine tp 8 (.agg #[.bool x.1,.int .i64 x.2.1.1,.slice O x.2.1.2.length P,.slice (some ⟨J.heap.size,0,none⟩) 0 0,.int .i64 x.2.2.2]) rfl ?_
    (try simp only[Act.put,zA,zB,zC,zD,zE,zF])
    refine r1 10 rfl (fun K hK=>?_);obtain⟨gC0,gC1,gC2,gC3,gC4,gF0,gF1,gF2,gF3,gF4⟩:=cf5 z;go_simp;obtain⟨wt22,ah⟩:∃wq,Hid (wq=(((((wt21.setCell ⟨D.heap.size,0,none⟩ (.bool x.1)).setCell ⟨D.heap.size,1,none⟩ (.int .i64 x.2.1.1)).setCell ⟨D.heap.size,2,none⟩ (.slice O x.2.1.2.length P)).setCell ⟨D.heap.size,3,none⟩ (.slice (some ⟨J.heap.size,0,none⟩) 0 0)).setCell ⟨D.heap.size,4,none⟩ (.int .i64 x.2.2.2))):=⟨_,zaa rfl⟩;rw[<-ah.out];have Y:Blk wt22 D.heap.size 27 #[.bool x.1,.int .i64 x.2.1.1,.slice O x.2.1.2.length P,.slice (some ⟨J.heap.size,0,none⟩) 0 0,.int .i64 x.2.2.2]:=by rw[ah.out];exact q18 z _ _ _ _ _
    have B:=own5 s av (by omega:E.heap.size<=J.heap.size) z (.bool x.1) (.int .i64 x.2.1.1) (.slice O x.2.1.2.length P) (.slice (some ⟨J.heap.size,0,none⟩) 0 0) (.int .i64 x.2.2.2);rw[<-ah.out]at B;have G:Below E.heap.size E wt22:=by rw[ah.out];exact q10 C (by have:=C.size;omega) _ _ _ _ _
    replace a:=qe G Q.out.1;replace l:=qe G Q.out.2.1;replace m:=qe G Q.out.2.2.1;replace r:=qe G Q.out.2.2.2;have aa:E.heap.size<=D.heap.size:=by omega
    refine hK.out _ _ ⟨a,l,m,r⟩ (fun hHeld4=>?_);clear hK K hHeld3
    (try simp only[Act.put,zA,zB,zC,zD,zE,zF])
    refine zbg (by kernel_rfl) ?_ _;go_wp2_with fail;go_meet;exact⟨_,_,_,_,_,_,_,rfl,Y,B.1,B.2.1,B.2.2,G,aa⟩
 case rest=>
  obtain⟨g,v,u0,css,bls,dss0,cls0,rfl,BG,s,hPG0,hAP0,T1,hg⟩:=hcut;obtain⟨w1,HWC⟩:∃wq:World,wq=wc:=⟨_,rfl⟩;subst HWC;have dP3:=qe T1 cP3;have HBQ:=zaa BQ;clear a l m r;go_wp2_with fail
  go_loopw [4] (fun i wr=>∃(j:Nat) (u:Value) (a0:List (List Value)) (ai:List (List Nat)),j<=x.2.2.1.length/\i=.int .i64 (j:Int)/\Blk wr g 27 #[.bool x.1,.int .i64 x.2.1.1,v,u,.int .i64 x.2.2.2]/\PO E.heap.size wr v x.2.1.2 css bls/\PG qj 4 57 E.heap.size wr u (x.2.2.1.take j) a0 ai/\(∀b∈obl v++bls.flatten,b∉obl u++ai.flatten)/\Below E.heap.size E wr) (fun i _=>x.2.2.1.length - (intOf i).toNat)
  case atStart=>exact⟨0,_,_,_,zah _,rfl,BG,s,by rw[zc4];exact hPG0,hAP0,T1⟩
  case round=>
   clear BG s T1 dP3 hPG0 hAP0;obtain⟨j,u,a0,ai,hj,rfl,BG,s,ar,hAP,hT⟩:=hrel;have dP3:=qe hT cP3
   by_cases hlt:j<x.2.2.1.length
   .have hj0:(0:Int)<=(j:Int):=by omega
    have hj1:(j:Int)<(x.2.2.1.length:Int):=by omega
    obtain⟨b,o,vs,y,rfl,-,hc,hr,-,hx⟩:=HQF.out.at hlt;obtain⟨AL,nL,cL,AR,nR,cR,AV,nV,cV,rfl,qk,qL,qRr,qV⟩:=q1u hr;have cc0:wr.cell? ⟨b,o+j*4,none⟩=some (.int .i64 y.1):=qe hT (hc 0 _ rfl);have cc1:wr.cell? ⟨b,o+j*4+1,none⟩=some (.slice AL nL cL):=qe hT (hc 1 _ rfl);have cc2:wr.cell? ⟨b,o+j*4+2,none⟩=some (.slice AR nR cR):=qe hT (hc 2 _ rfl);have cc3:wr.cell? ⟨b,o+j*4+3,none⟩=some (.slice AV nV cV):=qe hT (hc 3 _ rfl);have HTS:Hid (x.2.2.1.take (j+1)=x.2.2.1.take j++ [y]):=q3i hx;have hcy:qj.cnt y<=1048576:=by
     have h1:=q4e (f:=qj.cnt) (zaf hx);have h2:=HCN.out;omega
    have hcy':0+((y.2.1.1.length+y.2.1.2.length)+y.2.2.length)<=1048576:=hcy;obtain⟨L,HL⟩:∃L,Hid (x.2.2.1.take j=L):=⟨_,rfl⟩;have HLK:Hid (L.length=j):=by show _=_;rw[<-HL.out,za8];omega
    rw[HL.out]at ar;have HTS2:Hid (x.2.2.1.take (j+1)=L++ [y]):=by show _=_;rw[HTS.out,HL.out]
    obtain⟨A,cA,rfl⟩:=qq ar.2.1;obtain⟨w5,HW5⟩:∃w5,w5=wr:=⟨_,rfl⟩;subst HW5;have T5:Below w5.heap.size w5 w5:=zab _ _;have hT5:=hT;have HCF:Hid (∀wz,Below w5.heap.size w5 wz->Calls Tryz.prog 61 #[.agg #[.int .i64 y.1,.slice AL nL cL,.slice AR nR cR,.slice AV nV cV]] wz (CfE wz y)):=fun wz hz=>
     q9w y.1 AL nL cL AR nR cR AV nV cV y.2.1.1 y.2.1.2 y.2.2 wz (qL.next qd (q9 hT5 hz rfl)) (qRr.next qd (q9 hT5 hz rfl)) (qV.next qd (q9 hT5 hz rfl)) (by rw[<-qL.len];omega) (by rw[<-qRr.len];omega) (by rw[<-qV.len];omega)
    have HBD:Hid ((∀v∈y.2.1.1,InR v)/\(∀v∈y.2.1.2,InR v)/\(∀v∈y.2.2,InR v)):=⟨qL.bounds,qRr.bounds,qV.bounds⟩;have HQK:=zaa qk;have BG5:=BG.next T5;have cO5:=BG5.cell 3;simp at cO5;have hPO5:=s.next T5;have hP5:=ar.next T5;have hm5:E.heap.size<=w5.heap.size:=hT.size;have C:Below w5.heap.size w5 w5:=zab _ _;clear hc hx hr ar hcy hcy' qL qRr qV qk;go_upto_region 5 with fail
    go_region_law (first
     |(refine q83 w6 rfl (.tmp 22) (.tmp 29) 25 57 rfl (.agg #[.int .i64 0,.slice none 0 0,.slice none 0 0,.slice none 0 0]) 4 80 zbz q17 rfl (by decide) (by decide) E.heap.size L.length cA A a0.flatten (by rfl) hvs [.int .i64 y.1,.slice A1 y.2.1.1.length c1,.slice A2 y.2.1.2.length c2,.slice A3 y.2.2.length c3] rfl (by intro q hq;simp at hq;rcases hq with rfl|rfl|rfl|rfl<;>rfl) (by rfl) (by have:=HLK.out;omega) (by omega) ?_;intro A8 c8 w8 a5 hg8 hb8;have BG8:=BG6.grown hg8 (fun e=>q1q hvs BG6 (by decide) e.symm);have cO8:=BG8.cell 3;have fO8:=BG8.frozen 3;simp at cO8)
     |(go_simp;go_at_call 61;(with_reducible refine(HCF.out _ ?_).mono ?_);(first|exact C|exact zai C);rintro e w6 hcf;obtain⟨A1,c1,A2,c2,A3,c3,bk,rfl,hO6,hiv6,hbn⟩:=qb2 hcf HQK.out HBD.out.1 HBD.out.2.1 HBD.out.2.2;have hb:=q9 (zai (zab w5.heap.size w5)) hbn rfl;have hiv6':Iv w5.heap.size w6.heap.size bk:=hiv6;obtain⟨hvs,HPU⟩:=hP5.push q4i rfl hb hm5 hO6 hiv6';have hsz6:=hb.size;have BG6:=BG5.next hb;have cO6:=BG6.cell 3;have fO6:=BG6.frozen 3;have cO6a:=(BG6.alloc (.cells #[.int .i64 y.1,.slice A1 y.2.1.1.length c1,.slice A2 y.2.1.2.length c2,.slice A3 y.2.2.length c3] 57)).cell 3;simp at cO6 cO6a;have dc0:=qe hb cc0;have dc1:=qe hb cc1;have dc2:=qe hb cc2;have dc3:=qe hb cc3;have ddP:=qe hb dP3))
    all_goals
     have PN:=PGf.setB (k:=3) (HPU a5 hg8) BG8 (by decide) (by decide) (.slice A8 (L.length+1) c8);have hT8:Below E.heap.size E (w8.setCell ⟨g,3,none⟩ (.slice A8 (L.length+1) c8)):=((q9 hT5 hb rfl).trans (hb8.mono (by omega))).setCell (p:=⟨g,3,none⟩) (by exact hg) _;have BG9:Blk (w8.setCell ⟨g,3,none⟩ (.slice A8 (L.length+1) c8)) g 27 #[.bool x.1,.int .i64 x.2.1.1,v,.slice A8 (L.length+1) c8,.int .i64 x.2.2.2]:=by simpa using BG8.set_ 3 (.slice A8 (L.length+1) c8)
     have hPO8:PO E.heap.size w8 v x.2.1.2 css bls:=(hPO5.next hb).same hg8.size fun b hb'=>hg8.block b ((hPO5.next hb).2.2.2 b hb').2 fun e=>hAP b hb' (zba _ (q1h.2 e.symm))
     have hPO9:=PO.setB (k:=3) hPO8 BG8 (by decide) (by decide) (.slice A8 (L.length+1) c8);have hAP9:∀b∈obl v++bls.flatten,b∉obl (.slice A8 (L.length+1) c8)++(ai++ [bk]).flatten:=fun b hb' hm=>by
      rcases zat.1 hm with hm|hm
      .exact q5p hPO8 a5 b hb' hm
      .rw[zbv,zat]at hm
       rcases hm with hm|hm
       .exact hAP b hb' (zay _ hm)
       .have h1:=(hiv6'.2 b (by simpa using hm)).1
        have h2:=(hPO5.2.2.2 b hb').2;omega
     have aq:=zaa (zap BG9 (zap hPO9 (zap PN (zap hAP9 hT8))));clear BG9 hPO9 PN hT8 hPO8 a5 hb8 hvs HPU cO6 cO6a fO6 dc0 dc1 dc2 dc3 ddP hAP9;go_wp2_with fail
     go_roundw
     case rel=>exact⟨j+1,_,_,_,by omega,by go_num,aq.out.1,aq.out.2.1,by rw[HTS2.out];exact aq.out.2.2.1,aq.out.2.2.2.1,aq.out.2.2.2.2⟩
     case measure=>simp[intOf];omega
   .obtain rfl:j=x.2.2.1.length:=by omega
    have hlt':¬(x.2.2.1.length:Int)<(x.2.2.1.length:Int):=by omega
    rw[zaq (zad _)]at ar;obtain⟨Av,cv,rfl⟩:=qq s.2.1;obtain⟨Au,cu,rfl⟩:=qq ar.2.1;have BQr:=HBQ.out.next hT;obtain⟨cG0,cG1,cG2,cG3,cG4⟩:=cl5 BG;obtain⟨cQ0,cQ1,cQ2,cQ3,cQ4,fQ0,fQ1,fQ2,fQ3,fQ4⟩:=cf5 BQr;obtain⟨wf,HWF⟩:∃wf,Hid (wf=((((wr.setCell ⟨w.heap.size+1,0,none⟩ (.bool x.1)).setCell ⟨w.heap.size+1,1,none⟩ (.int .i64 x.2.1.1)).setCell ⟨w.heap.size+1,2,none⟩ (.slice Av x.2.1.2.length cv)).setCell ⟨w.heap.size+1,3,none⟩ (.slice Au x.2.2.1.length cu)).setCell ⟨w.heap.size+1,4,none⟩ (.int .i64 x.2.2.2)):=⟨_,zaa rfl⟩;have ad:w.heap.size+1<E.heap.size:=hs1;have BRR:Blk wf (w.heap.size+1) 27 #[.bool x.1,.int .i64 x.2.1.1,.slice Av x.2.1.2.length cv,.slice Au x.2.2.1.length cu,.int .i64 x.2.2.2]:=by rw[HWF.out];simpa using((((BQr.set_ 0 (.bool x.1)).set_ 1 (.int .i64 x.2.1.1)).set_ 2 (.slice Av x.2.1.2.length cv)).set_ 3 (.slice Au x.2.2.1.length cu)).set_ 4 (.int .i64 x.2.2.2)
    have HPO:Hid (PO E.heap.size wf (.slice Av x.2.1.2.length cv) x.2.1.2 css bls):=by rw[HWF.out];exact((((s.far (p:=⟨w.heap.size+1,0,none⟩) ad _).far (p:=⟨w.heap.size+1,1,none⟩) ad _).far (p:=⟨w.heap.size+1,2,none⟩) ad _).far (p:=⟨w.heap.size+1,3,none⟩) ad _).far (p:=⟨w.heap.size+1,4,none⟩) ad _
    have HPG:Hid (PG qj 4 57 E.heap.size wf (.slice Au x.2.2.1.length cu) x.2.2.1 a0 ai):=by rw[HWF.out];exact((((ar.far (p:=⟨w.heap.size+1,0,none⟩) ad _).far (p:=⟨w.heap.size+1,1,none⟩) ad _).far (p:=⟨w.heap.size+1,2,none⟩) ad _).far (p:=⟨w.heap.size+1,3,none⟩) ad _).far (p:=⟨w.heap.size+1,4,none⟩) ad _
    have hpl:w.heap.size<=w.heap.size+1:=by omega
    have HTT:Hid (Below w.heap.size w wf):=by rw[HWF.out];exact(((((q9 HT0.out hT rfl).setCell (p:=⟨w.heap.size+1,0,none⟩) hpl _).setCell (p:=⟨w.heap.size+1,1,none⟩) hpl _).setCell (p:=⟨w.heap.size+1,2,none⟩) hpl _).setCell (p:=⟨w.heap.size+1,3,none⟩) hpl _).setCell (p:=⟨w.heap.size+1,4,none⟩) hpl _
    clear s ar BQr;go_wp2_with fail;rw[<-HWF.out]
    (try simp only[Exit.inBlock,Exit.then])
    refine zas (v:=.agg #[.bool x.1,.int .i64 x.2.1.1,.slice Av x.2.1.2.length cv,.slice Au x.2.2.1.length cu,.int .i64 x.2.2.2]) (zb3 rfl _ _ (w.heap.size+1) 27 #[.bool x.1,.int .i64 x.2.1.1,.slice Av x.2.1.2.length cv,.slice Au x.2.2.1.length cu,.int .i64 x.2.2.2] (0,0) _ (by simp) BRR zbk rfl (by kernel_rfl)) rfl ?_;exact⟨_,_,rfl,⟨css,bls,a0,ai,HPO.out.mono (by omega),HPG.out.mono (by omega),hAP⟩,HTT.out⟩
theorem qlr {w:World} {c:List Value} {x:q12} {b:List Nat} (h:qj.own w c x b):∀u∈c,u.oneCell'=true:=fun u a=>by
 obtain⟨d,k,g,e,l,i,f,m,j,rfl,-,-,-,-⟩:=q1u (qj.ord h);simp at a
 rcases a with rfl|rfl|rfl|rfl<;>rfl
theorem PG.one {lo:Nat} {w:World} {v:Value} {xs:List q12} {css:List (List Value)} {bls:List (List Nat)} (h:PG qj 4 57 lo w v xs css bls):∀c∈css,∀u∈c,u.oneCell'=true:=fun c b=>by
 obtain⟨k,a⟩:=zbh b;have d:=(zag.1 a).1;have e:=h.1.l1;have f:=h.1.l2;exact qlr (h.1.el k _ _ _ a (zae (by omega)) (zae (by omega)))
theorem qm9 (B:Nat) (ds:List Value) (x:LabM) (s:qw) (w:World) (v u:Value) (hB:B<=w.heap.size) (hD:LabD B w x v u) (h':qn.rd w ds s) (ae:x.1=true) (hx:AlgP x.2.1) (hln:x.2.2.1.length<=12) (hr:0<=x.2.2.2/\x.2.2.2<=9999) (hk:s.1=5) (k:Nat) (hkA:s.2.2.2.2.1=(k:Int)):
  Calls Tryz.prog 28 #[.agg #[.bool x.1,.int .i64 x.2.1.1,v,u,.int .i64 x.2.2.2],.agg ds.toArray] w (LmE B u w x s):=by
 have hrd':=h';have hD0:=hD;obtain⟨AL,nL,cL,AR,nR,cR,AV,nV,cV,AS,nS,cS,rfl,pK,pT,pF,pL,pR,pV,pS,pA,pB⟩:=q1f h';obtain⟨css,bls,n,cls,hPO,hPG,hap⟩:=hD;obtain⟨A1,c1,rfl⟩:=qq hPO.2.1;obtain⟨A2,r,rfl⟩:=qq hPG.2.1;rw[hkA];obtain⟨w0,hw0,T0,hsz0,BP,BQ,BZ⟩:=q41 w #[.bool x.1,.int .i64 x.2.1.1,.slice A1 x.2.1.2.length c1,.slice A2 x.2.2.1.length r,.int .i64 x.2.2.2] #[.int .i64 s.1,.string s.2.1,.int .i64 s.2.2.1.1,.slice AL nL cL,.slice AR nR cR,.slice AV nV cV,.slice AS nS cS,.int .i64 (k:Int),.int .i64 s.2.2.2.2.2] #[.bool false,.int .i64 0,.slice none 0 0,.slice none 0 0,.int .i64 0] 27 59 27;have HW0:=zaa hw0;have HT0:=zaa T0;have hs0:w0.heap.size=w.heap.size+3:=hsz0;have HOP:=zaa ae;have HD0:Hid (LabD B w0 x (.slice A1 x.2.1.2.length c1) (.slice A2 x.2.2.1.length r)):=hD0.next T0;have HNG:Hid (w.heap.size+1+1∉obl (.slice A2 x.2.2.1.length r)):=fun h=>by have:=(hPG.2.2.2 _ (zba _ h)).2;omega
 obtain⟨cP0,cP1,cP2,A,cP4⟩:=cl5 BP;obtain⟨cQ0,cQ1,cQ2,cQ3,cQ4,cQ5,cQ6,d,cQ8⟩:=cl9 BQ;rw[ae]at cP0;have HM0:Hid (makM x s=(if(k:Int)<(x.2.2.1.length:Int)then some (x.1,x.2.1,x.2.2.1.take k++x.2.2.1.drop (k+1),x.2.2.2)else none)):=by
  show _=_
  unfold makM;rw[zaj (by rw[hk];decide),zaj (by rw[hk];decide),zao hk,hkA,za1]
 have HPO0:=zaa (hPO.next T0);have P:=zaa (hPG.next T0);have HAP:=zaa hap;have hk0:(0:Int)<=(k:Int):=by omega
 have hkb:(k:Int)<=9223372036854775807:=by have:=pA.2;omega
 have hTB0:Below B w w0:=T0.mono hB;rw[hk]at cQ0;clear hk hkA ae hx;clear hw0 hsz0 h' hrd' hPO hPG hap T0 pK pT pF pL pR pV pS pA pB hD0
 go_enter Tryz.func28,zf8
 go_upto_region 1 with fail;rw[<-HW0.out];rw[HOP.out]at BP
 by_cases hlt:k<x.2.2.1.length
 rotate_left
 .have hge:x.2.2.1.length<=k:=by omega
  have HM:Hid (makM x s=none):=HM0.out.trans (by rw[zaj (by omega)]);have HBX:=zaa (q18 BZ (.bool false) (.int .i64 0) (.slice none 0 0) (.slice none 0 0) (.int .i64 0));have HTX:=zaa (BelO.of (u:=.slice A2 x.2.2.1.length r) (q10 (HT0.out) (g:=w.heap.size+1+1) (by omega) (.bool false) (.int .i64 0) (.slice none 0 0) (.slice none 0 0) (.int .i64 0)) hB);obtain⟨cZ0,cZ1,cZ2,cZ3,cZ4,fZ0,fZ1,fZ2,fZ3,fZ4⟩:=cf5 BZ;clear BZ BP BQ;go_wp2_with fail
  (try simp only[Exit.inBlock,Exit.then])
  refine zas (v:=.tuple #[.agg #[.bool false,.int .i64 0,.slice none 0 0,.slice none 0 0,.int .i64 0],.bool false]) ?hr rfl ?_
  case hr=>exact qp rfl _ _ (w.heap.size+1+1) 27 #[.bool false,.int .i64 0,.slice none 0 0,.slice none 0 0,.int .i64 0] (0,0) _ _ rfl HBX.out zbk rfl (by kernel_rfl) rfl
  exact⟨HTX.out,Or.inl ⟨HM.out,rfl⟩⟩
 .have hge:¬x.2.2.1.length<=k:=by omega
  have HM2:Hid (makM x s=some (true,x.2.1,(x.2.2.1.take k++x.2.2.1.drop (k+1)),x.2.2.2)):=HM0.out.trans (by rw[zao (by omega),HOP.out]);obtain⟨D,HWC⟩:∃wq:World,wq=w0:=⟨_,rfl⟩;subst HWC;obtain⟨t,rfl,hg2,hnc⟩:=q2b P.out.2.1 (by omega);obtain⟨ad,G,hadd⟩:∃ad:Addr,Hid ((if r=k+1 then some (⟨t,0,none⟩:Addr)else some ⟨t,(k+1)*4,none⟩)=some ad)/\(k+1<r->ad=⟨t,(k+1)*4,none⟩):=by
   by_cases hq:r=k+1
   .exact⟨_,zao hq,fun h=>absurd h (by omega)⟩
   .exact⟨_,zaj hq,fun _=>rfl⟩
  obtain⟨i0,hi0,-,hsz,-⟩:=info_parts q17;have hi1:(0:Int)<=(k:Int)+1:=by omega
  have hkc:k<=r:=by omega
  have hi2:(k:Int)+1<=(x.2.2.1.length:Int):=by omega
  have hw64:IntKind.i64.wrap ((k:Int)+1)=(k:Int)+1:=zcg _ (by omega);have U:=P.out.1.all;have hl1:=P.out.1.l1;have HCE:=zaa (P.out.2.1.cells (g:=t) rfl);have hONE:=P.out.one
  have y:Hid ((∀u∈(n.take k).flatten,u.oneCell'=true)/\(∀u∈(n.drop (k+1)).flatten,u.oneCell'=true)):=⟨fun u hu=>by
   obtain⟨c,hc,hu⟩:=zbp.1 hu;exact hONE c (zbu hc) u hu,fun u hu=>by
   obtain⟨c,hc,hu⟩:=zbp.1 hu
   exact hONE c (zdy hc) u hu⟩
  have O:Hid (∀j v,(n.take k).flatten[j]?=some v->D.cell? ((⟨t,0,none⟩:Addr).add j)=some v):=fun j v z=>by
   refine HCE.out j v ?_;rw[<-q9n (m:=4) U (by omega),zdx]at z
   split at z
   .exact z
   .cases z
  have T:Hid ((n.take k).flatten.length=k*4):=by
   show _=_
   rw[q2x (m:=4) fun c hc=>U c (zbu hc),za8,zeg (by omega)]
  have Q:Hid ((n.drop (k+1)).flatten.length=(x.2.2.1.length - (k+1))*4):=by
   show _=_
   rw[q2x (m:=4) fun c hc=>U c (zdy hc),zcq,hl1]
  have N:Hid (∀j v,(n.drop (k+1)).flatten[j]?=some v->D.cell? (ad.add j)=some v):=fun j v z=>by
   by_cases hlast:x.2.2.1.length=k+1
   .have hj:=(zag.1 z).1
    have:=Q.out;rw[this,hlast,zc8,Nat.zero_mul]at hj;omega
   .rw[<-qde (m:=4) U (by omega),zda]at z
    have:=HCE.out _ v z;rw[hadd (by omega)];have e:(⟨t,(k+1)*4,none⟩:Addr).add j=(⟨t,0,none⟩:Addr).add ((k+1)*4+j):=by
     unfold Addr.add;rw[zaj (by omega:¬(k+1)*4+j=0)]
     split
     .simp;omega
     .simp
    rw[e];exact this
  have q:=zaa (zap A d);have M:=zaa BP;have HF:Hid (∀H E F,H.ownsRow D.heap.size 57 4 (.slice E (k+(x.2.2.1.length - (k+1))) F) (k+(x.2.2.1.length - (k+1))) ((n.take k).flatten++(n.drop (k+1)).flatten)->Below D.heap.size D H->∃A9' c9',Blk (H.setCell ⟨w.heap.size,3,none⟩ (.slice E (k+(x.2.2.1.length - (k+1))) F)) w.heap.size 27 #[.bool true,.int .i64 x.2.1.1,.slice A1 x.2.1.2.length c1,.slice A9' (k+(x.2.2.1.length - (k+1))) c9',.int .i64 x.2.2.2]/\LabD B (H.setCell ⟨w.heap.size,3,none⟩ (.slice E (k+(x.2.2.1.length - (k+1))) F)) (true,x.2.1,(x.2.2.1.take k++x.2.2.1.drop (k+1)),x.2.2.2) (.slice A1 x.2.1.2.length c1) (.slice A9' (k+(x.2.2.1.length - (k+1))) c9')/\BelO B (.slice (some ⟨t,0,none⟩) x.2.2.1.length r) w (H.setCell ⟨w.heap.size,3,none⟩ (.slice E (k+(x.2.2.1.length - (k+1))) F))/\Blk (H.setCell ⟨w.heap.size,3,none⟩ (.slice E (k+(x.2.2.1.length - (k+1))) F)) (w.heap.size+1+1) 27 #[.bool false,.int .i64 0,.slice none 0 0,.slice none 0 0,.int .i64 0]):=fun H E F hown hz=>by
   have PD:=P.out.del q4i rfl hlt hown hz (by omega);have BP9:=BP.next hz;refine⟨E,F,by simpa using BP9.set_ 3 (.slice E (k+(x.2.2.1.length - (k+1))) F),⟨css,bls,_,_,PO.setB (k:=3) (HPO0.out.next hz) BP9 (by decide) (by decide) _,PGf.setB (k:=3) PD BP9 (by decide) (by decide) _,fun b hb hm=>?_⟩,BelO.of ((q9 HT0.out hz rfl).setCell (p:=⟨w.heap.size,3,none⟩) (zad _) _) hB,(BZ.next hz).far (p:=⟨w.heap.size,3,none⟩) (by show _≠w.heap.size;omega) _⟩
   rcases zat.1 hm with hm|hm
   .exact q5p (HPO0.out.next hz) hown b hb hm
   .refine HAP.out b hb (zay _ ?_)
    obtain⟨bk,h1,h2⟩:=zbp.1 hm;refine zbp.2 ⟨bk,?_,h2⟩
    rcases zat.1 h1 with h1|h1
    .exact zbu h1
    .exact zdy h1
  have f:Below D.heap.size D D:=zab _ _;have C:=BP;clear hONE U hl1 hadd;go_upto_region 25 with fail
  go_cut []from 93 to 107 (fun wx=>∃E F,Blk wx w.heap.size 27 #[.bool true,.int .i64 x.2.1.1,.slice A1 x.2.1.2.length c1,.slice E (k+(x.2.2.1.length - (k+1))) F,.int .i64 x.2.2.2]/\LabD B wx (true,x.2.1,(x.2.2.1.take k++x.2.2.1.drop (k+1)),x.2.2.2) (.slice A1 x.2.1.2.length c1) (.slice E (k+(x.2.2.1.length - (k+1))) F)/\BelO B (.slice (some ⟨t,0,none⟩) x.2.2.1.length r) w wx/\Blk wx (w.heap.size+1+1) 27 #[.bool false,.int .i64 0,.slice none 0 0,.slice none 0 0,.int .i64 0])
  case first=>
   refine zb1 (S:=fun w'=>w'.cell? ⟨w.heap.size+1,7,none⟩=some (.int .i64 (k:Int))) (by kernel_rfl) d (fun hHeld0=>?_);obtain⟨l,Hwt1⟩:∃x,Hid (x=World.drew D):=⟨_,rfl⟩;have R:Below D.heap.size D l:=by rw[Hwt1.out];exact(zab _ _).drew
   rw[<-Hwt1.out]at hHeld0⊢;have ywt1:=R.size;replace A:=qe R A;replace f:=q9 f R rfl;replace d:=qe R d;refine tp 1 (.pointer (some ⟨w.heap.size,3,none⟩)) rfl ?_;refine tp 3 (.pointer (some ⟨w.heap.size+1,7,none⟩)) rfl ?_;refine tk 4 (.int .i64 (k:Int)) rfl (.inl ⟨by kernel_rfl,fun wv hSw=>by(have hS0:=hSw);go_simp⟩) ?_;refine tp 7 (.pointer (some ⟨w.heap.size,3,none⟩)) rfl ?_;refine tp 9 (.pointer (some ⟨w.heap.size+1,7,none⟩)) rfl ?_;refine tk 10 (.int .i64 (k:Int)) rfl (.inl ⟨by kernel_rfl,fun wv hSw=>by(have hS0:=hSw);go_simp⟩) ?_;refine tp 11 (.int .i64 ((k:Int)+1)) rfl ?_
   (try simp only[Act.put,zA,zB,zC,zD,zE,zF])
   refine zft (rs:= [0,2,8]) (by kernel_rfl) (by simp) ?_;refine(zd3 rfl (fun K hK=>?_) (zd3 rfl (fun K hK=>?_) (zd3 rfl (fun K hK=>?_) AllReadyH.nil)))
   .go_simp
    obtain⟨V,Hwt2⟩:∃x,Hid (x=l.alloc (.cells #[] 57)):=⟨_,zaa rfl⟩;rw[<-Hwt2.out];have Y:Below l.heap.size l V:=by rw[Hwt2.out];exact qm _ _
    have Bwt2:Blk V l.heap.size 57 #[]:=by rw[Hwt2.out];exact Blk.new _ _ _
    replace A:=qe Y A;replace f:=q9 f Y rfl;replace d:=qe Y d;refine hK.out _ _ d (fun hHeld1=>?_);clear hK K hHeld0
    (try simp only[Act.put,zA,zB,zC,zD,zE,zF])
    refine r2 2 8 rfl (fun K hK=>?_) rfl (fun K hK=>?_)
    .go_simp
     refine hK.out _ _ d (fun hHeld2=>?_);clear hK K hHeld1;refine tp 5 (.slice (some ⟨t,0,none⟩) k r) rfl ?_
     (try simp only[Act.put,zA,zB,zC,zD,zE,zF])
     refine r2 6 8 rfl (fun K hK=>?_) rfl (fun K hK=>?_)
     .have I:V.ownsRow D.heap.size 57 4 (.slice (some ⟨l.heap.size,0,none⟩) 0 0) 0 []:=q3u Bwt2 (by omega)
      refine q1z V rfl (.tmp 93) (.tmp 98) 25 57 rfl (.agg #[.int .i64 0,.slice none 0 0,.slice none 0 0,.slice none 0 0]) 4 80 zbz q17 rfl (by decide) (by decide) D.heap.size 0 0 (some ⟨l.heap.size,0,none⟩) [] (by rfl) I ⟨t,0,none⟩ k r (n.take k).flatten (by rfl) T.out (fun j v z=>qe f (O.out j v z)) (y.out.1) (by omega) (by exact f.size) ?_;intro W X w8 i ab J;simp only[zcm,zch]at i⊢;replace f:=f.trans J;replace A:=qe f q.out.1;replace d:=qe f q.out.2;refine hK.out _ _ d (fun hHeld3=>?_);clear hK K hHeld2
      (try simp only[Act.put,zA,zB,zC,zD,zE,zF])
      refine r1 8 rfl (fun K hK=>?_);go_simp;refine hK.out _ _ d (fun hHeld4=>?_);clear hK K hHeld3;refine tp 12 (.slice (if r=k+1 then some (⟨t,0,none⟩:Addr)else some ⟨t,(k+1)*4,none⟩) (x.2.2.1.length - (k+1)) (r - (k+1))) rfl ?_
      (try simp only[Act.put,zA,zB,zC,zD,zE,zF])
      refine r1 13 rfl (fun K hK=>?_);refine q1z w8 rfl (.tmp 99) (.tmp 105) 25 57 rfl (.agg #[.int .i64 0,.slice none 0 0,.slice none 0 0,.slice none 0 0]) 4 80 zbz q17 rfl (by decide) (by decide) D.heap.size k X W (n.take k).flatten (by rfl) i ad (x.2.2.1.length - (k+1)) (r - (k+1)) (n.drop (k+1)).flatten (by show Value.slice (if r=k+1 then some (⟨t,0,none⟩:Addr)else some ⟨t,(k+1)*4,none⟩) _ _=_;rw[G.out]) Q.out (fun j v z=>qe f (N.out j v z)) (y.out.2) (by omega) (by exact f.size) ?_;intro E F H o ac L;replace f:=f.trans L;replace A:=qe f q.out.1;replace d:=qe f q.out.2;replace C:=M.out.next f;refine hK.out _ _ d (fun hHeld5=>?_);clear hK K hHeld4;refine tp 14 (.pointer (some ⟨w.heap.size,3,none⟩)) rfl ?_
      (try simp only[Act.put,zA,zB,zC,zD,zE,zF])
      refine r1 15 rfl (fun K hK=>?_);have fO:=C.frozen 3;go_simp;replace d:=(zb9 (w:=H) (w':=H.setCell ⟨w.heap.size,3,none⟩ (.slice E (k+(x.2.2.1.length - (k+1))) F)) (a:=⟨w.heap.size+1,7,none⟩) (zal _ ⟨w.heap.size,3,none⟩ _ _ (by show w.heap.size+1≠w.heap.size;omega))).trans d;refine hK.out _ _ d (fun hHeld6=>?_);clear hK K hHeld5
      (try simp only[Act.put,zA,zB,zC,zD,zE,zF])
      refine zbg (by kernel_rfl) ?_ _;rw[G.out];go_wp2_with fail;go_meet;exact HF.out _ _ _ o f
     .go_simp
      refine hK.out _ _ d (fun hHeld3=>?_);clear hK K hHeld2;refine tp 12 (.slice (if r=k+1 then some (⟨t,0,none⟩:Addr)else some ⟨t,(k+1)*4,none⟩) (x.2.2.1.length - (k+1)) (r - (k+1))) rfl ?_
      (try simp only[Act.put,zA,zB,zC,zD,zE,zF])
      refine r1 6 rfl (fun K hK=>?_);have I:V.ownsRow D.heap.size 57 4 (.slice (some ⟨l.heap.size,0,none⟩) 0 0) 0 []:=q3u Bwt2 (by omega);refine q1z V rfl (.tmp 93) (.tmp 98) 25 57 rfl (.agg #[.int .i64 0,.slice none 0 0,.slice none 0 0,.slice none 0 0]) 4 80 zbz q17 rfl (by decide) (by decide) D.heap.size 0 0 (some ⟨l.heap.size,0,none⟩) [] (by rfl) I ⟨t,0,none⟩ k r (n.take k).flatten (by rfl) T.out (fun j v z=>qe f (O.out j v z)) (y.out.1) (by omega) (by exact f.size) ?_;intro W X w8 i ab J;simp only[zcm,zch]at i⊢;replace f:=f.trans J;replace d:=qe f q.out.2;refine hK.out _ _ d (fun hHeld4=>?_);clear hK K hHeld3
      (try simp only[Act.put,zA,zB,zC,zD,zE,zF])
      refine r1 13 rfl (fun K hK=>?_);refine q1z w8 rfl (.tmp 99) (.tmp 105) 25 57 rfl (.agg #[.int .i64 0,.slice none 0 0,.slice none 0 0,.slice none 0 0]) 4 80 zbz q17 rfl (by decide) (by decide) D.heap.size k X W (n.take k).flatten (by rfl) i ad (x.2.2.1.length - (k+1)) (r - (k+1)) (n.drop (k+1)).flatten (by show Value.slice (if r=k+1 then some (⟨t,0,none⟩:Addr)else some ⟨t,(k+1)*4,none⟩) _ _=_;rw[G.out]) Q.out (fun j v z=>qe f (N.out j v z)) (y.out.2) (by omega) (by exact f.size) ?_;intro E F H o ac L;replace f:=f.trans L;replace A:=qe f q.out.1;replace d:=qe f q.out.2;replace C:=M.out.next f;refine hK.out _ _ d (fun hHeld5=>?_);clear hK K hHeld4;refine tp 14 (.pointer (some ⟨w.heap.size,3,none⟩)) rfl ?_
      (try simp only[Act.put,zA,zB,zC,zD,zE,zF])
      refine r1 15 rfl (fun K hK=>?_);have fO:=C.frozen 3;go_simp;replace d:=(zb9 (w:=H) (w':=H.setCell ⟨w.heap.size,3,none⟩ (.slice E (k+(x.2.2.1.length - (k+1))) F)) (a:=⟨w.heap.size+1,7,none⟩) (zal _ ⟨w.heap.size,3,none⟩ _ _ (by show w.heap.size+1≠w.heap.size;omega))).trans d;refine hK.out _ _ d (fun hHeld6=>?_);clear hK K hHeld5
      (try simp only[Act.put,zA,zB,zC,zD,zE,zF])
      refine zbg (by kernel_rfl) ?_ _;rw[G.out];go_wp2_with fail;go_meet;exact HF.out _ _ _ o f
    .go_simp
     refine hK.out _ _ d (fun hHeld2=>?_);clear hK K hHeld1;refine tp 12 (.slice (if r=k+1 then some (⟨t,0,none⟩:Addr)else some ⟨t,(k+1)*4,none⟩) (x.2.2.1.length - (k+1)) (r - (k+1))) rfl ?_
     (try simp only[Act.put,zA,zB,zC,zD,zE,zF])
     refine r1 2 rfl (fun K hK=>?_);go_simp;refine hK.out _ _ d (fun hHeld3=>?_);clear hK K hHeld2;refine tp 5 (.slice (some ⟨t,0,none⟩) k r) rfl ?_
     (try simp only[Act.put,zA,zB,zC,zD,zE,zF])
     refine r1 6 rfl (fun K hK=>?_);have I:V.ownsRow D.heap.size 57 4 (.slice (some ⟨l.heap.size,0,none⟩) 0 0) 0 []:=q3u Bwt2 (by omega);refine q1z V rfl (.tmp 93) (.tmp 98) 25 57 rfl (.agg #[.int .i64 0,.slice none 0 0,.slice none 0 0,.slice none 0 0]) 4 80 zbz q17 rfl (by decide) (by decide) D.heap.size 0 0 (some ⟨l.heap.size,0,none⟩) [] (by rfl) I ⟨t,0,none⟩ k r (n.take k).flatten (by rfl) T.out (fun j v z=>qe f (O.out j v z)) (y.out.1) (by omega) (by exact f.size) ?_;intro W X w8 i ab J;simp only[zcm,zch]at i⊢;replace f:=f.trans J;replace d:=qe f q.out.2;refine hK.out _ _ d (fun hHeld4=>?_);clear hK K hHeld3
     (try simp only[Act.put,zA,zB,zC,zD,zE,zF])
     refine r1 13 rfl (fun K hK=>?_);refine q1z w8 rfl (.tmp 99) (.tmp 105) 25 57 rfl (.agg #[.int .i64 0,.slice none 0 0,.slice none 0 0,.slice none 0 0]) 4 80 zbz q17 rfl (by decide) (by decide) D.heap.size k X W (n.take k).flatten (by rfl) i ad (x.2.2.1.length - (k+1)) (r - (k+1)) (n.drop (k+1)).flatten (by show Value.slice (if r=k+1 then some (⟨t,0,none⟩:Addr)else some ⟨t,(k+1)*4,none⟩) _ _=_;rw[G.out]) Q.out (fun j v z=>qe f (N.out j v z)) (y.out.2) (by omega) (by exact f.size) ?_;intro E F H o ac L;replace f:=f.trans L;replace A:=qe f q.out.1;replace d:=qe f q.out.2;replace C:=M.out.next f;refine hK.out _ _ d (fun hHeld5=>?_);clear hK K hHeld4;refine tp 14 (.pointer (some ⟨w.heap.size,3,none⟩)) rfl ?_
     (try simp only[Act.put,zA,zB,zC,zD,zE,zF])
     refine r1 15 rfl (fun K hK=>?_);have fO:=C.frozen 3;go_simp;replace d:=(zb9 (w:=H) (w':=H.setCell ⟨w.heap.size,3,none⟩ (.slice E (k+(x.2.2.1.length - (k+1))) F)) (a:=⟨w.heap.size+1,7,none⟩) (zal _ ⟨w.heap.size,3,none⟩ _ _ (by show w.heap.size+1≠w.heap.size;omega))).trans d;refine hK.out _ _ d (fun hHeld6=>?_);clear hK K hHeld5
     (try simp only[Act.put,zA,zB,zC,zD,zE,zF])
     refine zbg (by kernel_rfl) ?_ _;rw[G.out];go_wp2_with fail;go_meet;exact HF.out _ _ _ o f
   .go_simp
    refine hK.out _ _ d (fun hHeld1=>?_);clear hK K hHeld0;refine tp 5 (.slice (some ⟨t,0,none⟩) k r) rfl ?_
    (try simp only[Act.put,zA,zB,zC,zD,zE,zF])
    refine r2 0 8 rfl (fun K hK=>?_) rfl (fun K hK=>?_)
    .go_simp
     obtain⟨wt3,Hwt3⟩:∃x,Hid (x=l.alloc (.cells #[] 57)):=⟨_,zaa rfl⟩;rw[<-Hwt3.out];have Z:Below l.heap.size l wt3:=by rw[Hwt3.out];exact qm _ _
     have Bwt3:Blk wt3 l.heap.size 57 #[]:=by rw[Hwt3.out];exact Blk.new _ _ _
     replace A:=qe Z A;replace f:=q9 f Z rfl;replace d:=qe Z d;refine hK.out _ _ d (fun hHeld2=>?_);clear hK K hHeld1
     (try simp only[Act.put,zA,zB,zC,zD,zE,zF])
     refine r2 6 8 rfl (fun K hK=>?_) rfl (fun K hK=>?_)
     .have I:wt3.ownsRow D.heap.size 57 4 (.slice (some ⟨l.heap.size,0,none⟩) 0 0) 0 []:=q3u Bwt3 (by omega)
      refine q1z wt3 rfl (.tmp 93) (.tmp 98) 25 57 rfl (.agg #[.int .i64 0,.slice none 0 0,.slice none 0 0,.slice none 0 0]) 4 80 zbz q17 rfl (by decide) (by decide) D.heap.size 0 0 (some ⟨l.heap.size,0,none⟩) [] (by rfl) I ⟨t,0,none⟩ k r (n.take k).flatten (by rfl) T.out (fun j v z=>qe f (O.out j v z)) (y.out.1) (by omega) (by exact f.size) ?_;intro W X w8 i ab J;simp only[zcm,zch]at i⊢;replace f:=f.trans J;replace A:=qe f q.out.1;replace d:=qe f q.out.2;refine hK.out _ _ d (fun hHeld3=>?_);clear hK K hHeld2
      (try simp only[Act.put,zA,zB,zC,zD,zE,zF])
      refine r1 8 rfl (fun K hK=>?_);go_simp;refine hK.out _ _ d (fun hHeld4=>?_);clear hK K hHeld3;refine tp 12 (.slice (if r=k+1 then some (⟨t,0,none⟩:Addr)else some ⟨t,(k+1)*4,none⟩) (x.2.2.1.length - (k+1)) (r - (k+1))) rfl ?_
      (try simp only[Act.put,zA,zB,zC,zD,zE,zF])
      refine r1 13 rfl (fun K hK=>?_);refine q1z w8 rfl (.tmp 99) (.tmp 105) 25 57 rfl (.agg #[.int .i64 0,.slice none 0 0,.slice none 0 0,.slice none 0 0]) 4 80 zbz q17 rfl (by decide) (by decide) D.heap.size k X W (n.take k).flatten (by rfl) i ad (x.2.2.1.length - (k+1)) (r - (k+1)) (n.drop (k+1)).flatten (by show Value.slice (if r=k+1 then some (⟨t,0,none⟩:Addr)else some ⟨t,(k+1)*4,none⟩) _ _=_;rw[G.out]) Q.out (fun j v z=>qe f (N.out j v z)) (y.out.2) (by omega) (by exact f.size) ?_;intro E F H o ac L;replace f:=f.trans L;replace A:=qe f q.out.1;replace d:=qe f q.out.2;replace C:=M.out.next f;refine hK.out _ _ d (fun hHeld5=>?_);clear hK K hHeld4;refine tp 14 (.pointer (some ⟨w.heap.size,3,none⟩)) rfl ?_
      (try simp only[Act.put,zA,zB,zC,zD,zE,zF])
      refine r1 15 rfl (fun K hK=>?_);have fO:=C.frozen 3;go_simp;replace d:=(zb9 (w:=H) (w':=H.setCell ⟨w.heap.size,3,none⟩ (.slice E (k+(x.2.2.1.length - (k+1))) F)) (a:=⟨w.heap.size+1,7,none⟩) (zal _ ⟨w.heap.size,3,none⟩ _ _ (by show w.heap.size+1≠w.heap.size;omega))).trans d;refine hK.out _ _ d (fun hHeld6=>?_);clear hK K hHeld5
      (try simp only[Act.put,zA,zB,zC,zD,zE,zF])
      refine zbg (by kernel_rfl) ?_ _;rw[G.out];go_wp2_with fail;go_meet;exact HF.out _ _ _ o f
     .go_simp
      refine hK.out _ _ d (fun hHeld3=>?_);clear hK K hHeld2;refine tp 12 (.slice (if r=k+1 then some (⟨t,0,none⟩:Addr)else some ⟨t,(k+1)*4,none⟩) (x.2.2.1.length - (k+1)) (r - (k+1))) rfl ?_
      (try simp only[Act.put,zA,zB,zC,zD,zE,zF])
      refine r1 6 rfl (fun K hK=>?_);have I:wt3.ownsRow D.heap.size 57 4 (.slice (some ⟨l.heap.size,0,none⟩) 0 0) 0 []:=q3u Bwt3 (by omega);refine q1z wt3 rfl (.tmp 93) (.tmp 98) 25 57 rfl (.agg #[.int .i64 0,.slice none 0 0,.slice none 0 0,.slice none 0 0]) 4 80 zbz q17 rfl (by decide) (by decide) D.heap.size 0 0 (some ⟨l.heap.size,0,none⟩) [] (by rfl) I ⟨t,0,none⟩ k r (n.take k).flatten (by rfl) T.out (fun j v z=>qe f (O.out j v z)) (y.out.1) (by omega) (by exact f.size) ?_;intro W X w8 i ab J;simp only[zcm,zch]at i⊢;replace f:=f.trans J;replace d:=qe f q.out.2;refine hK.out _ _ d (fun hHeld4=>?_);clear hK K hHeld3
      (try simp only[Act.put,zA,zB,zC,zD,zE,zF])
      refine r1 13 rfl (fun K hK=>?_);refine q1z w8 rfl (.tmp 99) (.tmp 105) 25 57 rfl (.agg #[.int .i64 0,.slice none 0 0,.slice none 0 0,.slice none 0 0]) 4 80 zbz q17 rfl (by decide) (by decide) D.heap.size k X W (n.take k).flatten (by rfl) i ad (x.2.2.1.length - (k+1)) (r - (k+1)) (n.drop (k+1)).flatten (by show Value.slice (if r=k+1 then some (⟨t,0,none⟩:Addr)else some ⟨t,(k+1)*4,none⟩) _ _=_;rw[G.out]) Q.out (fun j v z=>qe f (N.out j v z)) (y.out.2) (by omega) (by exact f.size) ?_;intro E F H o ac L;replace f:=f.trans L;replace A:=qe f q.out.1;replace d:=qe f q.out.2;replace C:=M.out.next f;refine hK.out _ _ d (fun hHeld5=>?_);clear hK K hHeld4;refine tp 14 (.pointer (some ⟨w.heap.size,3,none⟩)) rfl ?_
      (try simp only[Act.put,zA,zB,zC,zD,zE,zF])
      refine r1 15 rfl (fun K hK=>?_);have fO:=C.frozen 3;go_simp;replace d:=(zb9 (w:=H) (w':=H.setCell ⟨w.heap.size,3,none⟩ (.slice E (k+(x.2.2.1.length - (k+1))) F)) (a:=⟨w.heap.size+1,7,none⟩) (zal _ ⟨w.heap.size,3,none⟩ _ _ (by show w.heap.size+1≠w.heap.size;omega))).trans d;refine hK.out _ _ d (fun hHeld6=>?_);clear hK K hHeld5
      (try simp only[Act.put,zA,zB,zC,zD,zE,zF])
      refine zbg (by kernel_rfl) ?_ _;rw[G.out];go_wp2_with fail;go_meet;exact HF.out _ _ _ o f
    .go_simp
     refine hK.out _ _ d (fun hHeld2=>?_);clear hK K hHeld1;refine tp 12 (.slice (if r=k+1 then some (⟨t,0,none⟩:Addr)else some ⟨t,(k+1)*4,none⟩) (x.2.2.1.length - (k+1)) (r - (k+1))) rfl ?_
     (try simp only[Act.put,zA,zB,zC,zD,zE,zF])
     refine r1 0 rfl (fun K hK=>?_);go_simp;obtain⟨wt4,Hwt4⟩:∃x,Hid (x=l.alloc (.cells #[] 57)):=⟨_,zaa rfl⟩;rw[<-Hwt4.out];have hbwt4:Below l.heap.size l wt4:=by rw[Hwt4.out];exact qm _ _
     have Bwt4:Blk wt4 l.heap.size 57 #[]:=by rw[Hwt4.out];exact Blk.new _ _ _
     replace f:=q9 f hbwt4 rfl;replace d:=qe hbwt4 d;refine hK.out _ _ d (fun hHeld3=>?_);clear hK K hHeld2
     (try simp only[Act.put,zA,zB,zC,zD,zE,zF])
     refine r1 6 rfl (fun K hK=>?_);have I:wt4.ownsRow D.heap.size 57 4 (.slice (some ⟨l.heap.size,0,none⟩) 0 0) 0 []:=q3u Bwt4 (by omega);refine q1z wt4 rfl (.tmp 93) (.tmp 98) 25 57 rfl (.agg #[.int .i64 0,.slice none 0 0,.slice none 0 0,.slice none 0 0]) 4 80 zbz q17 rfl (by decide) (by decide) D.heap.size 0 0 (some ⟨l.heap.size,0,none⟩) [] (by rfl) I ⟨t,0,none⟩ k r (n.take k).flatten (by rfl) T.out (fun j v z=>qe f (O.out j v z)) (y.out.1) (by omega) (by exact f.size) ?_;intro W X w8 i ab J;simp only[zcm,zch]at i⊢;replace f:=f.trans J;replace d:=qe f q.out.2;refine hK.out _ _ d (fun hHeld4=>?_);clear hK K hHeld3
     (try simp only[Act.put,zA,zB,zC,zD,zE,zF])
     refine r1 13 rfl (fun K hK=>?_);refine q1z w8 rfl (.tmp 99) (.tmp 105) 25 57 rfl (.agg #[.int .i64 0,.slice none 0 0,.slice none 0 0,.slice none 0 0]) 4 80 zbz q17 rfl (by decide) (by decide) D.heap.size k X W (n.take k).flatten (by rfl) i ad (x.2.2.1.length - (k+1)) (r - (k+1)) (n.drop (k+1)).flatten (by show Value.slice (if r=k+1 then some (⟨t,0,none⟩:Addr)else some ⟨t,(k+1)*4,none⟩) _ _=_;rw[G.out]) Q.out (fun j v z=>qe f (N.out j v z)) (y.out.2) (by omega) (by exact f.size) ?_;intro E F H o ac L;replace f:=f.trans L;replace A:=qe f q.out.1;replace d:=qe f q.out.2;replace C:=M.out.next f;refine hK.out _ _ d (fun hHeld5=>?_);clear hK K hHeld4;refine tp 14 (.pointer (some ⟨w.heap.size,3,none⟩)) rfl ?_
     (try simp only[Act.put,zA,zB,zC,zD,zE,zF])
     refine r1 15 rfl (fun K hK=>?_);have fO:=C.frozen 3;go_simp;replace d:=(zb9 (w:=H) (w':=H.setCell ⟨w.heap.size,3,none⟩ (.slice E (k+(x.2.2.1.length - (k+1))) F)) (a:=⟨w.heap.size+1,7,none⟩) (zal _ ⟨w.heap.size,3,none⟩ _ _ (by show w.heap.size+1≠w.heap.size;omega))).trans d;refine hK.out _ _ d (fun hHeld6=>?_);clear hK K hHeld5
     (try simp only[Act.put,zA,zB,zC,zD,zE,zF])
     refine zbg (by kernel_rfl) ?_ _;rw[G.out];go_wp2_with fail;go_meet;exact HF.out _ _ _ o f
   .go_simp
    refine hK.out _ _ d (fun hHeld1=>?_);clear hK K hHeld0;refine tp 12 (.slice (if r=k+1 then some (⟨t,0,none⟩:Addr)else some ⟨t,(k+1)*4,none⟩) (x.2.2.1.length - (k+1)) (r - (k+1))) rfl ?_
    (try simp only[Act.put,zA,zB,zC,zD,zE,zF])
    refine r2 0 2 rfl (fun K hK=>?_) rfl (fun K hK=>?_)
    .go_simp
     obtain⟨wt5,Hwt5⟩:∃x,Hid (x=l.alloc (.cells #[] 57)):=⟨_,zaa rfl⟩;rw[<-Hwt5.out];have aa:Below l.heap.size l wt5:=by rw[Hwt5.out];exact qm _ _
     have Bwt5:Blk wt5 l.heap.size 57 #[]:=by rw[Hwt5.out];exact Blk.new _ _ _
     replace A:=qe aa A;replace f:=q9 f aa rfl;replace d:=qe aa d;refine hK.out _ _ d (fun hHeld2=>?_);clear hK K hHeld1
     (try simp only[Act.put,zA,zB,zC,zD,zE,zF])
     refine r1 2 rfl (fun K hK=>?_);go_simp;refine hK.out _ _ d (fun hHeld3=>?_);clear hK K hHeld2;refine tp 5 (.slice (some ⟨t,0,none⟩) k r) rfl ?_
     (try simp only[Act.put,zA,zB,zC,zD,zE,zF])
     refine r1 6 rfl (fun K hK=>?_);have I:wt5.ownsRow D.heap.size 57 4 (.slice (some ⟨l.heap.size,0,none⟩) 0 0) 0 []:=q3u Bwt5 (by omega);refine q1z wt5 rfl (.tmp 93) (.tmp 98) 25 57 rfl (.agg #[.int .i64 0,.slice none 0 0,.slice none 0 0,.slice none 0 0]) 4 80 zbz q17 rfl (by decide) (by decide) D.heap.size 0 0 (some ⟨l.heap.size,0,none⟩) [] (by rfl) I ⟨t,0,none⟩ k r (n.take k).flatten (by rfl) T.out (fun j v z=>qe f (O.out j v z)) (y.out.1) (by omega) (by exact f.size) ?_;intro W X w8 i ab J;simp only[zcm,zch]at i⊢;replace f:=f.trans J;replace d:=qe f q.out.2;refine hK.out _ _ d (fun hHeld4=>?_);clear hK K hHeld3
     (try simp only[Act.put,zA,zB,zC,zD,zE,zF])
     refine r1 13 rfl (fun K hK=>?_);refine q1z w8 rfl (.tmp 99) (.tmp 105) 25 57 rfl (.agg #[.int .i64 0,.slice none 0 0,.slice none 0 0,.slice none 0 0]) 4 80 zbz q17 rfl (by decide) (by decide) D.heap.size k X W (n.take k).flatten (by rfl) i ad (x.2.2.1.length - (k+1)) (r - (k+1)) (n.drop (k+1)).flatten (by show Value.slice (if r=k+1 then some (⟨t,0,none⟩:Addr)else some ⟨t,(k+1)*4,none⟩) _ _=_;rw[G.out]) Q.out (fun j v z=>qe f (N.out j v z)) (y.out.2) (by omega) (by exact f.size) ?_;intro E F H o ac L;replace f:=f.trans L;replace A:=qe f q.out.1;replace d:=qe f q.out.2;replace C:=M.out.next f;refine hK.out _ _ d (fun hHeld5=>?_);clear hK K hHeld4;refine tp 14 (.pointer (some ⟨w.heap.size,3,none⟩)) rfl ?_
     (try simp only[Act.put,zA,zB,zC,zD,zE,zF])
     refine r1 15 rfl (fun K hK=>?_);have fO:=C.frozen 3;go_simp;replace d:=(zb9 (w:=H) (w':=H.setCell ⟨w.heap.size,3,none⟩ (.slice E (k+(x.2.2.1.length - (k+1))) F)) (a:=⟨w.heap.size+1,7,none⟩) (zal _ ⟨w.heap.size,3,none⟩ _ _ (by show w.heap.size+1≠w.heap.size;omega))).trans d;refine hK.out _ _ d (fun hHeld6=>?_);clear hK K hHeld5
     (try simp only[Act.put,zA,zB,zC,zD,zE,zF])
     refine zbg (by kernel_rfl) ?_ _;rw[G.out];go_wp2_with fail;go_meet;exact HF.out _ _ _ o f
    .go_simp
     refine hK.out _ _ d (fun hHeld2=>?_);clear hK K hHeld1;refine tp 5 (.slice (some ⟨t,0,none⟩) k r) rfl ?_
     (try simp only[Act.put,zA,zB,zC,zD,zE,zF])
     refine r1 0 rfl (fun K hK=>?_);go_simp;obtain⟨wt6,Hwt6⟩:∃x,Hid (x=l.alloc (.cells #[] 57)):=⟨_,zaa rfl⟩;rw[<-Hwt6.out];have hbwt6:Below l.heap.size l wt6:=by rw[Hwt6.out];exact qm _ _
     have Bwt6:Blk wt6 l.heap.size 57 #[]:=by rw[Hwt6.out];exact Blk.new _ _ _
     replace f:=q9 f hbwt6 rfl;replace d:=qe hbwt6 d;refine hK.out _ _ d (fun hHeld3=>?_);clear hK K hHeld2
     (try simp only[Act.put,zA,zB,zC,zD,zE,zF])
     refine r1 6 rfl (fun K hK=>?_);have I:wt6.ownsRow D.heap.size 57 4 (.slice (some ⟨l.heap.size,0,none⟩) 0 0) 0 []:=q3u Bwt6 (by omega);refine q1z wt6 rfl (.tmp 93) (.tmp 98) 25 57 rfl (.agg #[.int .i64 0,.slice none 0 0,.slice none 0 0,.slice none 0 0]) 4 80 zbz q17 rfl (by decide) (by decide) D.heap.size 0 0 (some ⟨l.heap.size,0,none⟩) [] (by rfl) I ⟨t,0,none⟩ k r (n.take k).flatten (by rfl) T.out (fun j v z=>qe f (O.out j v z)) (y.out.1) (by omega) (by exact f.size) ?_;intro W X w8 i ab J;simp only[zcm,zch]at i⊢;replace f:=f.trans J;replace d:=qe f q.out.2;refine hK.out _ _ d (fun hHeld4=>?_);clear hK K hHeld3
     (try simp only[Act.put,zA,zB,zC,zD,zE,zF])
     refine r1 13 rfl (fun K hK=>?_);refine q1z w8 rfl (.tmp 99) (.tmp 105) 25 57 rfl (.agg #[.int .i64 0,.slice none 0 0,.slice none 0 0,.slice none 0 0]) 4 80 zbz q17 rfl (by decide) (by decide) D.heap.size k X W (n.take k).flatten (by rfl) i ad (x.2.2.1.length - (k+1)) (r - (k+1)) (n.drop (k+1)).flatten (by show Value.slice (if r=k+1 then some (⟨t,0,none⟩:Addr)else some ⟨t,(k+1)*4,none⟩) _ _=_;rw[G.out]) Q.out (fun j v z=>qe f (N.out j v z)) (y.out.2) (by omega) (by exact f.size) ?_;intro E F H o ac L;replace f:=f.trans L;replace A:=qe f q.out.1;replace d:=qe f q.out.2;replace C:=M.out.next f;refine hK.out _ _ d (fun hHeld5=>?_);clear hK K hHeld4;refine tp 14 (.pointer (some ⟨w.heap.size,3,none⟩)) rfl ?_
     (try simp only[Act.put,zA,zB,zC,zD,zE,zF])
     refine r1 15 rfl (fun K hK=>?_);have fO:=C.frozen 3;go_simp;replace d:=(zb9 (w:=H) (w':=H.setCell ⟨w.heap.size,3,none⟩ (.slice E (k+(x.2.2.1.length - (k+1))) F)) (a:=⟨w.heap.size+1,7,none⟩) (zal _ ⟨w.heap.size,3,none⟩ _ _ (by show w.heap.size+1≠w.heap.size;omega))).trans d;refine hK.out _ _ d (fun hHeld6=>?_);clear hK K hHeld5
     (try simp only[Act.put,zA,zB,zC,zD,zE,zF])
     refine zbg (by kernel_rfl) ?_ _;rw[G.out];go_wp2_with fail;go_meet;exact HF.out _ _ _ o f
  case rest=>
   obtain⟨E,F,BP9,hD9,T9,BZ9⟩:=hcut;obtain⟨H,HWC⟩:∃wq:World,wq=wc:=⟨_,rfl⟩;subst HWC;have HOK:Hid ((decide (((x.2.2.1.take k++x.2.2.1.drop (k+1)).length:Int)<=12) &&decide (x.2.2.2<=9999))=true):=by show _=_;rw[zbm hr.2,zbm (by rw[zbl,za8,zcq];omega)];rfl
   have HLX:=zaa (hD9.set5 BZ9 (.bool true) (.int .i64 x.2.1.1) (.slice A1 x.2.1.2.length c1) (.slice E (k+(x.2.2.1.length - (k+1))) F) (.int .i64 x.2.2.2));have HBX:=zaa (q18 BZ9 (.bool true) (.int .i64 x.2.1.1) (.slice A1 x.2.1.2.length c1) (.slice E (k+(x.2.2.1.length - (k+1))) F) (.int .i64 x.2.2.2));have HTX:=zaa (BelO.set5 T9 (g:=w.heap.size+1+1) (by omega) hB (.bool true) (.int .i64 x.2.1.1) (.slice A1 x.2.1.2.length c1) (.slice E (k+(x.2.2.1.length - (k+1))) F) (.int .i64 x.2.2.2));obtain⟨cA0,cA1,cA2,cA3,cA4⟩:=cl5 BP9;obtain⟨cZ0,cZ1,cZ2,cZ3,cZ4,fZ0,fZ1,fZ2,fZ3,fZ4⟩:=cf5 BZ9;clear hD9 T9 BP9 BZ9 C f;go_wp2_with fail
   (try simp only[Exit.inBlock,Exit.then])
   refine zas (v:=.tuple #[.agg #[.bool true,.int .i64 x.2.1.1,.slice A1 x.2.1.2.length c1,.slice E (k+(x.2.2.1.length - (k+1))) F,.int .i64 x.2.2.2],.bool true]) ?hr rfl ?_
   case hr=>exact qp rfl _ _ (w.heap.size+1+1) 27 #[.bool true,.int .i64 x.2.1.1,.slice A1 x.2.1.2.length c1,.slice E (k+(x.2.2.1.length - (k+1))) F,.int .i64 x.2.2.2] (0,0) _ _ rfl HBX.out zbk rfl (by kernel_rfl) rfl
   refine⟨HTX.out,ze1 ⟨(true,x.2.1,(x.2.2.1.take k++x.2.2.1.drop (k+1)),x.2.2.2),.slice A1 x.2.1.2.length c1,.slice E (k+(x.2.2.1.length - (k+1))) F,HM2.out,?_,HLX.out⟩⟩;show _=Ending.returned (.tuple #[_,.bool (decide (((x.2.2.1.take k++x.2.2.1.drop (k+1)).length:Int)<=12) &&decide (x.2.2.2<=9999))])
   rw[HOK.out]
theorem qma (B:Nat) (ds:List Value) (x:LabM) (s:qw) (w:World) (v u:Value) (hB:B<=w.heap.size) (X:LabD B w x v u) (M:World) (hwa:Below M.heap.size M w) (haB:M.heap.size<=B) (h':qn.rd M ds s) (t:x.1=true) (hx:AlgP x.2.1) (hln:x.2.2.1.length<=12) (hr:0<=x.2.2.2/\x.2.2.2<=9999) (htr:∀f∈x.2.2.1,q1l x.2.1 f=true) (hcf:∀f∈x.2.2.1,qj.cnt f<=1048576) (Y:s.1=6):
  Calls Tryz.prog 28 #[.agg #[.bool x.1,.int .i64 x.2.1.1,v,u,.int .i64 x.2.2.2],.agg ds.toArray] w (LmE B u w x s):=by
 have hrd':=h';have hD0:=X;obtain⟨AL,nL,cL,AR,nR,cR,AV,nV,cV,O,U,V,rfl,pK,pT,pF,pL,pR,pV,pS,pA,pB⟩:=q1f h';obtain⟨css,bls,dss,cls,hPO,hPG,hap⟩:=X;obtain⟨A1,c1,rfl⟩:=qq hPO.2.1;obtain⟨d,m,rfl⟩:=qq hPG.2.1;have hin:InR x.2.1.1:=⟨by have:=hx.1;omega,by have:=hx.2.1;omega⟩;obtain⟨w0,hw0,T0,Z,BP,BQ,BZ⟩:=q41 w #[.bool x.1,.int .i64 x.2.1.1,.slice A1 x.2.1.2.length c1,.slice d x.2.2.1.length m,.int .i64 x.2.2.2] #[.int .i64 s.1,.string s.2.1,.int .i64 s.2.2.1.1,.slice AL nL cL,.slice AR nR cR,.slice AV nV cV,.slice O U V,.int .i64 s.2.2.2.2.1,.int .i64 s.2.2.2.2.2] #[.bool false,.int .i64 0,.slice none 0 0,.slice none 0 0,.int .i64 0] 27 59 27;have HW0:=zaa hw0;have HT0:=zaa T0;have hs0:w0.heap.size=w.heap.size+3:=Z;have HOP:=zaa t;have HAX:=zaa hx;have HD0:Hid (LabD B w0 x (.slice A1 x.2.1.2.length c1) (.slice d x.2.2.1.length m)):=hD0.next T0;have HNG:Hid (w.heap.size+1+1∉obl (.slice d x.2.2.1.length m)):=fun h=>by have:=(hPG.2.2.2 _ (zba _ h)).2;omega
 have G:=BP.cell 0;have q:=BP.cell 1;have r:=BP.cell 2;have T:=BP.cell 4;have cQ0:=BQ.cell 0;have H:=BQ.cell 6;simp at G q r T cQ0 H;rw[t]at G;have HTA:Hid (∀c,Below B w c->Below M.heap.size M c):=fun c L=>hwa.trans (L.mono haB)
 have HNM:Hid (∀c,Below M.heap.size M c->RdL RI c O U s.2.2.2.1):=fun c L=>pS.next qd L
 obtain⟨N,HN⟩:∃N:Nat,Hid (x.2.1.1.toNat=N):=⟨_,zaa rfl⟩;have hx1:=hx.1;have hx2:=hx.2.1;have HXN:Hid (x.2.1.1=(N:Int)):=by show x.2.1.1=_;rw[<-HN.out];omega
 obtain⟨pb,HPB⟩:∃b,Hid (q7f N s.2.2.2.1=b):=⟨_,zaa rfl⟩;have HIO:Hid (∀c,Below M.heap.size M c->Calls Tryz.prog 63 #[.slice O U V,.int .i64 x.2.1.1] c (Bl c (.bool pb))):=fun c L=>by
  have:=qfg O U V N s.2.2.2.1 c (HNM.out c L) (by have:=HN.out;omega);rw[<-HXN.out,HPB.out]at this;exact this
 have HM0:Hid (makM x s=if pb=true then some (x.1,ren x.2.1 s.2.2.2.1,x.2.2.1.map fun f=>(f.1,f.2.1,rfL f.1 f.2.2 s.2.2.2.1),x.2.2.2)else none):=by
  show _=_
  unfold makM;rw[zaj (by rw[Y];decide),zaj (by rw[Y];decide),zaj (by rw[Y];decide),zao Y,HN.out,HPB.out]
 have HTR:=zaa htr;have HCF:=zaa hcf;have HPO0:=zaa (hPO.next T0);have hT0:Below B w w0:=T0.mono hB;rw[Y]at cQ0;clear Y htr hcf hx1 hx2 hx t;clear hw0 Z h' hrd' hPO hPG hap T0 pK pT pF pL pR pV pS pA pB hwa hD0
 go_enter Tryz.func28,zf8
 go_upto_region 1 with fail;rw[<-HW0.out];rw[HOP.out]at BP;go_wp2_with fail;refine(HIO.out w0 (HTA.out w0 hT0)).mono ?_;rintro e w1 ⟨rfl,n⟩;have T1:=q9 HT0.out n rfl;have F:=BZ.next n;have E:=BP.next n;have Q:=BQ.next n;clear G q r T cQ0 H
 rcases pb with _|_
 .have HM:Hid (makM x s=none):=HM0.out.trans (zaj (by decide))
  have HBX:=zaa (q18 F (.bool false) (.int .i64 0) (.slice none 0 0) (.slice none 0 0) (.int .i64 0));have HTX:=zaa (BelO.of (u:=.slice d x.2.2.1.length m) (q10 (T1) (g:=w.heap.size+1+1) (by omega) (.bool false) (.int .i64 0) (.slice none 0 0) (.slice none 0 0) (.int .i64 0)) hB);obtain⟨cZ0,cZ1,cZ2,cZ3,cZ4,fZ0,fZ1,fZ2,fZ3,fZ4⟩:=cf5 F;clear F T1 E Q;go_wp2_with fail
  (try simp only[Exit.inBlock,Exit.then])
  refine zas (v:=.tuple #[.agg #[.bool false,.int .i64 0,.slice none 0 0,.slice none 0 0,.int .i64 0],.bool false]) ?hr rfl ?_
  case hr=>exact qp rfl _ _ (w.heap.size+1+1) 27 #[.bool false,.int .i64 0,.slice none 0 0,.slice none 0 0,.int .i64 0] (0,0) _ _ rfl HBX.out zbk rfl (by kernel_rfl) rfl
  exact⟨HTX.out,Or.inl ⟨HM.out,rfl⟩⟩
 .have hpm:PermL N s.2.2.2.1:=q3p.1 HPB.out
  have HPM:Hid (PermL x.2.1.1.toNat s.2.2.2.1):=by show PermL _ _;rw[HN.out];exact hpm
  have HM2:Hid (makM x s=some (true,ren x.2.1 s.2.2.2.1,x.2.2.1.map fun f=>(f.1,f.2.1,rfL f.1 f.2.2 s.2.2.2.1),x.2.2.2)):=HM0.out.trans (by rw[zao rfl,HOP.out]);have HRN:=zaa (qc8 [.int .i64 x.2.1.1,.slice A1 x.2.1.2.length c1] x.2.1 O U V s.2.2.2.1 w1 (qf.ord ((HPO0.out.next n).algO hin)) (HNM.out w1 (HTA.out w1 (T1.mono hB))) HAX.out HPM.out);have HD1:=zaa (HD0.out.next n);have q:=E.cell 1;have r:=E.cell 2;have H:=Q.cell 6;simp at q r H;have hz1:=n.size;clear hpm;go_wp2_with fail;refine HRN.out.mono ?_;rintro e w2 ⟨v4,css4,bls4,rfl,J,A⟩;obtain⟨C,D,rfl⟩:=qq J.2.1;have T2:=q9 T1 A rfl;have j:=E.next A;have cO1:=j.cell 1;have fO1:=j.frozen 1;have cO2:=j.cell 2;have fO2:=j.frozen 2;simp at cO1 cO2;have hB1:B<=w1.heap.size:=by omega
  have hD2:=HD1.out.base A J hB1;obtain⟨w3,z⟩:∃wb,Hid (wb=(w2.setCell ⟨w.heap.size,1,none⟩ (.int .i64 (ren x.2.1 s.2.2.2.1).1)).setCell ⟨w.heap.size,2,none⟩ (.slice C (ren x.2.1 s.2.2.2.1).2.length D)):=⟨_,zaa rfl⟩;have BP3:Blk w3 w.heap.size 27 #[.bool true,.int .i64 x.2.1.1,.slice C (ren x.2.1 s.2.2.2.1).2.length D,.slice d x.2.2.1.length m,.int .i64 x.2.2.2]:=by
   rw[z.out];have h:=(j.set_ 1 (.int .i64 (ren x.2.1 s.2.2.2.1).1)).set_ 2 (.slice C (ren x.2.1 s.2.2.2.1).2.length D);simp at h;exact h
  have hD3:LabD B w3 (x.1,ren x.2.1 s.2.2.2.1,x.2.2.1,x.2.2.2) (.slice C (ren x.2.1 s.2.2.2.1).2.length D) (.slice d x.2.2.1.length m):=by rw[z.out];exact(hD2.setB j _).setB (j.set_ 1 _) _
  have T3:BelO B (.slice d x.2.2.1.length m) w w3:=by rw[z.out];exact BelO.of ((T2.setCell (p:=⟨w.heap.size,1,none⟩) (zad _) _).setCell (p:=⟨w.heap.size,2,none⟩) (zad _) _) hB
  have BQ3:Blk w3 (w.heap.size+1) 59 #[.int .i64 s.1,.string s.2.1,.int .i64 s.2.2.1.1,.slice AL nL cL,.slice AR nR cR,.slice AV nV cV,.slice O U V,.int .i64 s.2.2.2.2.1,.int .i64 s.2.2.2.2.2]:=by rw[z.out];exact((Q.next A).far (p:=⟨w.heap.size,1,none⟩) (by show _≠w.heap.size;omega) _).far (p:=⟨w.heap.size,2,none⟩) (by show _≠w.heap.size;omega) _
  have BZ3:Blk w3 (w.heap.size+1+1) 27 #[.bool false,.int .i64 0,.slice none 0 0,.slice none 0 0,.int .i64 0]:=by rw[z.out];exact((F.next A).far (p:=⟨w.heap.size,1,none⟩) (by show _≠w.heap.size;omega) _).far (p:=⟨w.heap.size,2,none⟩) (by show _≠w.heap.size;omega) _
  clear E Q F T1 T2 j q r H hD2 J A HRN n BP BQ BZ hT0;go_upto_region 31 with fail
  first|rw[hw3']|rw[<-z.out]
  clear cO1 cO2 fO1 fO2;go_wp2_with fail
  go_loopw [10] (fun i wr=>∃k:Nat,k<=x.2.2.1.length/\i=.int .i64 (k:Int)/\Blk wr w.heap.size 27 #[.bool true,.int .i64 x.2.1.1,.slice C (ren x.2.1 s.2.2.2.1).2.length D,.slice d x.2.2.1.length m,.int .i64 x.2.2.2]/\LabD B wr (x.1,ren x.2.1 s.2.2.2.1,rnTo x.2.2.1 s.2.2.2.1 k,x.2.2.2) (.slice C (ren x.2.1 s.2.2.2.1).2.length D) (.slice d x.2.2.1.length m)/\BelO B (.slice d x.2.2.1.length m) w wr/\Blk wr (w.heap.size+1) 59 #[.int .i64 s.1,.string s.2.1,.int .i64 s.2.2.1.1,.slice AL nL cL,.slice AR nR cR,.slice AV nV cV,.slice O U V,.int .i64 s.2.2.2.2.1,.int .i64 s.2.2.2.2.2]/\Blk wr (w.heap.size+1+1) 27 #[.bool false,.int .i64 0,.slice none 0 0,.slice none 0 0,.int .i64 0]) (fun i _=>x.2.2.1.length - (intOf i).toNat)
  case atStart=>exact⟨0,zah _,rfl,BP3,by rw[qek];exact hD3,T3,BQ3,BZ3⟩
  case round=>
   clear BP3 hD3 T3 BQ3 BZ3;obtain⟨k,Y,rfl,P,X,hT,R,y⟩:=hrel;have cO:=P.cell 3;simp at cO
   by_cases hlt:k<x.2.2.1.length
   .have hk0:(0:Int)<=(k:Int):=by omega
    have hk1:(k:Int)<(x.2.2.1.length:Int):=by omega
    have hD':=X;obtain⟨css2,bls2,dss2,cls2,hPO2,I,hap2⟩:=hD';have hrl:(rnTo x.2.2.1 s.2.2.2.1 k).length=x.2.2.1.length:=qh7 _ _ Y;have hOW:wr.ownsRow B 57 4 (.slice d x.2.2.1.length m) x.2.2.1.length dss2.flatten:=by
     have h:=I.2.1;rw[show((x.1,ren x.2.1 s.2.2.2.1,rnTo x.2.2.1 s.2.2.2.1 k,x.2.2.2):LabM).2.2.1.length=x.2.2.1.length from hrl]at h;exact h
    obtain⟨W,rfl,hg2,hnc⟩:=q2b hOW (by omega);obtain⟨A',c',e',hrd⟩:=I.rd;injection e' with e1 e2 e3
    subst e1;obtain⟨b,o,vs,f,hA,-,hc,hrf,-,hfx⟩:=hrd.at (k:=k) (by show k<(rnTo x.2.2.1 s.2.2.2.1 k).length;omega);injection hA with hA
    injection hA with q1 q2
    subst q1;subst q2;obtain⟨fL,nfL,cfL,fR,nfR,cfR,fV,nfV,cfV,rfl,fk,pfL,pfR,pfV⟩:=q1u hrf;have cc0:wr.cell? ⟨W,k*4,none⟩=some (.int .i64 f.1):=by have e:wr.cell? ⟨W,0+k*4+0,none⟩=some _:=hc 0 _ rfl;simpa using e
    have cc1:wr.cell? ⟨W,k*4+1,none⟩=some (.slice fL nfL cfL):=by have e:wr.cell? ⟨W,0+k*4+1,none⟩=some _:=hc 1 _ rfl;simpa using e
    have cc2:wr.cell? ⟨W,k*4+2,none⟩=some (.slice fR nfR cfR):=by have e:wr.cell? ⟨W,0+k*4+2,none⟩=some _:=hc 2 _ rfl;simpa using e
    have cc3:wr.cell? ⟨W,k*4+3,none⟩=some (.slice fV nfV cfV):=by have e:wr.cell? ⟨W,0+k*4+3,none⟩=some _:=hc 3 _ rfl;simpa using e
    have K:x.2.2.1[k]?=some f:=(qh6 hlt).symm.trans hfx;have hfm:=zaf K;have HST:=zaa (qh8 (s:=s.2.2.2.1) K);have hBr:B<=wr.heap.size:=by have:=P.lt;omega
    have HRF:Hid (∀c,Below wr.heap.size wr c->Calls Tryz.prog 65 #[.agg #[.int .i64 f.1,.slice fL nfL cfL,.slice fR nfR cfR,.slice fV nfV cfV],.slice O U V] c (FoE c (rnF s.2.2.2.1 f))):=fun c L=>
     qim x.2.1 f s.2.2.2.1 HAX.out (HTR.out f hfm) HPM.out (HCF.out f hfm) fL nfL cfL fR nfR cfR fV nfV cfV O U V c fk (pfL.next qd L) (pfR.next qd L) (pfV.next qd L) (HNM.out c (HTA.out c (hT.1.trans (L.mono hBr))))
    have cN:=R.cell 6;simp at cN;have S:=zaa hOW;have HD5:=zaa X;have HT5:=zaa hT;have HKL:Hid (k<(rnTo x.2.2.1 s.2.2.2.1 k).length):=by show _<_;omega
    have HBB:=zaa (zap P (zap R y));have Tk:Below wr.heap.size wr wr:=zab _ _;clear hOW hc hrf hfx K hfm hrd e2 e3 X hPO2 I hap2 hT pfL pfR pfV fk P R y;go_upto_region 34 with fail
    first|(go_region_law (first
     |(go_simp;go_at_call 65;(with_reducible refine(HRF.out _ ?_).mono ?_);(first|exact Tk|exact zai Tk);rintro e1 w6 ⟨B1,d1,B2,d2,B3,d3,bk,rfl,hO6,hiv6,hbn⟩;have a:=q9 (zai (zab wr.heap.size wr)) hbn rfl;have hiv6':Iv wr.heap.size w6.heap.size bk:=hiv6;have yc0:=qe a cc0;have yc1:=qe a cc1;have yc2:=qe a cc2;have yc3:=qe a cc3;have yf0:=(ql S.out a).frozenAt (k*4);have yf1:=(ql S.out a).frozenAt (k*4+1);have yf2:=(ql S.out a).frozenAt (k*4+2);have yf3:=(ql S.out a).frozenAt (k*4+3);have zO:=qe a cO;have zN:=qe a cN)))|fail
    all_goals
     have PF:=HD5.out.putF a (k:=k) rfl HKL.out hO6 hiv6' hBr;have PK:=HD5.out.putF_keep a (k:=k) rfl [.int .i64 (rnF s.2.2.2.1 f).1,.slice B1 (rnF s.2.2.2.1 f).2.1.1.length d1,.slice B2 (rnF s.2.2.2.1 f).2.1.2.length d2,.slice B3 (rnF s.2.2.2.1 f).2.2.length d3];have l:=zaa (zap (PF.2.2 (by decide) (HBB.out.1.next a)) (zap PF.1 (zap (HT5.out.step PF.2.1 HT5.out.1.size PK) (zap (PF.2.2 (by decide) (HBB.out.2.1.next a)) (PF.2.2 (by decide) (HBB.out.2.2.next a))))));clear PF PK;go_wp2_with fail
     go_roundw
     case rel=>exact⟨k+1,by omega,by go_num,l.out.1,by rw[<-HST.out];exact l.out.2.1,l.out.2.2.1,l.out.2.2.2.1,l.out.2.2.2.2⟩
     case measure=>simp[intOf];omega
   .obtain rfl:k=x.2.2.1.length:=by omega
    have hk1:¬(x.2.2.1.length:Int)<(x.2.2.1.length:Int):=by omega
    have HOK:Hid ((decide (((x.2.2.1.map fun f=>((f.1,f.2.1,rfL f.1 f.2.2 s.2.2.2.1):q12)).length:Int)<=12) &&decide (x.2.2.2<=9999))=true):=by show _=_;rw[zcv,zbm hr.2,zbm (by omega:(x.2.2.1.length:Int)<=12)];rfl
    have HLX:=zaa (X.set5 y (.bool true) (.int .i64 x.2.1.1) (.slice C (ren x.2.1 s.2.2.2.1).2.length D) (.slice d x.2.2.1.length m) (.int .i64 x.2.2.2));have HBX:=zaa (q18 y (.bool true) (.int .i64 x.2.1.1) (.slice C (ren x.2.1 s.2.2.2.1).2.length D) (.slice d x.2.2.1.length m) (.int .i64 x.2.2.2));have HTX:=zaa (BelO.set5 hT (g:=w.heap.size+1+1) (by omega) hB (.bool true) (.int .i64 x.2.1.1) (.slice C (ren x.2.1 s.2.2.2.1).2.length D) (.slice d x.2.2.1.length m) (.int .i64 x.2.2.2));have G:=P.cell 0;have q:=P.cell 1;have r:=P.cell 2;have T:=P.cell 4;simp at G q r T;obtain⟨cZ0,cZ1,cZ2,cZ3,cZ4,fZ0,fZ1,fZ2,fZ3,fZ4⟩:=cf5 y;clear X hT P R y;go_wp2_with fail
    (try simp only[Exit.inBlock,Exit.then])
    refine zas (v:=.tuple #[.agg #[.bool true,.int .i64 x.2.1.1,.slice C (ren x.2.1 s.2.2.2.1).2.length D,.slice d x.2.2.1.length m,.int .i64 x.2.2.2],.bool true]) ?hr rfl ?_
    case hr=>exact qp rfl _ _ (w.heap.size+1+1) 27 #[.bool true,.int .i64 x.2.1.1,.slice C (ren x.2.1 s.2.2.2.1).2.length D,.slice d x.2.2.1.length m,.int .i64 x.2.2.2] (0,0) _ _ rfl HBX.out zbk rfl (by kernel_rfl) rfl
    refine⟨HTX.out,ze1 ⟨(true,ren x.2.1 s.2.2.2.1,x.2.2.1.map fun f=>(f.1,f.2.1,rfL f.1 f.2.2 s.2.2.2.1),x.2.2.2),.slice C (ren x.2.1 s.2.2.2.1).2.length D,.slice d x.2.2.1.length m,HM2.out,?_,?_⟩⟩
    rotate_left
    .rw[<-qh5];exact HLX.out
    .show _=Ending.returned (.tuple #[_,.bool (decide (((x.2.2.1.map fun f=>((f.1,f.2.1,rfL f.1 f.2.2 s.2.2.2.1):q12)).length:Int)<=12) &&decide (x.2.2.2<=9999))])
     rw[HOK.out];rfl
theorem qkf (s:ByteArray):(parA s=none/\paA s=(0, [])/\paB s=false)\/∃a,parA s=some a/\paA s=a/\paB s=true:=by
 cases h:parA s with
 |none=>exact .inl ⟨rfl,(qg0 h).1,(qg0 h).2⟩
 |some a=>exact .inr ⟨a,rfl,(qcj h).1,(qcj h).2⟩
theorem qm6 {x:LabM} (h:labB x=true) (c:x.1=false):x.2.1=(0, [])/\x.2.2.1= []:=by
 obtain⟨a,b,-,-⟩:=q69 h;rw[q7x a b c,za4,za4,zbt,zbt,zbt]at h;exact⟨Prod.ext h.1.1 (zdg.1 h.1.2),zdg.1 h.2⟩
theorem qf9 (cs ds:List Value) (x:LabM) (s:qw) (w:World) (h:q19.rd w cs x) (hcap:qge cs) (h':qn.rd w ds s) (hn:q19.cnt x<=1048576) (hn':s.2.1.size<=1048576) (ht:TabP w)
  (hms:s.1≠1->labB x=true->q2j s=true->x.1=true->∀(B:Nat) (wz:World) (g:Nat) (v u:Value),Below w.heap.size w wz->w.heap.size<=B->B<=g->Blk wz g 27 #[.bool x.1,.int .i64 x.2.1.1,v,u,.int .i64 x.2.2.2]->LabD B wz x v u->Calls Tryz.prog 45 #[.pointer (some ⟨g,0,none⟩),.agg ds.toArray] wz (MkO B g x s wz)):
  Calls Tryz.prog 16 #[.agg cs.toArray,.agg ds.toArray] w (OwA q2i w (slR x s) (slOk x s)):=by
 have hrd:=h;have hrd':=h';obtain⟨Bo,k,d,F,n,c,rfl,qZ,qO,qF,qR⟩:=q3j h;obtain⟨AL,nL,cL,AR,nR,cR,AV,nV,cV,AS,nS,cS,rfl,pK,pT,pF,pL,pR,pV,pS,pA,pB⟩:=q1f h';obtain⟨w0,hw0,T0,hsz0,BP,BQ,BZ⟩:=q41 w #[.bool x.1,.int .i64 x.2.1.1,.slice Bo k d,.slice F n c,.int .i64 x.2.2.2] #[.int .i64 s.1,.string s.2.1,.int .i64 s.2.2.1.1,.slice AL nL cL,.slice AR nR cR,.slice AV nV cV,.slice AS nS cS,.int .i64 s.2.2.2.2.1,.int .i64 s.2.2.2.2.2] #[.bool false,.int .i64 0,.slice none 0 0,.slice none 0 0,.int .i64 0] 27 59 27;have HW0:=zaa hw0;have hs0:w.heap.size+2<w0.heap.size:=by omega
 have HIL:=zaa (qao _ x w0 (q19.stab hrd T0.block) hcap);have HIS:Hid (∀wz,Below w0.heap.size w0 wz->Calls Tryz.prog 42 #[.agg #[.int .i64 s.1,.string s.2.1,.int .i64 s.2.2.1.1,.slice AL nL cL,.slice AR nR cR,.slice AV nV cV,.slice AS nS cS,.int .i64 s.2.2.2.2.1,.int .i64 s.2.2.2.2.2]] wz (Bl wz (.bool (q2j s)))):=fun wz hz=>q8b _ s wz (qn.stab (qn.stab hrd' T0.block) hz.block)
 have HCL:Hid (∀wz,Below w0.heap.size w0 wz->Calls Tryz.prog 43 #[.agg #[.bool x.1,.int .i64 x.2.1.1,.slice Bo k d,.slice F n c,.int .i64 x.2.2.2]] wz (LabE wz x)):=fun wz hz=>qd8 _ x wz (q19.stab (q19.stab hrd T0.block) hz.block) hn
 have HPA:Hid (∀wz,Below w0.heap.size w0 wz->Calls Tryz.prog 44 #[.string s.2.1] wz (OwA qf wz (paA s.2.1) (paB s.2.1))):=fun wz hz=>q95 s.2.1 wz hn' ((ht.next T0).next hz)
 have HMS:=zaa hms;have HQR:=zaa qR;have HT0:=zaa T0;obtain⟨U,W,X,Y,Z⟩:=cl5 BP;obtain⟨l,m,o,r,t,z,A,C,D⟩:=cl9 BQ;obtain⟨lb,HLB⟩:∃b,Hid (labB x=b):=⟨_,zaa rfl⟩;obtain⟨sb,HSB⟩:∃b,Hid (q2j s=b):=⟨_,zaa rfl⟩;obtain⟨xo,HXO⟩:∃b,Hid (x.1=b):=⟨_,zaa rfl⟩;rw[HLB.out]at HIL;rw[HSB.out]at HIS;clear hw0 hsz0 h h' hrd hrd' hms qO qF qZ qR pK pT pF pL pR pV pS pA pB hcap hn ht T0
 go_enter Tryz.func16,Tryz.ntmps16
 go_upto_region 1 with fail;rw[<-HW0.out];go_wp2_with fail;refine HIL.out.mono ?_;rintro e w1 ⟨rfl,ah⟩;have BZ1:=BZ.next ah;have T1:=q9 HT0.out ah rfl;obtain⟨H,I,J,K,L,M,N,O,P,Q⟩:=cf5 BZ1;have i:=zaa (q18 BZ1 (.bool false) (.int .i64 0) (.slice none 0 0) (.slice none 0 0) (.int .i64 0));have j:=zaa (q10 T1 (g:=w.heap.size+1+1) (by omega) (.bool false) (.int .i64 0) (.slice none 0 0) (.slice none 0 0) (.int .i64 0))
 rcases lb with _|_
 .have T:=zaa (q4c (q3h (x:=x) (s:=s) (fun h=>by rw[HLB.out]at h;exact absurd h.1 (by decide))))
  go_wp2_with fail
  (try simp only[Exit.inBlock,Exit.then])
  refine zas (v:=.tuple #[.agg #[.bool false,.int .i64 0,.slice none 0 0,.slice none 0 0,.int .i64 0],.bool false]) (qp rfl _ _ (w.heap.size+1+1) 27 #[.bool false,.int .i64 0,.slice none 0 0,.slice none 0 0,.int .i64 0] (0,0) _ _ (by simp) i.out zbk rfl (by kernel_rfl) (by simp)) rfl ?_;exact q57 j.out T.out
 .clear H I J K L M N O P Q i j
  have ab:=kk14 ah U W X Y Z l m o r t z A C D;clear U W X Y Z l m o r t z A C D;obtain⟨U,W,X,Y,Z,l,m,o,r,t,z,A,C,D⟩:=ab;go_wp2_with fail;refine(HIS.out w1 ah).mono ?_;rintro e w2 ⟨rfl,hb2⟩;have T2:=q9 T1 hb2 rfl;have V:=q9 ah hb2 rfl;have BZ2:=BZ1.next hb2;have ab:=kk14 hb2 U W X Y Z l m o r t z A C D;clear U W X Y Z l m o r t z A C D;obtain⟨U,W,X,Y,Z,l,m,o,r,t,z,A,C,D⟩:=ab;clear BZ1 BZ BP BQ
  rcases sb with _|_
  .have T:=zaa (q4c (q3h (x:=x) (s:=s) (fun h=>by rw[HSB.out]at h;exact absurd h.2.1 (by decide))))
   have f:=BZ2;obtain⟨H,I,J,K,L,M,N,O,P,Q⟩:=cf5 f;have i:=zaa (q18 f (.bool false) (.int .i64 0) (.slice none 0 0) (.slice none 0 0) (.int .i64 0));have j:=zaa (q10 T2 (g:=w.heap.size+1+1) (by omega) (.bool false) (.int .i64 0) (.slice none 0 0) (.slice none 0 0) (.int .i64 0));clear f;go_wp2_with fail
   (try simp only[Exit.inBlock,Exit.then])
   refine zas (v:=.tuple #[.agg #[.bool false,.int .i64 0,.slice none 0 0,.slice none 0 0,.int .i64 0],.bool false]) (qp rfl _ _ (w.heap.size+1+1) 27 #[.bool false,.int .i64 0,.slice none 0 0,.slice none 0 0,.int .i64 0] (0,0) _ _ (by simp) i.out zbk rfl (by kernel_rfl) (by simp)) rfl ?_;exact q57 j.out T.out
  .rw[HXO.out]at U HCL
   obtain⟨kk,HKK⟩:∃k,Hid (s.1=k):=⟨_,zaa rfl⟩
   by_cases hbad:(xo=true↔s.1≠1)
   rotate_left
   .have T:=zaa (q4c (q3h (x:=x) (s:=s) (fun h=>by rw[HXO.out]at h;exact hbad h.2.2)))
    have hdec:(xo==(s.1 !=1))=false:=by
     rcases xo with _|_
     .by_cases h1:s.1=1
      .exact absurd (by simp[h1]) hbad
      .simp[h1]
     .by_cases h1:s.1=1
      .simp[h1]
      .exact absurd (by simp[h1]) hbad
    clear hbad;have f:=BZ2;obtain⟨H,I,J,K,L,M,N,O,P,Q⟩:=cf5 f;have i:=zaa (q18 f (.bool false) (.int .i64 0) (.slice none 0 0) (.slice none 0 0) (.int .i64 0));have j:=zaa (q10 T2 (g:=w.heap.size+1+1) (by omega) (.bool false) (.int .i64 0) (.slice none 0 0) (.slice none 0 0) (.int .i64 0));clear f;go_wp2_with fail
    (try simp only[Exit.inBlock,Exit.then])
    refine zas (v:=.tuple #[.agg #[.bool false,.int .i64 0,.slice none 0 0,.slice none 0 0,.int .i64 0],.bool false]) (qp rfl _ _ (w.heap.size+1+1) 27 #[.bool false,.int .i64 0,.slice none 0 0,.slice none 0 0,.int .i64 0] (0,0) _ _ (by simp) i.out zbk rfl (by kernel_rfl) (by simp)) rfl ?_;exact q57 j.out T.out
   .have hdec:(xo==(s.1 !=1))=true:=by
     rcases xo with _|_
     .by_cases h1:s.1=1
      .simp[h1]
      .exact absurd (hbad.2 h1) (by decide)
     .by_cases h1:s.1=1
      .exact absurd h1 (hbad.1 rfl)
      .simp[h1]
    have HBD:=zaa hbad;clear hbad;go_wp2_with fail;refine(HCL.out w2 V).mono ?_;rintro e G ⟨v,u,rfl,hLP,ai⟩;have T3:=q9 T2 ai rfl;obtain⟨A1,c1,A2,c2,rfl,rfl,hc2⟩:=hLP.d.w.slices;have hLD:=hLP.d.mono (lo':=w0.heap.size) V.size;have ab:=kk9 ai l m o r t z A C D;clear l m o r t z A C D;obtain⟨l,m,o,r,t,z,A,C,D⟩:=ab;obtain⟨w4,HW4⟩:∃wb,Hid (wb=G.alloc (.cells #[.bool x.1,.int .i64 x.2.1.1,.slice A1 x.2.1.2.length c1,.slice A2 x.2.2.1.length c2,.int .i64 x.2.2.2] 27)):=⟨_,zaa rfl⟩;have hb4:Below G.heap.size G w4:=by rw[HW4.out];exact qm _ _
    have BG4:Blk w4 G.heap.size 27 #[.bool x.1,.int .i64 x.2.1.1,.slice A1 x.2.1.2.length c1,.slice A2 x.2.2.1.length c2,.int .i64 x.2.2.2]:=by rw[HW4.out];exact Blk.new _ _ _
    have T4:=q9 T3 hb4 rfl;have hb24:=q9 ai hb4 rfl;have BZ4:=BZ2.next hb24;have ad:=hLD.next hb4;have hz34:G.heap.size<w4.heap.size:=BG4.lt;have hz3:w.heap.size+1+1<G.heap.size:=by have:=BZ2.lt;have:=ai.size;omega
    have hl3:w.heap.size<=G.heap.size:=by omega
    have ab:=kk9 hb4 l m o r t z A C D;clear l m o r t z A C D;obtain⟨l,m,o,r,t,z,A,C,D⟩:=ab;clear U W X Y Z hLP hLD HCL HIL HIS BZ2;go_upto_region 4 with fail;rw[<-HW4.out]
    by_cases hk1:s.1=1
    .have hko:xo=false:=by
      rcases xo with _|_
      .rfl
      .exact absurd hk1 (HBD.out.1 rfl)
     have HAL:Hid (labB x=true/\q2j s=true/\(x.1=true↔s.1≠1)):=⟨HLB.out,HSB.out,by rw[HXO.out];exact HBD.out⟩;have hkt:(s.1==1)=true:=by rw[hk1];rfl
     have HSL:=zaa (q8m HAL.out hk1);have HP4:=zaa (HPA.out w4 (q9 V hb24 rfl));clear hk1 hko hdec;go_wp2_with fail;refine HP4.out.mono ?_;rintro e w5 ⟨csA,blA,rfl,hOA,hIA,aj⟩;have T5:=q9 T4 aj rfl
     rcases qkf s.2.1 with⟨q1,q2,q3⟩|⟨a,q1,q2,q3⟩
     .have T:=zaa (q4c (HSL.out.trans (by rw[q1];rfl)))
      rw[q2]at hOA;obtain⟨R,S,cssA,blsA,rfl,ae,hblA,-⟩:=PO.of_own hOA hIA (zad _);rw[q3];have E:=qm w5 (.cells #[.int .i64 0,.slice R 0 S] 24);have T6:=q9 T5 E rfl;have BZ6:=(BZ4.next aj).next E;obtain⟨w6,ag⟩:∃wb,Hid (wb=w5.alloc (.cells #[.int .i64 0,.slice R 0 S] 24)):=⟨_,zaa rfl⟩;rw[<-ag.out]at T6 BZ6;clear q1 q2 q3 E;go_upto_region 6 with fail
      (try simp only[List.length_nil])
      rw[<-ag.out];have f:=BZ6;obtain⟨H,I,J,K,L,M,N,O,P,Q⟩:=cf5 f;have i:=zaa (q18 f (.bool false) (.int .i64 0) (.slice none 0 0) (.slice none 0 0) (.int .i64 0));have j:=zaa (q10 T6 (g:=w.heap.size+1+1) (by omega) (.bool false) (.int .i64 0) (.slice none 0 0) (.slice none 0 0) (.int .i64 0));clear f;go_wp2_with fail
      (try simp only[Exit.inBlock,Exit.then])
      refine zas (v:=.tuple #[.agg #[.bool false,.int .i64 0,.slice none 0 0,.slice none 0 0,.int .i64 0],.bool false]) (qp rfl _ _ (w.heap.size+1+1) 27 #[.bool false,.int .i64 0,.slice none 0 0,.slice none 0 0,.int .i64 0] (0,0) _ _ (by simp) i.out zbk rfl (by kernel_rfl) (by simp)) rfl ?_;exact q57 j.out T.out
     .have T:=zaa (qco (HSL.out.trans (by rw[q1];rfl)))
      rw[q2]at hOA;obtain⟨R,S,cssA,blsA,rfl,ae,hblA,hInA⟩:=PO.of_own hOA hIA (zad _);rw[q3];have HIA:=zaa hInA;have E:=qm w5 (.cells #[.int .i64 a.1,.slice R a.2.length S] 24);obtain⟨w6,ag⟩:∃wb,Hid (wb=w5.alloc (.cells #[.int .i64 a.1,.slice R a.2.length S] 24)):=⟨_,zaa rfl⟩;rw[<-ag.out]at E;have BXA:Blk w6 w5.heap.size 24 #[.int .i64 a.1,.slice R a.2.length S]:=by rw[ag.out];exact Blk.new _ _ _
      have T6:=q9 T5 E rfl;have BZ6:=(BZ4.next aj).next E;have BG6:=(BG4.next aj).next E;have HLW:Hid (LabPW w.heap.size w6 (true,a,x.2.2.1,x.2.2.2) (.slice R a.2.length S) (.slice A2 x.2.2.1.length c2)):=by
       obtain⟨css,bls,dss,cls,h1,h4,h5⟩:=ad;refine⟨cssA,blsA,dss,cls,A2,_,c2,c2,rfl,hc2,(ae.mono T4.size).next E,((h4.mono (by omega)).next aj).next E,fun b hb hb'=>?_⟩;have e1:=ae.2.2.2 b hb;have e2:=h4.2.2.2 b hb';omega
      obtain⟨cA0,cA1⟩:=cl2 BXA;have cG0:=BG6.cell 0;have cG1:=BG6.cell 1;have cG2:=BG6.cell 2;have fG0:=BG6.frozen 0;have fG1:=BG6.frozen 1;have fG2:=BG6.frozen 2;simp at cG0 cG1 cG2;have hneg:G.heap.size≠w5.heap.size:=by have:=aj.size;omega
      have HBG:=zaa BG6;have HBX:=zaa BZ6;have HTX:=zaa T6;clear q1 q2 q3 hOA ae ad BG6 BZ6 T6 E hInA;go_upto_region 8 with fail;rw[<-ag.out]
      go_cut []from 40 to 42 (fun wx=>Blk wx G.heap.size 27 #[.bool true,.int .i64 a.1,.slice R a.2.length S,.slice A2 x.2.2.1.length c2,.int .i64 x.2.2.2]/\LabPW w.heap.size wx (true,a,x.2.2.1,x.2.2.2) (.slice R a.2.length S) (.slice A2 x.2.2.1.length c2)/\Below w.heap.size w wx/\Blk wx (w.heap.size+1+1) 27 #[.bool false,.int .i64 0,.slice none 0 0,.slice none 0 0,.int .i64 0])
      case first=>
       go_region
       all_goals
        go_wp2_with fail;go_meet;have B0:=HBG.out.set_ 0 (.bool true);have B1:=B0.set_ 1 (.int .i64 a.1);have B2:=B1.set_ 2 (.slice R a.2.length S);have L3:=((HLW.out.setB HBG.out (k:=0) (.bool true)).setB B0 (k:=1) (.int .i64 a.1)).setB B1 (k:=2) (.slice R a.2.length S);have T3':=((HTX.out.setCell (p:=⟨G.heap.size,0,none⟩) hl3 (.bool true)).setCell (p:=⟨G.heap.size,1,none⟩) hl3 (.int .i64 a.1)).setCell (p:=⟨G.heap.size,2,none⟩) hl3 (.slice R a.2.length S);have Z3:=((HBX.out.far (p:=⟨G.heap.size,0,none⟩) (by show _≠G.heap.size;omega) (.bool true)).far (p:=⟨G.heap.size,1,none⟩) (by show _≠G.heap.size;omega) (.int .i64 a.1)).far (p:=⟨G.heap.size,2,none⟩) (by show _≠G.heap.size;omega) (.slice R a.2.length S);have hd:∀wq:World,Below wq.heap.size wq wq.drew:=fun wq=>zai (zab _ _)
        exact⟨Blk.next (by simpa using B2) (hd _),LabPW.next L3 (hd _),q9 T3' (hd _) rfl,Blk.next Z3 (hd _)⟩
      case rest=>
       obtain⟨BG7,HL7,T7,BZ7⟩:=hcut;obtain⟨w7,HWC⟩:∃wq:World,wq=wc:=⟨_,rfl⟩;subst HWC;have HLZ:=zaa (LabPW.set5 HL7 BZ7 (.bool true) (.int .i64 a.1) (.slice R a.2.length S) (.slice A2 x.2.2.1.length c2) (.int .i64 x.2.2.2));clear cG0 cG1 cG2 fG0 fG1 fG2;obtain⟨cG0,cG1,cG2,cG3,cG4⟩:=cl5 BG7;have f:=BZ7;obtain⟨H,I,J,K,L,M,N,O,P,Q⟩:=cf5 f;have i:=zaa (q18 f (.bool true) (.int .i64 a.1) (.slice R a.2.length S) (.slice A2 x.2.2.1.length c2) (.int .i64 x.2.2.2));have j:=zaa (q10 T7 (g:=w.heap.size+1+1) (by omega) (.bool true) (.int .i64 a.1) (.slice R a.2.length S) (.slice A2 x.2.2.1.length c2) (.int .i64 x.2.2.2));clear f BG7 HL7 BZ7;go_wp2_with fail
       (try simp only[Exit.inBlock,Exit.then])
       refine zas (v:=.tuple #[.agg #[.bool true,.int .i64 a.1,.slice R a.2.length S,.slice A2 x.2.2.1.length c2,.int .i64 x.2.2.2],.bool true]) (qp rfl _ _ (w.heap.size+1+1) 27 #[.bool true,.int .i64 a.1,.slice R a.2.length S,.slice A2 x.2.2.1.length c2,.int .i64 x.2.2.2] (0,0) _ _ (by simp) i.out zbk rfl (by kernel_rfl) (by simp)) rfl ?_;exact qex (x:=(true,a,x.2.2.1,x.2.2.2)) HLZ.out HIA.out HQR.out j.out T.out
    .have hko:xo=true:=HBD.out.2 hk1
     have hkt:(s.1==1)=false:=by rw[zbi];exact hk1
     have HAL:Hid (labB x=true/\q2j s=true/\(x.1=true↔s.1≠1)):=⟨HLB.out,HSB.out,by rw[HXO.out];exact HBD.out⟩;have HSM:=zaa (q8n HAL.out hk1);have hl0:w0.heap.size<=G.heap.size:=by have:=V.size;have:=ai.size;omega
     have HM4:=zaa (HMS.out hk1 HLB.out HSB.out (HXO.out.trans hko) w0.heap.size w4 G.heap.size _ _ T4 (by omega) hl0 BG4 ad);have hzw:w.heap.size+1+1<w0.heap.size:=by omega
     have HZ4:=zaa BZ4;clear hk1 hko hdec BG4 ad BZ4;go_wp2_with fail;refine HM4.out.mono ?_;rintro e w5 ⟨hT5,hcase⟩;have T5:Below w.heap.size w w5:=T4.trans (hT5.mono (by omega));have hB0:w.heap.size<=w0.heap.size:=by omega
     have BZ5:=HZ4.out.below hT5 hzw;clear l m o r t z A C D ah hb2 V ai hb4 hb24 T1 T2 T3 T4 hT5 hz34 hkt hc2 HM4 HW4 HW0 hs0 hz3 hzw hl0 hl3 hn'
     rcases hcase with⟨hno,rfl⟩|⟨y,v,u,hyes,rfl,af,aa,hI1,hI2⟩
     .have T:=zaa (q4c (by rw[HSM.out,hno,Option.bind_none]))
      clear hno;have f:=BZ5;obtain⟨H,I,J,K,L,M,N,O,P,Q⟩:=cf5 f;have i:=zaa (q18 f (.bool false) (.int .i64 0) (.slice none 0 0) (.slice none 0 0) (.int .i64 0));have j:=zaa (q10 T5 (g:=w.heap.size+1+1) (by omega) (.bool false) (.int .i64 0) (.slice none 0 0) (.slice none 0 0) (.int .i64 0));clear f;go_wp2_with fail
      (try simp only[Exit.inBlock,Exit.then])
      refine zas (v:=.tuple #[.agg #[.bool false,.int .i64 0,.slice none 0 0,.slice none 0 0,.int .i64 0],.bool false]) (qp rfl _ _ (w.heap.size+1+1) 27 #[.bool false,.int .i64 0,.slice none 0 0,.slice none 0 0,.int .i64 0] (0,0) _ _ (by simp) i.out zbk rfl (by kernel_rfl) (by simp)) rfl ?_;exact q57 j.out T.out
     .obtain⟨Av,cv,Au,cu,rfl,rfl,hcu⟩:=aa.slices
      have ac:=zaa (HSM.out.trans (by rw[hyes]));obtain⟨yo,⟨ya,yops⟩,yfs,yr⟩:=y;simp only at af aa ac hI1 hI2 hcu⊢;obtain⟨nf,HNF⟩:∃q,Hid (yfs.length=q):=⟨_,zaa rfl⟩;obtain⟨no,HNO⟩:∃q,Hid (yops.length=q):=⟨_,zaa rfl⟩;rw[HNF.out,HNO.out]at af aa;clear hcu hyes;have HI1:=zaa hI1;have HI2:=zaa hI2;obtain⟨cG0,cG1,cG2,cG3,cG4⟩:=cl5 af
      by_cases h12:(12:Int)<(nf:Int)
      .have T:=zaa (q4c (ac.out.trans (zaj (fun h=>by have:=h.1;have:=HNF.out;simp only at*;omega))))
       clear af aa hI1 hI2;have f:=BZ5;obtain⟨H,I,J,K,L,M,N,O,P,Q⟩:=cf5 f;have i:=zaa (q18 f (.bool false) (.int .i64 0) (.slice none 0 0) (.slice none 0 0) (.int .i64 0));have j:=zaa (q10 T5 (g:=w.heap.size+1+1) (by omega) (.bool false) (.int .i64 0) (.slice none 0 0) (.slice none 0 0) (.int .i64 0));clear f;go_wp2_with fail
       (try simp only[Exit.inBlock,Exit.then])
       refine zas (v:=.tuple #[.agg #[.bool false,.int .i64 0,.slice none 0 0,.slice none 0 0,.int .i64 0],.bool false]) (qp rfl _ _ (w.heap.size+1+1) 27 #[.bool false,.int .i64 0,.slice none 0 0,.slice none 0 0,.int .i64 0] (0,0) _ _ (by simp) i.out zbk rfl (by kernel_rfl) (by simp)) rfl ?_;exact q57 j.out T.out
      .by_cases h99:(9999:Int)<yr
       .have T:=zaa (q4c (ac.out.trans (zaj (fun h=>by have:=h.2;simp only at*;omega))))
        clear af aa hI1 hI2;have f:=BZ5;obtain⟨H,I,J,K,L,M,N,O,P,Q⟩:=cf5 f;have i:=zaa (q18 f (.bool false) (.int .i64 0) (.slice none 0 0) (.slice none 0 0) (.int .i64 0));have j:=zaa (q10 T5 (g:=w.heap.size+1+1) (by omega) (.bool false) (.int .i64 0) (.slice none 0 0) (.slice none 0 0) (.int .i64 0));clear f;go_wp2_with fail
        (try simp only[Exit.inBlock,Exit.then])
        refine zas (v:=.tuple #[.agg #[.bool false,.int .i64 0,.slice none 0 0,.slice none 0 0,.int .i64 0],.bool false]) (qp rfl _ _ (w.heap.size+1+1) 27 #[.bool false,.int .i64 0,.slice none 0 0,.slice none 0 0,.int .i64 0] (0,0) _ _ (by simp) i.out zbk rfl (by kernel_rfl) (by simp)) rfl ?_;exact q57 j.out T.out
       .have T:=zaa (qco (ac.out.trans (zao ⟨by have:=HNF.out;show yfs.length<=12;omega,by show yr<=9999;omega⟩)))
        have HLZ:=zaa (LabPW.set5 (aa.mono hB0) BZ5 (.bool yo) (.int .i64 ya) (.slice Av no cv) (.slice Au nf cu) (.int .i64 yr):LabPW w.heap.size _ _ _ _);clear aa hI1 hI2;have f:=BZ5;obtain⟨H,I,J,K,L,M,N,O,P,Q⟩:=cf5 f;have i:=zaa (q18 f (.bool yo) (.int .i64 ya) (.slice Av no cv) (.slice Au nf cu) (.int .i64 yr));have j:=zaa (q10 T5 (g:=w.heap.size+1+1) (by omega) (.bool yo) (.int .i64 ya) (.slice Av no cv) (.slice Au nf cu) (.int .i64 yr));clear f af;go_upto_region 12 with fail;clear h12 h99;go_wp2_with fail
        (try simp only[Exit.inBlock,Exit.then])
        refine zas (v:=.tuple #[.agg #[.bool yo,.int .i64 ya,.slice Av no cv,.slice Au nf cu,.int .i64 yr],.bool true]) ?hr rfl ?_
        case hr=>exact qp rfl _ _ (w.heap.size+1+1) 27 #[.bool yo,.int .i64 ya,.slice Av no cv,.slice Au nf cu,.int .i64 yr] (0,0) _ _ rfl i.out zbk rfl (by kernel_rfl) rfl
        exact qex (x:=(yo,(ya,yops),yfs,yr)) HLZ.out HI1.out HI2.out j.out T.out
theorem qlv {s:ByteArray} {x:qi} (h:GoodA x) (e:s=mk (txA x)):splL 59 (bs s)=Lib.itoa x.1::(x.2.map fun o=>sepB [32] (wsT o.2))/\InD x.1/\OpsIsR x.1.toNat (x.2.map fun o=>sepB [32] (wsT o.2)) x.2:=by
 rw[e,q85];exact qf7 h
theorem qhb (b:UInt8):∀l:Bs,0<(splL b l).length
 | []=>by simp[splL]
 | x :: l => by
   rw [splL]
   split
   . simp
   . cases splL b l with
     | nil => simp
     | cons p ps => simp
theorem qg5 (b:UInt8):∀l:Bs,(splL b l).length<=l.length+1
 | []=>by simp[splL]
 | x :: l => by
   have ih := qg5 b l;rw [splL]
   split
   . rw [za0, za0]; omega
   . cases e : splL b l with
     | nil => simp
     | cons p ps =>
       rw [e] at ih;simp only [za0] at ih ⊢;omega
theorem q8l (b:UInt8):∀(l:Bs),∀p∈splL b l,p.length<=l.length
 | [], p, h => by
   rw [splL, zcf] at h;rw [h];exact zad _
 | x :: l, p, h => by
   have ih := q8l b l;rw [splL] at h
   split at h
   . rcases zbq.1 h with rfl | h
     . exact zah _
     . have := ih p h
       rw [za0]; omega
   . cases e : splL b l with
     | nil =>
       rw [e] at h;simp only [zcf] at h;rw [h];simp
     | cons q qs =>
       rw [e] at h ih;simp only at h
       rcases zbq.1 h with rfl | h
       . have := ih q (za2 ..)
         simp only [za0]; omega
       . have := ih p (zaw _ h)
         rw [za0]; omega
def OpsW (n:Nat) (ps:List Bs) (ops:List OpM):Prop:=ps.length=ops.length/\∀(k:Nat) (p:Bs) (o:OpM),ps[k]?=some p->ops[k]?=some o->(∃h ws,splL 32 p=h::ws/\WsIs ws o.2)/\o.1=arL n o.2.length
theorem OpsIsR.w {n:Nat} {a:List Bs} {ops:List OpM} (h:OpsIsR n a ops):OpsW n a ops:=⟨h.1,fun k p o b c=>by
 obtain⟨⟨g,e,f⟩,d⟩:=h.2 k p o b c
 exact⟨⟨[],g,e,f⟩,d⟩⟩
theorem OpsW.nil (n:Nat):OpsW n [] []:=⟨rfl,fun k p o h=>by simp at h⟩
theorem OpsW.snoc {n:Nat} {c:List Bs} {ops:List OpM} (h:OpsW n c ops) {p:Bs} {T:List Int} (f:∃h ws,splL 32 p=h::ws/\WsIs ws T):OpsW n (c++ [p]) (ops++ [(arL n T.length,T)]):=by
 refine⟨by simp[h.1],fun k q o a b=>?_⟩
 by_cases hk:k<c.length
 .rw[zbw hk]at a
  rw[zbw (by rw[<-h.1];exact hk)]at b;exact h.2 k q o a b
 .have d:=(zag.1 a).1
  rw[zbl,List.length_singleton]at d;have e:k=c.length:=by omega
  subst e;rw[za9 (zad _),zc8]at a;rw[h.1,za9 (zad _),zc8]at b;simp at a b;subst a;subst b;exact⟨f,rfl⟩
theorem OpsW.unique {n:Nat} {d:List Bs} {a b:List OpM} (h:OpsW n d a) (c:OpsW n d b):a=b:=by
 apply zcp;intro k
 by_cases hk:k<d.length
 .have g:a[k]?=some (a[k]'(by rw[<-h.1];exact hk)):=zae _
  have i:b[k]?=some (b[k]'(by rw[<-c.1];exact hk)):=zae _;obtain⟨⟨q,s,j,l,-⟩,m⟩:=h.2 k _ _ (zae hk) g;obtain⟨⟨r,t,f,o,-⟩,p⟩:=c.2 k _ _ (zae hk) i;rw[j]at f;injection f with _ e0
  have e:=qd5 (l.symm.trans (e0.trans o));rw[g,i]
  congr 1
  refine Prod.ext ?_ e;rw[m,p,e]
 .rw[zbs (by rw[<-h.1];omega),zbs (by rw[<-c.1];omega)]
def arM (g:Nat) (w:World):Nat:=3 - (intOf ((w.cell? ⟨g,0,none⟩).getD undef)).toNat
theorem qna {g:Nat} {w:World} {k:Nat} (h:w.cell? ⟨g,0,none⟩=some (.int .i64 k)):arM g w=3 - k:=by unfold arM;rw[h];simp[intOf]
theorem qix {n m k:Nat} (h:∀j,j<k->n ^ j≠m) (a:k<=3) (e:n ^ k=m):arL n m=k:=by
 unfold arL;obtain rfl|rfl|rfl|rfl:k=0\/k=1\/k=2\/k=3:=by omega
 .rw[zao e];rfl
 .rw[zaj (h 0 (by omega)),zao e];rfl
 .rw[zaj (h 0 (by omega)),zaj (h 1 (by omega)),zao e];rfl
 .rw[zaj (h 0 (by omega)),zaj (h 1 (by omega)),zaj (h 2 (by omega)),zao e];rfl
theorem qli {n m:Nat} (h:∀j,j<4->n ^ j≠m):arL n m= -1:=by
 unfold arL;rw[zaj (h 0 (by omega)),zaj (h 1 (by omega)),zaj (h 2 (by omega)),zaj (h 3 (by omega))]
theorem qcq (s:ByteArray) (w:World) (hs:s.size<=1048576):
  Calls Tryz.prog 57 #[.string s] w (OwA qf w (paA s) (paB s)):=by
 obtain⟨w0,hw0,T0,hsz0,BR⟩:=q16 w #[.int .i64 0,.slice none 0 0] 24;have HW0:=zaa hw0;obtain⟨P,HP⟩:∃P,Hid (splL 59 (bs s)=P):=⟨_,zaa rfl⟩;have hp0:0<P.length:=by rw[<-HP.out];exact qhb _ _
 have HSP:Hid (Calls Tryz.prog 94 #[.string s,.int .u8 59] w0 (qd6 w0 P)):=by
  have:=q9v s 59 59 rfl w0 (by omega);rw[HP.out]at this;exact this
 have HT0:=zaa T0;obtain⟨p0,ps,rfl⟩:∃p ps,P=p::ps:=by
  rcases P with _|⟨p,ps⟩
  .simp at hp0
  .exact⟨p,ps,rfl⟩
 unfold qd6 at HSP;rw[za0]at HSP;have hpl:ps.length+1<=1048578:=by
  have L:=zav List.length HP.out;rw[za0]at L;have N:=qg5 59 (bs s);have h3:(bs s).length=s.size:=rfl;omega
 have HPS:Hid (∀p∈p0::ps,p.length<=1048576):=fun p hp=>by
  rw[<-HP.out]at hp;have L:=q8l 59 (bs s) p hp;have N:(bs s).length=s.size:=rfl;omega
 have HG:Hid (∀x,GoodA x->s=mk (txA x)->p0=Lib.itoa x.1/\ps.length=x.2.length/\InD x.1/\OpsIsR x.1.toNat ps x.2):=fun x L N=>by
  obtain⟨h3,h4,h5⟩:=qlv L N;rw[HP.out]at h3;injection h3 with h3 h6
  exact⟨h3,by rw[h6];simp,h4,by rw[h6];exact h5⟩
 clear hw0 hsz0 T0 hp0
 go_enter Tryz.func57,Tryz.ntmps57
 go_upto_region 1 with fail;rw[<-HW0.out];go_wp2_with fail;refine HSP.out.mono ?_;rintro e w1 ⟨AP,cP,rfl,hRP,hb1⟩;have BR1:=BR.next hb1;obtain⟨gP,oP,vP,rfl,hcP,hvP⟩:=hRP.2.2 0 p0 rfl;have hvP':vP=.string (mk p0):=hvP;subst hvP';rw[Nat.add_zero]at hcP;have HPI:=zaa (q8f (mk p0) w1 (by have:=HPS.out p0 (za2 ..);rw[q4b];omega));go_wp2_with fail;refine HPI.out.mono ?_;rintro e g ⟨rfl,hd2⟩;have hb2:Below w1.heap.size w1 g:=by obtain⟨z,rfl⟩:=hd2;exact qc (zab _ _) _
 have hb12:=q9 hb1 hb2 rfl;have BR2:=BR1.next hb2;have T2:=q9 HT0.out hb12 rfl;have hwz:w.heap.size<g.heap.size:=BR2.lt;have HBR:=zaa BR2;have HT2:=zaa T2;have HRA:=zaa (hRP.next q82 hb2);have hB22:Below g.heap.size g g:=zab _ _;have l:=HBR.out.below hB22 hwz;obtain⟨cR0,cR1,fR0,fR1⟩:=cf2 l;have B:Blk ((g.setCell ⟨w.heap.size,0,none⟩ (.int .i64 0)).setCell ⟨w.heap.size,1,none⟩ (.slice none 0 0)) w.heap.size 24 #[.int .i64 0,.slice none 0 0]:=by simpa using(l.set_ 0 (.int .i64 0)).set_ 1 (.slice none 0 0)
 have G:=zaa B;have H:Hid (Below w.heap.size w ((g.setCell ⟨w.heap.size,0,none⟩ (.int .i64 0)).setCell ⟨w.heap.size,1,none⟩ (.slice none 0 0))):=((q9 HT2.out hB22 rfl).setCell (p:=⟨w.heap.size,0,none⟩) (zad _) _).setCell (p:=⟨w.heap.size,1,none⟩) (zad _) _;clear B l;clear hRP hd2 hcP hvP;cases hr:q34 (mk p0)with
 | none =>
   have HR := zaa (q3k hr);have HX : Hid (paA s = (0, []) /\ paB s = false) := q7e fun x L N => by
     obtain ⟨h3, -, h4, -⟩ := HG.out x L N;have := q39 h4 (show mk p0 = mk (Lib.itoa x.1) by rw [h3]);rw [hr] at this;cases this
   rw [HR.out.1, HR.out.2];clear hr;go_wp2_with fail
   (try simp only [Exit.inBlock, Exit.then])
   refine zas (v := .tuple #[.agg #[.int .i64 0, .slice none 0 0], .bool false]) (qp rfl _ _ w.heap.size 24 #[.int .i64 0, .slice none 0 0] (0, 0) _ _ (by simp) G.out zb7 rfl (by kernel_rfl) (by simp)) rfl ?_;exact q5y HX.out H.out
 | some z =>
   have HR := zaa (q7g hr);have hz := q6e.1 hr;have hpz : p0 = Lib.itoa z := q7y hz.2;have HZ : Hid (∀ x, GoodA x -> s = mk (txA x) -> x.1 = z /\ ps.length = x.2.length /\ OpsIsR z.toNat ps x.2 /\ AlgP x) := fun x L N => by
     obtain ⟨h3, h4, -, h5⟩ := HG.out x L N;rw [hpz] at h3;have e := q7t h3;subst e;exact ⟨rfl, h4, h5, L.1⟩
   have hzb := hz.1;unfold InD at hzb;rw [HR.out.1, HR.out.2];clear hr hz hpz
   by_cases hin : 1 <= z /\ z <= 8
   rotate_left
   . have HX : Hid (paA s = (0, []) /\ paB s = false) := q7e fun x L N => by
       obtain ⟨h3, -, -, h5⟩ := HZ.out x L N;exact hin ⟨by have := h5.1; omega, by have := h5.2.1; omega⟩
     have HI : Hid (inB z 1 8 = false) := by
       show _ = _
       unfold inB;rw [Bool.and_eq_false_iff, zd5, zd5];omega
     go_wp2_with fail;refine (q1w _ _ _ _).mono ?_;rintro e w' ⟨rfl, rfl⟩;rw [HI.out];go_wp2_with fail
     (try simp only [Exit.inBlock, Exit.then])
     refine zas (v := .tuple #[.agg #[.int .i64 0, .slice none 0 0], .bool false]) (qp rfl _ _ w.heap.size 24 #[.int .i64 0, .slice none 0 0] (0, 0) _ _ (by simp) G.out zb7 rfl (by kernel_rfl) (by simp)) rfl ?_;exact q5y HX.out H.out
   have HI : Hid (inB z 1 8 = true) := by show _ = _; unfold inB; simp; omega
   by_cases hl5 : (5 : Int) < ((ps.length + 1 : Nat) : Int)
   . have HX : Hid (paA s = (0, []) /\ paB s = false) := q7e fun x L N => by
       obtain ⟨h3, h4, -, h5⟩ := HZ.out x L N;have := h5.2.2.1;omega
     go_wp2_with fail;refine (q1w _ _ _ _).mono ?_;rintro e w' ⟨rfl, rfl⟩;rw [HI.out];go_wp2_with fail
     (try simp only [Exit.inBlock, Exit.then])
     refine zas (v := .tuple #[.agg #[.int .i64 0, .slice none 0 0], .bool false]) (qp rfl _ _ w.heap.size 24 #[.int .i64 0, .slice none 0 0] (0, 0) _ _ (by simp) G.out zb7 rfl (by kernel_rfl) (by simp)) rfl ?_;exact q5y HX.out H.out
   obtain ⟨n, rfl⟩ : ∃ n : Nat, z = (n : Int) := ⟨z.toNat, by omega⟩;have hn1' : 1 <= n := by omega
   have hn8' : n <= 8 := by omega
   go_wp2_with fail;refine (q1w _ _ _ _).mono ?_;rintro e w' ⟨rfl, rfl⟩;rw [HI.out];go_upto_region 6 with fail;obtain ⟨w3, HW3⟩ : ∃ x, Hid (x = g.alloc (.cells #[.int .i64 n, .slice none 0 0] 24)) := ⟨_, zaa rfl⟩;rw [<- HW3.out];have hb3 : Below g.heap.size g w3 := by rw [HW3.out]; exact qm _ _
   have BA3 : Blk w3 g.heap.size 24 #[.int .i64 n, .slice none 0 0] := by rw [HW3.out]; exact Blk.new _ _ _
   have HPB : Hid (∀ p ∈ ps, p.length <= 1048576) := fun p hp => HPS.out p (zaw _ hp)
   clear hb2 hb12 hb1 BR1 BR2 cR0 cR1 fR0 fR1 G HPI HSP hl5 T2 H hin;go_wp2_with fail
   go_loopw [8] (fun i wr => ∃ (k : Nat) (d : List OpM) (v : Value) (css : List (List Value)) (bls : List (List Nat)), k <= ps.length /\ i = .int .i64 ((k : Int) + 1) /\ Blk wr g.heap.size 24 #[.int .i64 n, v] /\ PO (g.heap.size + 1) wr v d css bls /\ Hid (OpsW n (ps.take k) d) /\ Below g.heap.size g wr) (fun i _ => ps.length + 1 - (intOf i).toNat)
   case atStart => exact ⟨0, [], _, [], [], zah _, rfl, BA3, PO.nil _ _, zaa (by rw [zc4]; exact OpsW.nil _), hb3⟩
   case round =>
     clear BA3 hb3 HW3;obtain ⟨k, d, v, css, bls, hk, rfl, BA, Y, HOI, hB2⟩ := hrel;obtain ⟨M, rfl⟩ : ∃ x : World, x = wr := ⟨_, rfl⟩;have hlo : g.heap.size + 1 <= M.heap.size := BA.lt
     by_cases hlt : k < ps.length
     . have hk0 : (0 : Int) <= (k : Int) + 1 := by omega
       have hkw : IntKind.i64.wrap ((k : Int) + 1) = (k : Int) + 1 := zcg _ (by omega);obtain ⟨bp, op, vp, p, e0, hcp, hvp, -, hxp⟩ := (HRA.out.next q82 hB2).at (k := k + 1) (by omega);injection e0 with e0
       injection e0 with e1 e2
       subst e1;subst e2;have hvp' : vp = .string (mk p) := hvp;subst hvp';rw [zdf] at hxp;have hpz := HPB.out p (zaf hxp);have HXP := zaa hxp;obtain ⟨W, HW⟩ : ∃ W, Hid (splL 32 p = W) := ⟨_, zaa rfl⟩;have hW0 : 0 < W.length := by rw [<- HW.out]; exact qhb _ _
       have hWl : W.length <= 1048578 := by rw [<- HW.out]; have := qg5 32 p; omega
       have HWP : Hid (∀ t ∈ W, t.length <= 1048576) := fun t ht => by
         rw [<- HW.out] at ht;have := q8l 32 p t ht;omega
       obtain ⟨h, f, rfl⟩ : ∃ h f, W = h :: f := by
         rcases W with _ | ⟨h, f⟩
         . simp at hW0
         . exact ⟨h, f, rfl⟩
       rw [za0] at hWl;have HSW : Hid (Calls Tryz.prog 94 #[.string (mk p), .int .u8 32] M (fun e w' => ∃ A c, e = .returned (.slice A (f.length + 1) c) /\ w'.ownsRow M.heap.size 9 1 (.slice A (f.length + 1) c) (f.length + 1) (strs (h :: f)) /\ Below M.heap.size M w')) := by
         have := q5j (mk p) 32 32 rfl M (by rw [q4b]; omega);rw [q85, HW.out] at this;exact this.mono fun e w' ⟨A, c, L, N, h3, _⟩ => ⟨A, c, L, N, h3⟩
       have hcp' : M.cell? ⟨gP, oP + (k + 1), none⟩ = some (.string (mk p)) := hcp;clear hxp hvp hcp hW0;go_wp2_with fail;refine HSW.out.mono ?_;rintro e F ⟨Aw, cw, rfl, how5, hb5⟩;have hz5 := hb5.size;obtain ⟨w6, hw6, T6, hsz6, BX6⟩ := q16 F #[.int .i64 0, .slice none 0 0] 122;have HW6 := zaa hw6;have how6 := ql how5 T6;have hT6 := q9 hb5 T6 rfl;have hmz : ∀ m : Nat, m <= 1048578 -> IntKind.i64.wrap (((m + 1 : Nat) : Int) - 1) = (m : Int) := fun m hm => by
         rw [zcg _ (by omega)];omega
       have hmw := hmz f.length (by omega);have hmw2 : IntKind.i64.wrap (((f.length : Nat) : Int) + 1 - 1) = (f.length : Int) := by
         rw [zcg _ (by omega)];omega
       clear hw6 hsz6 how5 HSW hmz;go_upto_region 11 with fail;rw [<- HW6.out];go_wp2_with fail
       go_loopw [65] (fun u wr => ∃ q : Nat, q <= 3 /\ Blk wr F.heap.size 122 #[.int .i64 (q : Int), .slice none 0 0] /\ wr.ownsRow M.heap.size 9 1 (.slice Aw (f.length + 1) cw) (f.length + 1) (strs (h :: f)) /\ Hid (∀ j, j < q -> n ^ j ≠ f.length) /\ Below M.heap.size M wr /\ w6.heap.size <= wr.heap.size) (fun _ wr => arM F.heap.size wr)
       case atStart => exact ⟨0, zah _, BX6, how6, zaa (fun j hj => absurd hj (Nat.not_lt_zero _)), hT6, zad _⟩
       case round =>
         clear BX6 how6 hT6;obtain ⟨q, hq, U, I, HQ, Z, hz6⟩ := hrel;have V := U.cell 0;have cX1 := U.cell 1;have fX0 := U.frozen 0;simp at V cX1;obtain ⟨r, HR2⟩ : ∃ r, Hid (n ^ q = r) := ⟨_, zaa rfl⟩;have HPW : Hid (∀ wz, Calls Tryz.prog 96 #[.int .i64 n, .int .i64 q] wz fun e w' => e = .returned (.int .i64 r) /\ wz = w') := fun wz => qdn n q r wz HR2.out hn8' (by omega)
         by_cases hc : q < 3 /\ r ≠ f.length
         . obtain ⟨hq3, S⟩ := hc
           have hq3' : (q : Int) < 3 := by omega
           have hne : ((r : Int) != (f.length : Int)) = true := by rw [bne_iff_ne]; omega
           have HQN : Hid (∀ j, j < q + 1 -> n ^ j ≠ f.length) := fun j hj => by
             rcases zco j q with h' | h'
             . exact HQ.out j h'
             . obtain rfl : j = q := by omega
               rw [HR2.out];exact S
           clear S;go_wp2_with fail;refine (HPW.out _).mono ?_;rintro e w' ⟨rfl, rfl⟩;have BXN : Blk (wr.setCell ⟨F.heap.size, 0, none⟩ (.int .i64 ((q + 1 : Nat) : Int))) F.heap.size 122 #[.int .i64 ((q + 1 : Nat) : Int), .slice none 0 0] := by simpa using U.set_ 0 (.int .i64 ((q + 1 : Nat) : Int))
           have howN := q5n I (p := ⟨F.heap.size, 0, none⟩) (q1q I U (by decide)) (.int .i64 ((q + 1 : Nat) : Int));have hTN : Below M.heap.size M (wr.setCell ⟨F.heap.size, 0, none⟩ (.int .i64 ((q + 1 : Nat) : Int))) := Z.setCell (p := ⟨F.heap.size, 0, none⟩) (by show _ <= F.heap.size; omega) _;have hqw : IntKind.i64.wrap ((q : Int) + 1) = ((q + 1 : Nat) : Int) := by rw [zcg _ (by omega)]; push_cast; rfl
           have hzN : w6.heap.size <= (wr.setCell ⟨F.heap.size, 0, none⟩ (.int .i64 ((q + 1 : Nat) : Int))).heap.size := by simp; exact hz6
           have HM : Hid (arM F.heap.size (wr.setCell ⟨F.heap.size, 0, none⟩ (.int .i64 ((q + 1 : Nat) : Int))) < arM F.heap.size wr) := by
             show _ < _
             rw [qna (k := q + 1) (by have := BXN.cell 0; simpa using this), qna V];omega
           have HFIN := zaa (zap BXN (zap howN (zap hTN hzN)));clear BXN howN hTN hzN U I Z;go_wp2_with fail
           (try rw [hqw])
           go_roundw
           case rel => exact ⟨q + 1, by omega, HFIN.out.1, HFIN.out.2.1, HQN, HFIN.out.2.2.1, HFIN.out.2.2.2⟩
           case measure => exact HM.out
         . have hcase : (q < 3 /\ r = f.length) \/ (q = 3 /\ r = f.length) \/ (q = 3 /\ r ≠ f.length) := by omega
           have hq0 : (0 : Int) <= (q : Int) := by omega
           clear hc
           rcases hcase with ⟨hq3, S⟩ | ⟨hq3, S⟩ | ⟨hq3, S⟩
           rotate_right
           . have hq3' : ¬ (q : Int) < 3 := by omega
             have hne : ((r : Int) != (f.length : Int)) = true := by rw [bne_iff_ne]; omega
             have HX : Hid (paA s = (0, []) /\ paB s = false) := q7e fun x L N => by
               obtain ⟨h3, h4, h5, h8⟩ := HZ.out x L N;obtain ⟨o, ho⟩ : ∃ o, x.2[k]? = some o := ⟨x.2[k]'(by rw [<- h5.1]; exact hlt), zae _⟩;obtain ⟨⟨ws', h6, h7⟩, h9⟩ := h5.2 k p o HXP.out ho;rw [HW.out] at h6;injection h6 with _ h6
               have hl : o.2.length = f.length := by
                 rw [<- h6] at h7;have := zav List.length h7.1;rw [q5x] at this;exact this.symm
               rw [hl, za1, qli (fun j hj => by
                 rcases zco j q with h' | h'
                 . exact HQ.out j h'
                 . obtain rfl : j = q := by omega
                   rw [HR2.out]
                   exact S)] at h9
               have := (h8.2.2.2 o (zaf ho)).1;omega
             have C : Below g.heap.size g wr := hB2.trans (Z.mono (by omega));have l := HBR.out.below C hwz;obtain ⟨cR0, cR1, fR0, fR1⟩ := cf2 l;have B : Blk ((wr.setCell ⟨w.heap.size, 0, none⟩ (.int .i64 0)).setCell ⟨w.heap.size, 1, none⟩ (.slice none 0 0)) w.heap.size 24 #[.int .i64 0, .slice none 0 0] := by simpa using (l.set_ 0 (.int .i64 0)).set_ 1 (.slice none 0 0)
             have G := zaa B;have H : Hid (Below w.heap.size w ((wr.setCell ⟨w.heap.size, 0, none⟩ (.int .i64 0)).setCell ⟨w.heap.size, 1, none⟩ (.slice none 0 0))) := ((q9 HT2.out C rfl).setCell (p := ⟨w.heap.size, 0, none⟩) (zad _) _).setCell (p := ⟨w.heap.size, 1, none⟩) (zad _) _;clear B l;clear S hq3;go_wp2_with fail;refine (HPW.out _).mono ?_;rintro e w' ⟨rfl, rfl⟩;go_wp2_with fail
             (try simp only [Exit.inBlock, Exit.then])
             refine zas (v := .tuple #[.agg #[.int .i64 0, .slice none 0 0], .bool false]) (qp rfl _ _ w.heap.size 24 #[.int .i64 0, .slice none 0 0] (0, 0) _ _ (by simp) G.out zb7 rfl (by kernel_rfl) (by simp)) rfl ?_;exact q5y HX.out H.out
           . have hq3' : (q : Int) < 3 := by omega
             have hne : ((r : Int) != (f.length : Int)) = false := by rw [bne_eq_false_iff_eq]; omega
             clear hq3;go_wp2_with fail;refine (HPW.out _).mono ?_;rintro e w' ⟨rfl, rfl⟩;have HAR : Hid (arL n f.length = (q : Int)) := qix HQ.out hq (HR2.out.trans S);clear S;go_wp2_with fail;refine (HPW.out _).mono ?_;rintro e w' ⟨rfl, rfl⟩;obtain ⟨w7, rfl⟩ : ∃ x : World, x = wr := ⟨_, rfl⟩;clear V cX1 fX0;go_wp2_with fail
             go_loopw [11] (fun i wr => ∃ (j : Nat) (T : List Int) (A : Option Addr) (c : Nat), j <= f.length /\ i = .int .i64 ((j : Int) + 1) /\ Blk wr F.heap.size 122 #[.int .i64 (q : Int), .slice A j c] /\ wr.ownsRow w7.heap.size 3 1 (.slice A j c) j (ints T) /\ Hid (WsIs (f.take j) T) /\ wr.ownsRow M.heap.size 9 1 (.slice Aw (f.length + 1) cw) (f.length + 1) (strs (h :: f)) /\ Below M.heap.size M wr /\ w7.heap.size <= wr.heap.size) (fun i _ => f.length + 1 - (intOf i).toNat)
             case atStart => exact ⟨0, [], none, 0, zah _, rfl, U, World.ownsRow_nil _ _ _ _, zaa ⟨by rw [zc4]; rfl, fun v hv => by cases hv⟩, I, Z, zad _⟩
             case round =>
               have hgx : F.heap.size < w7.heap.size := U.lt;clear U I Z HPW;obtain ⟨j, T, At, ct, hj, rfl, U, E, Q, I, Z, hz7⟩ := hrel;have hrw := qad (by unfold maxLen; omega) I (by rw [za0])
               by_cases hjl : j < f.length
               . have hj0 : (0 : Int) <= (j : Int) + 1 := by omega
                 have hjw : IntKind.i64.wrap ((j : Int) + 1) = (j : Int) + 1 := zcg _ (by omega);obtain ⟨bq, oq, vq, y, rfl, hcq, hvq, -, hxq⟩ := hrw.at (k := j + 1) (by omega);have hvq' : vq = .string (mk y) := hvq;subst hvq';rw [zdf] at hxq;have hyz := HWP.out y (zaw _ (zaf hxq));have HXQ := zaa hxq;have HPI2 := zaa (q8f (mk y) wr (by rw [q4b]; omega));have hcq' : wr.cell? ⟨bq, oq + (j + 1), none⟩ = some (.string (mk y)) := hcq;clear hxq hvq hcq hrw;go_wp2_with fail;refine HPI2.out.mono ?_;rintro e w8 ⟨rfl, hd8⟩;have D : Below wr.heap.size wr w8 := by obtain ⟨z, rfl⟩ := hd8; exact qc (zab _ _) _
                 have BX8 := U.next D;have hT8 := q9 Z D rfl;have J := ql E D;have how8 := ql I D;have hz88 := D.size;clear hd8;cases hr : q34 (mk y) with
                 | none =>
                   have O := zaa (q3k hr);have HX : Hid (paA s = (0, []) /\ paB s = false) := q7e fun x L N => by
                     obtain ⟨h3, h4, h5, -⟩ := HZ.out x L N;obtain ⟨o, ho⟩ : ∃ o, x.2[k]? = some o := ⟨x.2[k]'(by rw [<- h5.1]; exact hlt), zae _⟩;obtain ⟨⟨ws', h6, h7⟩, -⟩ := h5.2 k p o HXP.out ho;rw [HW.out] at h6;injection h6 with _ h6
                     rw [<- h6] at h7;exact WsIs.bad HXQ.out hr _ h7
                   have C : Below g.heap.size g w8 := hB2.trans (hT8.mono (by omega));have l := HBR.out.below C hwz;obtain ⟨cR0, cR1, fR0, fR1⟩ := cf2 l;have B : Blk ((w8.setCell ⟨w.heap.size, 0, none⟩ (.int .i64 0)).setCell ⟨w.heap.size, 1, none⟩ (.slice none 0 0)) w.heap.size 24 #[.int .i64 0, .slice none 0 0] := by simpa using (l.set_ 0 (.int .i64 0)).set_ 1 (.slice none 0 0)
                   have G := zaa B;have H : Hid (Below w.heap.size w ((w8.setCell ⟨w.heap.size, 0, none⟩ (.int .i64 0)).setCell ⟨w.heap.size, 1, none⟩ (.slice none 0 0))) := ((q9 HT2.out C rfl).setCell (p := ⟨w.heap.size, 0, none⟩) (zad _) _).setCell (p := ⟨w.heap.size, 1, none⟩) (zad _) _;clear B l;rw [O.out.1, O.out.2];clear hr;go_wp2_with fail
                   (try simp only [Exit.inBlock, Exit.then])
                   refine zas (v := .tuple #[.agg #[.int .i64 0, .slice none 0 0], .bool false]) (qp rfl _ _ w.heap.size 24 #[.int .i64 0, .slice none 0 0] (0, 0) _ _ (by simp) G.out zb7 rfl (by kernel_rfl) (by simp)) rfl ?_;exact q5y HX.out H.out
                 | some z =>
                   have O := zaa (q7g hr);have hz := q6e.1 hr;have hqz2 : y = Lib.itoa z := q7y hz.2;have hzb := hz.1;unfold InD at hzb;have HWN : Hid (WsIs (f.take (j + 1)) (T ++ [z])) := by
                     refine ⟨?_, fun u hu => ?_⟩
                     . rw [zbj, HXQ.out, Q.out.1, hqz2]
                       simp [wsT]
                     . rcases zat.1 hu with hu | hu
                       . exact Q.out.2 u hu
                       . rw [zcf.1 hu]; exact hz.1
                   rw [O.out.1, O.out.2];obtain ⟨V, cX1⟩ := cl2 BX8;have hbase : w7.heap.size <= w8.heap.size := by omega
                   clear hr hz hqz2 U E Z D
                   go_wp2_with (at_builtin; refine app1 w8 rfl _ _ 43 3 rfl (.int .i64 0) 8 zax q15 rfl (by decide) w7.heap.size j ct At (ints T) rfl J (.int .i64 z) rfl rfl (by omega) hbase ?_; intro A8 c8 w9 K R hb9; have BX9 := BX8.grown R (fun e => q1q J BX8 (by decide) e.symm); have cX91 := BX9.cell 1; have fX91 := BX9.frozen 1; simp at cX91)
                   have how9 := qbe how8 J (by decide) R;have how10 := q5n how9 (p := ⟨F.heap.size, 1, none⟩) (q1q how9 BX9 (by decide)) (.slice A8 (j + 1) c8);have hT10 : Below M.heap.size M (w9.setCell ⟨F.heap.size, 1, none⟩ (.slice A8 (j + 1) c8)) := (hT8.trans (hb9.mono (by omega))).setCell (p := ⟨F.heap.size, 1, none⟩) (by show _ <= F.heap.size; omega) _;have BX10 : Blk (w9.setCell ⟨F.heap.size, 1, none⟩ (.slice A8 (j + 1) c8)) F.heap.size 122 #[.int .i64 (q : Int), .slice A8 (j + 1) c8] := by simpa using BX9.set_ 1 (.slice A8 (j + 1) c8)
                   have hown10 := qy (p := ⟨F.heap.size, 1, none⟩) (u := .slice A8 (j + 1) c8) K (by show F.heap.size < w7.heap.size; omega);have hz10 : w7.heap.size <= (w9.setCell ⟨F.heap.size, 1, none⟩ (.slice A8 (j + 1) c8)).heap.size := by simp; have := hb9.size; omega
                   go_roundw
                   case rel => exact ⟨j + 1, T ++ [z], A8, c8, by omega, by push_cast; rfl, BX10, by simpa [ints] using hown10, HWN, how10, hT10, hz10⟩
                   case measure => simp [intOf]; omega
               . obtain rfl : j = f.length := by omega
                 have HWF : Hid (∃ h f, splL 32 p = h :: f /\ WsIs f T) := by
                   refine ⟨h, f, HW.out, ?_⟩;have := Q.out
                   rwa [zaq (zad _)] at this
                 have htl : T.length = f.length := by
                   have := zav List.length Q.out.1;rw [zaq (zad _), q5x] at this;exact this.symm
                 have HTD : Hid (∀ v ∈ T, InD v) := Q.out.2;obtain ⟨Ao, co, rfl⟩ := qq Y.2.1;have BA8 := BA.next Z;have cA1 := BA8.cell 1;have V := U.cell 0;have cX1 := U.cell 1;simp at cA1 V cX1;have hO8 : shOp.own wr [.int .i64 (q : Int), .slice At f.length ct] ((q : Int), T) (obl (.slice At f.length ct)) := by
                   refine ⟨[.int .i64 (q : Int)], [.slice At f.length ct], [], obl (.slice At f.length ct), rfl, rfl, ⟨_, rfl, ⟨rfl, by omega, by omega⟩, rfl⟩, ⟨_, rfl, ?_, ?_, rfl⟩⟩
                   . show wr.ownsRow 0 3 1 _ T.length _
                     rw [htl];exact qh E (zah _)
                   . intro u hu
                     have := HTD.out u hu;unfold InD at this;exact ⟨by omega, by omega⟩
                 have hiv8 : Iv M.heap.size wr.heap.size (obl (.slice At f.length ct)) := (q76 E).mono (by omega) (zad _);obtain ⟨hvs, HPU⟩ := Y.push Z hlo hO8 hiv8;have hol : d.length <= 4 := by
                   have := HOI.out.1;rw [za8] at this;omega
                 have hl8 : g.heap.size + 1 <= wr.heap.size := by have := Z.size; omega
                 have HON : Hid (OpsW n (ps.take (k + 1)) (d ++ [((q : Int), T)])) := by
                   show OpsW _ _ _
                   rw [zbj, HXP.out, <- HAR.out, <- htl];exact HOI.out.snoc HWF.out
                 have hB28 : Below g.heap.size g wr := hB2.trans (Z.mono (by omega));clear E Y BA hO8 hiv8 I hrw
                 go_wp2_with (at_builtin; refine app2 wr rfl _ _ 22 122 rfl (.agg #[.int .i64 0, .slice none 0 0]) 32 ze4 q6q rfl (by decide) (g.heap.size + 1) d.length co Ao css.flatten rfl hvs (.int .i64 (q : Int)) (.slice At f.length ct) rfl rfl rfl (by omega) hl8 ?_; intro A9 c9 w9 K R hb9; have BA9 := BA8.grown R (fun e => q1q hvs BA8 (by decide) e.symm); have cA91 := BA9.cell 1; have fA91 := BA9.frozen 1; simp at cA91)
                 have PN := (HPU K R).far (p := ⟨g.heap.size, 1, none⟩) (by show g.heap.size < g.heap.size + 1; omega) (.slice A9 (d.length + 1) c9);have BA10 : Blk (w9.setCell ⟨g.heap.size, 1, none⟩ (.slice A9 (d.length + 1) c9)) g.heap.size 24 #[.int .i64 n, .slice A9 (d.length + 1) c9] := by simpa using BA9.set_ 1 (.slice A9 (d.length + 1) c9)
                 have hB10 : Below g.heap.size g (w9.setCell ⟨g.heap.size, 1, none⟩ (.slice A9 (d.length + 1) c9)) := (hB28.trans (hb9.mono (by omega))).setCell (p := ⟨g.heap.size, 1, none⟩) (zad _) _
                 go_roundw
                 case rel => exact ⟨k + 1, _, _, _, _, by omega, by push_cast; rfl, BA10, PN, HON, hB10⟩
                 case measure => simp [intOf]; omega
           . have hq3' : ¬ (q : Int) < 3 := by omega
             have hne : ((r : Int) != (f.length : Int)) = false := by rw [bne_eq_false_iff_eq]; omega
             clear hq3;have HAR : Hid (arL n f.length = (q : Int)) := qix HQ.out hq (HR2.out.trans S);clear S;go_wp2_with fail;refine (HPW.out _).mono ?_;rintro e w' ⟨rfl, rfl⟩;obtain ⟨w7, rfl⟩ : ∃ x : World, x = wr := ⟨_, rfl⟩;clear V cX1 fX0;go_wp2_with fail
             go_loopw [11] (fun i wr => ∃ (j : Nat) (T : List Int) (A : Option Addr) (c : Nat), j <= f.length /\ i = .int .i64 ((j : Int) + 1) /\ Blk wr F.heap.size 122 #[.int .i64 (q : Int), .slice A j c] /\ wr.ownsRow w7.heap.size 3 1 (.slice A j c) j (ints T) /\ Hid (WsIs (f.take j) T) /\ wr.ownsRow M.heap.size 9 1 (.slice Aw (f.length + 1) cw) (f.length + 1) (strs (h :: f)) /\ Below M.heap.size M wr /\ w7.heap.size <= wr.heap.size) (fun i _ => f.length + 1 - (intOf i).toNat)
             case atStart => exact ⟨0, [], none, 0, zah _, rfl, U, World.ownsRow_nil _ _ _ _, zaa ⟨by rw [zc4]; rfl, fun v hv => by cases hv⟩, I, Z, zad _⟩
             case round =>
               have hgx : F.heap.size < w7.heap.size := U.lt;clear U I Z HPW;obtain ⟨j, T, At, ct, hj, rfl, U, E, Q, I, Z, hz7⟩ := hrel;have hrw := qad (by unfold maxLen; omega) I (by rw [za0])
               by_cases hjl : j < f.length
               . have hj0 : (0 : Int) <= (j : Int) + 1 := by omega
                 have hjw : IntKind.i64.wrap ((j : Int) + 1) = (j : Int) + 1 := zcg _ (by omega);obtain ⟨bq, oq, vq, y, rfl, hcq, hvq, -, hxq⟩ := hrw.at (k := j + 1) (by omega);have hvq' : vq = .string (mk y) := hvq;subst hvq';rw [zdf] at hxq;have hyz := HWP.out y (zaw _ (zaf hxq));have HXQ := zaa hxq;have HPI2 := zaa (q8f (mk y) wr (by rw [q4b]; omega));have hcq' : wr.cell? ⟨bq, oq + (j + 1), none⟩ = some (.string (mk y)) := hcq;clear hxq hvq hcq hrw;go_wp2_with fail;refine HPI2.out.mono ?_;rintro e w8 ⟨rfl, hd8⟩;have D : Below wr.heap.size wr w8 := by obtain ⟨z, rfl⟩ := hd8; exact qc (zab _ _) _
                 have BX8 := U.next D;have hT8 := q9 Z D rfl;have J := ql E D;have how8 := ql I D;have hz88 := D.size;clear hd8;cases hr : q34 (mk y) with
                 | none =>
                   have O := zaa (q3k hr);have HX : Hid (paA s = (0, []) /\ paB s = false) := q7e fun x L N => by
                     obtain ⟨h3, h4, h5, -⟩ := HZ.out x L N;obtain ⟨o, ho⟩ : ∃ o, x.2[k]? = some o := ⟨x.2[k]'(by rw [<- h5.1]; exact hlt), zae _⟩;obtain ⟨⟨ws', h6, h7⟩, -⟩ := h5.2 k p o HXP.out ho;rw [HW.out] at h6;injection h6 with _ h6
                     rw [<- h6] at h7;exact WsIs.bad HXQ.out hr _ h7
                   have C : Below g.heap.size g w8 := hB2.trans (hT8.mono (by omega));have l := HBR.out.below C hwz;obtain ⟨cR0, cR1, fR0, fR1⟩ := cf2 l;have B : Blk ((w8.setCell ⟨w.heap.size, 0, none⟩ (.int .i64 0)).setCell ⟨w.heap.size, 1, none⟩ (.slice none 0 0)) w.heap.size 24 #[.int .i64 0, .slice none 0 0] := by simpa using (l.set_ 0 (.int .i64 0)).set_ 1 (.slice none 0 0)
                   have G := zaa B;have H : Hid (Below w.heap.size w ((w8.setCell ⟨w.heap.size, 0, none⟩ (.int .i64 0)).setCell ⟨w.heap.size, 1, none⟩ (.slice none 0 0))) := ((q9 HT2.out C rfl).setCell (p := ⟨w.heap.size, 0, none⟩) (zad _) _).setCell (p := ⟨w.heap.size, 1, none⟩) (zad _) _;clear B l;rw [O.out.1, O.out.2];clear hr;go_wp2_with fail
                   (try simp only [Exit.inBlock, Exit.then])
                   refine zas (v := .tuple #[.agg #[.int .i64 0, .slice none 0 0], .bool false]) (qp rfl _ _ w.heap.size 24 #[.int .i64 0, .slice none 0 0] (0, 0) _ _ (by simp) G.out zb7 rfl (by kernel_rfl) (by simp)) rfl ?_;exact q5y HX.out H.out
                 | some z =>
                   have O := zaa (q7g hr);have hz := q6e.1 hr;have hqz2 : y = Lib.itoa z := q7y hz.2;have hzb := hz.1;unfold InD at hzb;have HWN : Hid (WsIs (f.take (j + 1)) (T ++ [z])) := by
                     refine ⟨?_, fun u hu => ?_⟩
                     . rw [zbj, HXQ.out, Q.out.1, hqz2]
                       simp [wsT]
                     . rcases zat.1 hu with hu | hu
                       . exact Q.out.2 u hu
                       . rw [zcf.1 hu]; exact hz.1
                   rw [O.out.1, O.out.2];obtain ⟨V, cX1⟩ := cl2 BX8;have hbase : w7.heap.size <= w8.heap.size := by omega
                   clear hr hz hqz2 U E Z D
                   go_wp2_with (at_builtin; refine app1 w8 rfl _ _ 43 3 rfl (.int .i64 0) 8 zax q15 rfl (by decide) w7.heap.size j ct At (ints T) rfl J (.int .i64 z) rfl rfl (by omega) hbase ?_; intro A8 c8 w9 K R hb9; have BX9 := BX8.grown R (fun e => q1q J BX8 (by decide) e.symm); have cX91 := BX9.cell 1; have fX91 := BX9.frozen 1; simp at cX91)
                   have how9 := qbe how8 J (by decide) R;have how10 := q5n how9 (p := ⟨F.heap.size, 1, none⟩) (q1q how9 BX9 (by decide)) (.slice A8 (j + 1) c8);have hT10 : Below M.heap.size M (w9.setCell ⟨F.heap.size, 1, none⟩ (.slice A8 (j + 1) c8)) := (hT8.trans (hb9.mono (by omega))).setCell (p := ⟨F.heap.size, 1, none⟩) (by show _ <= F.heap.size; omega) _;have BX10 : Blk (w9.setCell ⟨F.heap.size, 1, none⟩ (.slice A8 (j + 1) c8)) F.heap.size 122 #[.int .i64 (q : Int), .slice A8 (j + 1) c8] := by simpa using BX9.set_ 1 (.slice A8 (j + 1) c8)
                   have hown10 := qy (p := ⟨F.heap.size, 1, none⟩) (u := .slice A8 (j + 1) c8) K (by show F.heap.size < w7.heap.size; omega);have hz10 : w7.heap.size <= (w9.setCell ⟨F.heap.size, 1, none⟩ (.slice A8 (j + 1) c8)).heap.size := by simp; have := hb9.size; omega
                   go_roundw
                   case rel => exact ⟨j + 1, T ++ [z], A8, c8, by omega, by push_cast; rfl, BX10, by simpa [ints] using hown10, HWN, how10, hT10, hz10⟩
                   case measure => simp [intOf]; omega
               . obtain rfl : j = f.length := by omega
                 have HWF : Hid (∃ h f, splL 32 p = h :: f /\ WsIs f T) := by
                   refine ⟨h, f, HW.out, ?_⟩;have := Q.out
                   rwa [zaq (zad _)] at this
                 have htl : T.length = f.length := by
                   have := zav List.length Q.out.1;rw [zaq (zad _), q5x] at this;exact this.symm
                 have HTD : Hid (∀ v ∈ T, InD v) := Q.out.2;obtain ⟨Ao, co, rfl⟩ := qq Y.2.1;have BA8 := BA.next Z;have cA1 := BA8.cell 1;have V := U.cell 0;have cX1 := U.cell 1;simp at cA1 V cX1;have hO8 : shOp.own wr [.int .i64 (q : Int), .slice At f.length ct] ((q : Int), T) (obl (.slice At f.length ct)) := by
                   refine ⟨[.int .i64 (q : Int)], [.slice At f.length ct], [], obl (.slice At f.length ct), rfl, rfl, ⟨_, rfl, ⟨rfl, by omega, by omega⟩, rfl⟩, ⟨_, rfl, ?_, ?_, rfl⟩⟩
                   . show wr.ownsRow 0 3 1 _ T.length _
                     rw [htl];exact qh E (zah _)
                   . intro u hu
                     have := HTD.out u hu;unfold InD at this;exact ⟨by omega, by omega⟩
                 have hiv8 : Iv M.heap.size wr.heap.size (obl (.slice At f.length ct)) := (q76 E).mono (by omega) (zad _);obtain ⟨hvs, HPU⟩ := Y.push Z hlo hO8 hiv8;have hol : d.length <= 4 := by
                   have := HOI.out.1;rw [za8] at this;omega
                 have hl8 : g.heap.size + 1 <= wr.heap.size := by have := Z.size; omega
                 have HON : Hid (OpsW n (ps.take (k + 1)) (d ++ [((q : Int), T)])) := by
                   show OpsW _ _ _
                   rw [zbj, HXP.out, <- HAR.out, <- htl];exact HOI.out.snoc HWF.out
                 have hB28 : Below g.heap.size g wr := hB2.trans (Z.mono (by omega));clear E Y BA hO8 hiv8 I hrw
                 go_wp2_with (at_builtin; refine app2 wr rfl _ _ 22 122 rfl (.agg #[.int .i64 0, .slice none 0 0]) 32 ze4 q6q rfl (by decide) (g.heap.size + 1) d.length co Ao css.flatten rfl hvs (.int .i64 (q : Int)) (.slice At f.length ct) rfl rfl rfl (by omega) hl8 ?_; intro A9 c9 w9 K R hb9; have BA9 := BA8.grown R (fun e => q1q hvs BA8 (by decide) e.symm); have cA91 := BA9.cell 1; have fA91 := BA9.frozen 1; simp at cA91)
                 have PN := (HPU K R).far (p := ⟨g.heap.size, 1, none⟩) (by show g.heap.size < g.heap.size + 1; omega) (.slice A9 (d.length + 1) c9);have BA10 : Blk (w9.setCell ⟨g.heap.size, 1, none⟩ (.slice A9 (d.length + 1) c9)) g.heap.size 24 #[.int .i64 n, .slice A9 (d.length + 1) c9] := by simpa using BA9.set_ 1 (.slice A9 (d.length + 1) c9)
                 have hB10 : Below g.heap.size g (w9.setCell ⟨g.heap.size, 1, none⟩ (.slice A9 (d.length + 1) c9)) := (hB28.trans (hb9.mono (by omega))).setCell (p := ⟨g.heap.size, 1, none⟩) (zad _) _
                 go_roundw
                 case rel => exact ⟨k + 1, _, _, _, _, by omega, by push_cast; rfl, BA10, PN, HON, hB10⟩
                 case measure => simp [intOf]; omega
     . obtain rfl : k = ps.length := by omega
       have HOF : Hid (OpsW n ps d) := by
         have := HOI.out
         rwa [zaq (zad _)] at this
       obtain ⟨cA0, cA1⟩ := cl2 BA;obtain ⟨Ao, co, rfl⟩ := qq Y.2.1;have hral : qf.rd M [.int .i64 (n : Int), .slice Ao d.length co] ((n : Int), d) := qf.ord (Y.algO (a := (n : Int)) ⟨by omega, by omega⟩);have HIA := zaa (q4x _ _ M hral);obtain ⟨ab, HAB⟩ : ∃ b, Hid (algB ((n : Int), d) = b) := ⟨_, zaa rfl⟩;rw [HAB.out] at HIA;have HUX : Hid (∀ x, GoodA x -> s = mk (txA x) -> x = ((n : Int), d)) := fun x L N => by
         obtain ⟨h3, -, h5, -⟩ := HZ.out x L N;exact Prod.ext h3 ((OpsW.unique HOF.out h5.w).symm)
       have HARP : Hid (ArP ((n : Int), d)) := fun o ho => by
         obtain ⟨i, hi⟩ := zbh ho;have hil := (zag.1 hi).1;have := HOF.out.2 i _ o (zae (by rw [HOF.out.1]; exact hil)) hi;exact this.2
       rcases ab with _ | _
       . have HX : Hid (paA s = (0, []) /\ paB s = false) := q7e fun x L N => by
           have e := HUX.out x L N;have := q40.2 L.1;rw [e, HAB.out] at this;cases this
         go_wp2_with fail;refine HIA.out.mono ?_;rintro e w7 ⟨rfl, hb7⟩;have hT27 := hB2.trans (hb7.mono (by omega));have l := HBR.out.below hT27 hwz;obtain ⟨cR0, cR1, fR0, fR1⟩ := cf2 l;have B : Blk ((w7.setCell ⟨w.heap.size, 0, none⟩ (.int .i64 0)).setCell ⟨w.heap.size, 1, none⟩ (.slice none 0 0)) w.heap.size 24 #[.int .i64 0, .slice none 0 0] := by simpa using (l.set_ 0 (.int .i64 0)).set_ 1 (.slice none 0 0)
         have G := zaa B;have H : Hid (Below w.heap.size w ((w7.setCell ⟨w.heap.size, 0, none⟩ (.int .i64 0)).setCell ⟨w.heap.size, 1, none⟩ (.slice none 0 0))) := ((q9 HT2.out hT27 rfl).setCell (p := ⟨w.heap.size, 0, none⟩) (zad _) _).setCell (p := ⟨w.heap.size, 1, none⟩) (zad _) _;clear B l;go_wp2_with fail
         (try simp only [Exit.inBlock, Exit.then])
         refine zas (v := .tuple #[.agg #[.int .i64 0, .slice none 0 0], .bool false]) (qp rfl _ _ w.heap.size 24 #[.int .i64 0, .slice none 0 0] (0, 0) _ _ (by simp) G.out zb7 rfl (by kernel_rfl) (by simp)) rfl ?_;exact q5y HX.out H.out
       . have hAP := q40.1 HAB.out
         have HAP := zaa hAP;have HRAL := zaa hral;obtain ⟨X, HXT⟩ : ∃ X, Hid (mk (txA ((n : Int), d)) = X) := ⟨_, zaa rfl⟩;have HAT : Hid (∀ wz, Below M.heap.size M wz -> Calls Tryz.prog 97 #[.agg #[.int .i64 (n : Int), .slice Ao d.length co]] wz (Bl wz (.string X))) := fun wz hz => by
           have := qi2 [.int .i64 (n : Int), .slice Ao d.length co] ((n : Int), d) wz (qf.stab HRAL.out hz.block) HAP.out
           rwa [HXT.out] at this
         clear hAP hral;go_wp2_with fail;refine HIA.out.mono ?_;rintro e w7 ⟨rfl, hb7⟩;have hT27 := hB2.trans (hb7.mono (by omega));have dA0 := qe hb7 cA0;have dA1 := qe hb7 cA1;go_wp2_with fail;refine (HAT.out w7 hb7).mono ?_;rintro e w8 ⟨rfl, D⟩;have hb78 := q9 hb7 D rfl;have C : Below g.heap.size g w8 := hB2.trans (hb78.mono (by omega));have l := HBR.out.below C hwz;obtain ⟨cR0, cR1, fR0, fR1⟩ := cf2 l
         by_cases he : X = s
         . have hd : (X.toList == s.toList) = true := q36 (q2e.2 he)
           have HGO : Hid (paA s = ((n : Int), d) /\ paB s = true) := qcj (qab ⟨HAP.out, HARP.out⟩ (by rw [HXT.out]; exact he.symm));have eA0 := qe D dA0;have eA1 := qe D dA1;have B : Blk ((w8.setCell ⟨w.heap.size, 0, none⟩ (.int .i64 n)).setCell ⟨w.heap.size, 1, none⟩ (.slice Ao d.length co)) w.heap.size 24 #[.int .i64 n, .slice Ao d.length co] := by simpa using (l.set_ 0 (.int .i64 n)).set_ 1 (.slice Ao d.length co)
           have G := zaa B;have H : Hid (Below w.heap.size w ((w8.setCell ⟨w.heap.size, 0, none⟩ (.int .i64 n)).setCell ⟨w.heap.size, 1, none⟩ (.slice Ao d.length co))) := ((q9 HT2.out C rfl).setCell (p := ⟨w.heap.size, 0, none⟩) (zad _) _).setCell (p := ⟨w.heap.size, 1, none⟩) (zad _) _;have HPO := zaa (((Y.next hb78).far (p := ⟨w.heap.size, 0, none⟩) (by show w.heap.size < g.heap.size + 1; omega) (.int .i64 n)).far (p := ⟨w.heap.size, 1, none⟩) (by show w.heap.size < g.heap.size + 1; omega) (.slice Ao d.length co));clear he B l Y;go_wp2_with fail
           (try simp only [Exit.inBlock, Exit.then])
           refine zas (v := .tuple #[.agg #[.int .i64 n, .slice Ao d.length co], .bool true]) (qp rfl _ _ w.heap.size 24 #[.int .i64 n, .slice Ao d.length co] (0, 0) _ _ (by simp) G.out zb7 rfl (by kernel_rfl) (by simp)) rfl ?_;rw [HGO.out.1, HGO.out.2];exact ⟨_, _, rfl, HPO.out.algO ⟨by omega, by omega⟩, HPO.out.2.2.mono (by omega) (zad _), H.out⟩
         . have hd : (X.toList == s.toList) = false := q36 (q72.2 he)
           have HX : Hid (paA s = (0, []) /\ paB s = false) := q7e fun x L N => by
             have e := HUX.out x L N;rw [e, HXT.out] at N;exact he N.symm
           have B : Blk ((w8.setCell ⟨w.heap.size, 0, none⟩ (.int .i64 0)).setCell ⟨w.heap.size, 1, none⟩ (.slice none 0 0)) w.heap.size 24 #[.int .i64 0, .slice none 0 0] := by simpa using (l.set_ 0 (.int .i64 0)).set_ 1 (.slice none 0 0)
           have G := zaa B;have H : Hid (Below w.heap.size w ((w8.setCell ⟨w.heap.size, 0, none⟩ (.int .i64 0)).setCell ⟨w.heap.size, 1, none⟩ (.slice none 0 0))) := ((q9 HT2.out C rfl).setCell (p := ⟨w.heap.size, 0, none⟩) (zad _) _).setCell (p := ⟨w.heap.size, 1, none⟩) (zad _) _;clear he B l;go_wp2_with fail
           (try simp only [Exit.inBlock, Exit.then])
           refine zas (v := .tuple #[.agg #[.int .i64 0, .slice none 0 0], .bool false]) (qp rfl _ _ w.heap.size 24 #[.int .i64 0, .slice none 0 0] (0, 0) _ _ (by simp) G.out zb7 rfl (by kernel_rfl) (by simp)) rfl ?_;exact q5y HX.out H.out
end Go.Proofs.YtfnmkbpogbekpaaGreatDoor
