import Derived.Test.YtfnmkbpogbekpaaGreatDoorQ10
import Derived.Laws.IdiomStrings
import Derived.Test.YtfnmkbpogbekpaaGreatDoorRows
import Derived.HandedShaped
import Derived.LaidMore
import Derived.Stop.Joined
import Derived.MakeChecks
import Derived.Lib.LaidTab
import Derived.Lay
import Derived.Stop.LaidErr
import Derived.Shelf.Vars
set_option linter.unusedVariables false
set_option linter.unusedSimpArgs false
set_option maxRecDepth 100000
set_option maxHeartbeats 32000000
namespace Go.Proofs.YtfnmkbpogbekpaaGreatDoor
open Go.RowKit
theorem qnk {s:ByteArray} {x:qi} (h:GoodA x) (e:s=mk (txA x)):splL 59 (bs s)=Lib.itoa x.1::(x.2.map fun o=>sepB [32] (wsT o.2))/\InD x.1/\OpsIsR x.1.toNat (x.2.map fun o=>sepB [32] (wsT o.2)) x.2:=by
 rw[e,q9x];exact qfv h
theorem qif (b:UInt8):∀l:Bs,0<(splL b l).length
 | []=>by simp[splL]
 | x :: l => by
   rw [splL]
   split
   . simp
   . cases splL b l with
     | nil => simp
     | cons p ps => simp
theorem qgx (b:UInt8):∀l:Bs,(splL b l).length<=l.length+1
 | []=>by simp[splL]
 | x :: l => by
   have ih := qgx b l;rw [splL]
   split
   . rw [za0, za0]; omega
   . cases e : splL b l with
     | nil => simp
     | cons p ps =>
       rw [e] at ih;simp only [za0] at ih ⊢;omega
theorem q8w (b:UInt8):∀(l:Bs),∀p∈splL b l,p.length<=l.length
 | [], p, h => by
   rw [splL, zb2] at h;rw [h];exact zad _
 | x :: l, p, h => by
   have ih := q8w b l;rw [splL] at h
   split at h
   . rcases zbf.1 h with rfl | h
     . exact zah _
     . have := ih p h
       rw [za0]; omega
   . cases e : splL b l with
     | nil =>
       rw [e] at h;simp only [zb2] at h;rw [h];simp
     | cons q qs =>
       rw [e] at h ih;simp only at h
       rcases zbf.1 h with rfl | h
       . have := ih q (zaq ..)
         simp only [za0]; omega
       . have := ih p (zap _ h)
         rw [za0]; omega
def OpsW (n:Nat) (ps:List Bs) (ops:List OpM):Prop:=ps.length=ops.length/\∀(k:Nat) (p:Bs) (o:OpM),ps[k]?=some p->ops[k]?=some o->(∃h ws,splL 32 p=h::ws/\WsIs ws o.2)/\o.1=arL n o.2.length
theorem OpsIsR.w {n:Nat} {a:List Bs} {ops:List OpM} (h:OpsIsR n a ops):OpsW n a ops:=⟨h.1,fun k p o b c=>by
 obtain⟨⟨g,e,f⟩,d⟩:=h.2 k p o b c
 exact⟨⟨[],g,e,f⟩,d⟩⟩
theorem OpsW.nil (n:Nat):OpsW n [] []:=⟨rfl,fun k p o h=>by simp at h⟩
theorem OpsW.snoc {n:Nat} {c:List Bs} {ops:List OpM} (h:OpsW n c ops) {p:Bs} {T:List Int} (f:∃h ws,splL 32 p=h::ws/\WsIs ws T):OpsW n (c++ [p]) (ops++ [(arL n T.length,T)]):=by
 refine⟨by simp[h.1],fun k q o a b=>?_⟩
 by_cases hk:k<c.length
 .rw[zbv hk]at a
  rw[zbv (by rw[<-h.1];exact hk)]at b;exact h.2 k q o a b
 .have d:=(zag.1 a).1
  rw[zbs,List.length_singleton]at d;have e:k=c.length:=by omega
  subst e;rw[zbc (zad _),zda]at a;rw[h.1,zbc (zad _),zda]at b;simp at a b;subst a;subst b;exact⟨f,rfl⟩
theorem OpsW.unique {n:Nat} {d:List Bs} {a b:List OpM} (h:OpsW n d a) (c:OpsW n d b):a=b:=by
 apply zcl;intro k
 by_cases hk:k<d.length
 .have g:a[k]?=some (a[k]'(by rw[<-h.1];exact hk)):=zae _
  have i:b[k]?=some (b[k]'(by rw[<-c.1];exact hk)):=zae _;obtain⟨⟨q,s,j,l,-⟩,m⟩:=h.2 k _ _ (zae hk) g;obtain⟨⟨r,t,f,o,-⟩,p⟩:=c.2 k _ _ (zae hk) i;rw[j]at f;injection f with _ e0
  have e:=qdq (l.symm.trans (e0.trans o));rw[g,i]
  congr 1
  refine Prod.ext ?_ e;rw[m,p,e]
 .rw[zbl (by rw[<-h.1];omega),zbl (by rw[<-c.1];omega)]
def arM (g:Nat) (w:World):Nat:=3 - (intOf ((w.cell? ⟨g,0,none⟩).getD undef)).toNat
theorem qp7 {g:Nat} {w:World} {k:Nat} (h:w.cell? ⟨g,0,none⟩=some (.int .i64 k)):arM g w=3 - k:=by unfold arM;rw[h];simp[intOf]
theorem qk8 {n m k:Nat} (h:∀j,j<k->n ^ j≠m) (a:k<=3) (e:n ^ k=m):arL n m=k:=by
 unfold arL;obtain rfl|rfl|rfl|rfl:k=0\/k=1\/k=2\/k=3:=by omega
 .rw[zam e];rfl
 .rw[zaj (h 0 (by omega)),zam e];rfl
 .rw[zaj (h 0 (by omega)),zaj (h 1 (by omega)),zam e];rfl
 .rw[zaj (h 0 (by omega)),zaj (h 1 (by omega)),zaj (h 2 (by omega)),zam e];rfl
theorem qn5 {n m:Nat} (h:∀j,j<4->n ^ j≠m):arL n m= -1:=by
 unfold arL;rw[zaj (h 0 (by omega)),zaj (h 1 (by omega)),zaj (h 2 (by omega)),zaj (h 3 (by omega))]
theorem qdb (s:ByteArray) (w:World) (hs:s.size<=1048576):
  Calls Tryz.prog 57 #[.string s] w (OwA qf w (paA s) (paB s)):=by
 obtain⟨w0,hw0,T0,hsz0,BR⟩:=q15 w #[.int .i64 0,.slice none 0 0] 24;have HW0:=zaa hw0;obtain⟨P,HP⟩:∃P,Hid (splL 59 (bs s)=P):=⟨_,zaa rfl⟩;have hp0:0<P.length:=by rw[<-HP.out];exact qif _ _
 have HSP:Hid (Calls Tryz.prog 94 #[.string s,.int .u8 59] w0 (qk2 w0 P)):=by
  have:=qg5 s 59 59 rfl w0 (by omega);rw[HP.out]at this;exact this
 have HT0:=zaa T0;obtain⟨p0,ps,rfl⟩:∃p ps,P=p::ps:=by
  rcases P with _|⟨p,ps⟩
  .simp at hp0
  .exact⟨p,ps,rfl⟩
 unfold qk2 at HSP;rw[za0]at HSP;have hpl:ps.length+1<=1048578:=by
  have L:=zav List.length HP.out;rw[za0]at L;have N:=qgx 59 (bs s);have h3:(bs s).length=s.size:=rfl;omega
 have HPS:Hid (∀p∈p0::ps,p.length<=1048576):=fun p hp=>by
  rw[<-HP.out]at hp;have L:=q8w 59 (bs s) p hp;have N:(bs s).length=s.size:=rfl;omega
 have HG:Hid (∀x,GoodA x->s=mk (txA x)->p0=Lib.itoa x.1/\ps.length=x.2.length/\InD x.1/\OpsIsR x.1.toNat ps x.2):=fun x L N=>by
  obtain⟨h3,h4,h5⟩:=qnk L N;rw[HP.out]at h3;injection h3 with h3 h6
  exact⟨h3,by rw[h6];simp,h4,by rw[h6];exact h5⟩
 clear hw0 hsz0 T0 hp0
 go_enter Tryz.func57,Tryz.ntmps57
 go_upto_region 1 with fail;rw[<-HW0.out];go_wp2_with fail;refine HSP.out.mono ?_;rintro e w1 ⟨AP,cP,rfl,hRP,hb1⟩;have BR1:=BR.next hb1;obtain⟨gP,oP,vP,rfl,hcP,hvP⟩:=hRP.2.2 0 p0 rfl;have hvP':vP=.string (mk p0):=hvP;subst hvP';rw[Nat.add_zero]at hcP;have HPI:=zaa (q8q (mk p0) w1 (by have:=HPS.out p0 (zaq ..);rw[q60];omega));go_wp2_with fail;refine HPI.out.mono ?_;rintro e g ⟨rfl,hd2⟩;have hb2:Below w1.heap.size w1 g:=by obtain⟨z,rfl⟩:=hd2;exact qc (zac _ _) _
 have hb12:=q9 hb1 hb2 rfl;have BR2:=BR1.next hb2;have T2:=q9 HT0.out hb12 rfl;have hwz:w.heap.size<g.heap.size:=BR2.lt;have HBR:=zaa BR2;have HT2:=zaa T2;have HRA:=zaa (hRP.next q9q hb2);have hB22:Below g.heap.size g g:=zac _ _;have l:=HBR.out.below hB22 hwz;obtain⟨cR0,cR1,fR0,fR1⟩:=cf2 l;have B:Blk ((g.setCell ⟨w.heap.size,0,none⟩ (.int .i64 0)).setCell ⟨w.heap.size,1,none⟩ (.slice none 0 0)) w.heap.size 24 #[.int .i64 0,.slice none 0 0]:=by simpa using(l.set_ 0 (.int .i64 0)).set_ 1 (.slice none 0 0)
 have G:=zaa B;have H:Hid (Below w.heap.size w ((g.setCell ⟨w.heap.size,0,none⟩ (.int .i64 0)).setCell ⟨w.heap.size,1,none⟩ (.slice none 0 0))):=((q9 HT2.out hB22 rfl).setCell (p:=⟨w.heap.size,0,none⟩) (zad _) _).setCell (p:=⟨w.heap.size,1,none⟩) (zad _) _;clear B l;clear hRP hd2 hcP hvP;cases hr:q3l (mk p0)with
 | none =>
   have HR := zaa (q45 hr);have HX : Hid (paA s = (0, []) /\ paB s = false) := q7o fun x L N => by
     obtain ⟨h3, -, h4, -⟩ := HG.out x L N;have := q3t h4 (show mk p0 = mk (Lib.itoa x.1) by rw [h3]);rw [hr] at this;cases this
   rw [HR.out.1, HR.out.2];clear hr;go_wp2_with fail
   (try simp only [Exit.inBlock, Exit.then])
   refine zat (v := .tuple #[.agg #[.int .i64 0, .slice none 0 0], .bool false]) (qn rfl _ _ w.heap.size 24 #[.int .i64 0, .slice none 0 0] (0, 0) _ _ (by simp) G.out zb4 rfl (by kernel_rfl) (by simp)) rfl ?_;exact q63 HX.out H.out
 | some z =>
   have HR := zaa (q7q hr);have hz := q6j.1 hr;have hpz : p0 = Lib.itoa z := q87 hz.2;have HZ : Hid (∀ x, GoodA x -> s = mk (txA x) -> x.1 = z /\ ps.length = x.2.length /\ OpsIsR z.toNat ps x.2 /\ AlgP x) := fun x L N => by
     obtain ⟨h3, h4, -, h5⟩ := HG.out x L N;rw [hpz] at h3;have e := q80 h3;subst e;exact ⟨rfl, h4, h5, L.1⟩
   have hzb := hz.1;unfold InD at hzb;rw [HR.out.1, HR.out.2];clear hr hz hpz
   by_cases hin : 1 <= z /\ z <= 8
   rotate_left
   . have HX : Hid (paA s = (0, []) /\ paB s = false) := q7o fun x L N => by
       obtain ⟨h3, -, -, h5⟩ := HZ.out x L N;exact hin ⟨by have := h5.1; omega, by have := h5.2.1; omega⟩
     have HI : Hid (inB z 1 8 = false) := by
       show _ = _
       unfold inB;rw [Bool.and_eq_false_iff, zd5, zd5];omega
     go_wp2_with fail;refine (q26 _ _ _ _).mono ?_;rintro e w' ⟨rfl, rfl⟩;rw [HI.out];go_wp2_with fail
     (try simp only [Exit.inBlock, Exit.then])
     refine zat (v := .tuple #[.agg #[.int .i64 0, .slice none 0 0], .bool false]) (qn rfl _ _ w.heap.size 24 #[.int .i64 0, .slice none 0 0] (0, 0) _ _ (by simp) G.out zb4 rfl (by kernel_rfl) (by simp)) rfl ?_;exact q63 HX.out H.out
   have HI : Hid (inB z 1 8 = true) := by show _ = _; unfold inB; simp; omega
   by_cases hl5 : (5 : Int) < ((ps.length + 1 : Nat) : Int)
   . have HX : Hid (paA s = (0, []) /\ paB s = false) := q7o fun x L N => by
       obtain ⟨h3, h4, -, h5⟩ := HZ.out x L N;have := h5.2.2.1;omega
     go_wp2_with fail;refine (q26 _ _ _ _).mono ?_;rintro e w' ⟨rfl, rfl⟩;rw [HI.out];go_wp2_with fail
     (try simp only [Exit.inBlock, Exit.then])
     refine zat (v := .tuple #[.agg #[.int .i64 0, .slice none 0 0], .bool false]) (qn rfl _ _ w.heap.size 24 #[.int .i64 0, .slice none 0 0] (0, 0) _ _ (by simp) G.out zb4 rfl (by kernel_rfl) (by simp)) rfl ?_;exact q63 HX.out H.out
   obtain ⟨n, rfl⟩ : ∃ n : Nat, z = (n : Int) := ⟨z.toNat, by omega⟩;have hn1' : 1 <= n := by omega
   have hn8' : n <= 8 := by omega
   go_wp2_with fail;refine (q26 _ _ _ _).mono ?_;rintro e w' ⟨rfl, rfl⟩;rw [HI.out];go_upto_region 6 with fail;obtain ⟨w3, HW3⟩ : ∃ x, Hid (x = g.alloc (.cells #[.int .i64 n, .slice none 0 0] 24)) := ⟨_, zaa rfl⟩;rw [<- HW3.out];have hb3 : Below g.heap.size g w3 := by rw [HW3.out]; exact qm _ _
   have BA3 : Blk w3 g.heap.size 24 #[.int .i64 n, .slice none 0 0] := by rw [HW3.out]; exact Blk.new _ _ _
   have HPB : Hid (∀ p ∈ ps, p.length <= 1048576) := fun p hp => HPS.out p (zap _ hp)
   clear hb2 hb12 hb1 BR1 BR2 cR0 cR1 fR0 fR1 G HPI HSP hl5 T2 H hin;go_wp2_with fail
   go_loopw [8] (fun i wr => ∃ (k : Nat) (d : List OpM) (v : Value) (css : List (List Value)) (bls : List (List Nat)), k <= ps.length /\ i = .int .i64 ((k : Int) + 1) /\ Blk wr g.heap.size 24 #[.int .i64 n, v] /\ PO (g.heap.size + 1) wr v d css bls /\ Hid (OpsW n (ps.take k) d) /\ Below g.heap.size g wr) (fun i _ => ps.length + 1 - (intOf i).toNat)
   case atStart => exact ⟨0, [], _, [], [], zah _, rfl, BA3, PO.nil _ _, zaa (by rw [zcw]; exact OpsW.nil _), hb3⟩
   case round =>
     clear BA3 hb3 HW3;obtain ⟨k, d, v, css, bls, hk, rfl, BA, Y, HOI, hB2⟩ := hrel;obtain ⟨M, rfl⟩ : ∃ x : World, x = wr := ⟨_, rfl⟩;have hlo : g.heap.size + 1 <= M.heap.size := BA.lt
     by_cases hlt : k < ps.length
     . have hk0 : (0 : Int) <= (k : Int) + 1 := by omega
       have hkw : IntKind.i64.wrap ((k : Int) + 1) = (k : Int) + 1 := zck _ (by omega);obtain ⟨bp, op, vp, p, e0, hcp, hvp, -, hxp⟩ := (HRA.out.next q9q hB2).at (k := k + 1) (by omega);injection e0 with e0
       injection e0 with e1 e2
       subst e1;subst e2;have hvp' : vp = .string (mk p) := hvp;subst hvp';rw [zdh] at hxp;have hpz := HPB.out p (zaf hxp);have HXP := zaa hxp;obtain ⟨W, HW⟩ : ∃ W, Hid (splL 32 p = W) := ⟨_, zaa rfl⟩;have hW0 : 0 < W.length := by rw [<- HW.out]; exact qif _ _
       have hWl : W.length <= 1048578 := by rw [<- HW.out]; have := qgx 32 p; omega
       have HWP : Hid (∀ t ∈ W, t.length <= 1048576) := fun t ht => by
         rw [<- HW.out] at ht;have := q8w 32 p t ht;omega
       obtain ⟨h, f, rfl⟩ : ∃ h f, W = h :: f := by
         rcases W with _ | ⟨h, f⟩
         . simp at hW0
         . exact ⟨h, f, rfl⟩
       rw [za0] at hWl;have HSW : Hid (Calls Tryz.prog 94 #[.string (mk p), .int .u8 32] M (fun e w' => ∃ A c, e = .returned (.slice A (f.length + 1) c) /\ w'.ownsRow M.heap.size 9 1 (.slice A (f.length + 1) c) (f.length + 1) (strs (h :: f)) /\ Below M.heap.size M w')) := by
         have := qae (mk p) 32 32 rfl M (by rw [q60]; omega);rw [q9x, HW.out] at this;exact this.mono fun e w' ⟨A, c, L, N, h3, _⟩ => ⟨A, c, L, N, h3⟩
       have hcp' : M.cell? ⟨gP, oP + (k + 1), none⟩ = some (.string (mk p)) := hcp;clear hxp hvp hcp hW0;go_wp2_with fail;refine HSW.out.mono ?_;rintro e F ⟨Aw, cw, rfl, how5, hb5⟩;have hz5 := hb5.size;obtain ⟨w6, hw6, T6, hsz6, BX6⟩ := q15 F #[.int .i64 0, .slice none 0 0] 122;have HW6 := zaa hw6;have how6 := qp how5 T6;have hT6 := q9 hb5 T6 rfl;have hmz : ∀ m : Nat, m <= 1048578 -> IntKind.i64.wrap (((m + 1 : Nat) : Int) - 1) = (m : Int) := fun m hm => by
         rw [zck _ (by omega)];omega
       have hmw := hmz f.length (by omega);have hmw2 : IntKind.i64.wrap (((f.length : Nat) : Int) + 1 - 1) = (f.length : Int) := by
         rw [zck _ (by omega)];omega
       clear hw6 hsz6 how5 HSW hmz;go_upto_region 11 with fail;rw [<- HW6.out];go_wp2_with fail
       go_loopw [65] (fun u wr => ∃ q : Nat, q <= 3 /\ Blk wr F.heap.size 122 #[.int .i64 (q : Int), .slice none 0 0] /\ wr.ownsRow M.heap.size 9 1 (.slice Aw (f.length + 1) cw) (f.length + 1) (strs (h :: f)) /\ Hid (∀ j, j < q -> n ^ j ≠ f.length) /\ Below M.heap.size M wr /\ w6.heap.size <= wr.heap.size) (fun _ wr => arM F.heap.size wr)
       case atStart => exact ⟨0, zah _, BX6, how6, zaa (fun j hj => absurd hj (Nat.not_lt_zero _)), hT6, zad _⟩
       case round =>
         clear BX6 how6 hT6;obtain ⟨q, hq, U, I, HQ, Z, hz6⟩ := hrel;have V := U.cell 0;have cX1 := U.cell 1;have fX0 := U.frozen 0;simp at V cX1;obtain ⟨r, HR2⟩ : ∃ r, Hid (n ^ q = r) := ⟨_, zaa rfl⟩;have HPW : Hid (∀ wz, Calls Tryz.prog 96 #[.int .i64 n, .int .i64 q] wz fun e w' => e = .returned (.int .i64 r) /\ wz = w') := fun wz => qe9 n q r wz HR2.out hn8' (by omega)
         by_cases hc : q < 3 /\ r ≠ f.length
         . obtain ⟨hq3, S⟩ := hc
           have hq3' : (q : Int) < 3 := by omega
           have hne : ((r : Int) != (f.length : Int)) = true := by rw [bne_iff_ne]; omega
           have HQN : Hid (∀ j, j < q + 1 -> n ^ j ≠ f.length) := fun j hj => by
             rcases zc9 j q with h' | h'
             . exact HQ.out j h'
             . obtain rfl : j = q := by omega
               rw [HR2.out];exact S
           clear S;go_wp2_with fail;refine (HPW.out _).mono ?_;rintro e w' ⟨rfl, rfl⟩;have BXN : Blk (wr.setCell ⟨F.heap.size, 0, none⟩ (.int .i64 ((q + 1 : Nat) : Int))) F.heap.size 122 #[.int .i64 ((q + 1 : Nat) : Int), .slice none 0 0] := by simpa using U.set_ 0 (.int .i64 ((q + 1 : Nat) : Int))
           have howN := q5w I (p := ⟨F.heap.size, 0, none⟩) (q1s I U (by decide)) (.int .i64 ((q + 1 : Nat) : Int));have hTN : Below M.heap.size M (wr.setCell ⟨F.heap.size, 0, none⟩ (.int .i64 ((q + 1 : Nat) : Int))) := Z.setCell (p := ⟨F.heap.size, 0, none⟩) (by show _ <= F.heap.size; omega) _;have hqw : IntKind.i64.wrap ((q : Int) + 1) = ((q + 1 : Nat) : Int) := by rw [zck _ (by omega)]; push_cast; rfl
           have hzN : w6.heap.size <= (wr.setCell ⟨F.heap.size, 0, none⟩ (.int .i64 ((q + 1 : Nat) : Int))).heap.size := by simp; exact hz6
           have HM : Hid (arM F.heap.size (wr.setCell ⟨F.heap.size, 0, none⟩ (.int .i64 ((q + 1 : Nat) : Int))) < arM F.heap.size wr) := by
             show _ < _
             rw [qp7 (k := q + 1) (by have := BXN.cell 0; simpa using this), qp7 V];omega
           have HFIN := zaa (zao BXN (zao howN (zao hTN hzN)));clear BXN howN hTN hzN U I Z;go_wp2_with fail
           (try rw [hqw])
           go_roundw
           case rel => exact ⟨q + 1, by omega, HFIN.out.1, HFIN.out.2.1, HQN, HFIN.out.2.2.1, HFIN.out.2.2.2⟩
           case measure => exact HM.out
         . have hcase : (q < 3 /\ r = f.length) \/ (q = 3 /\ r = f.length) \/ (q = 3 /\ r ≠ f.length) := by omega
           have hq0 : (0 : Int) <= (q : Int) := by omega
           clear hc
           rcases hcase with ⟨hq3, S⟩ | ⟨hq3, S⟩ | ⟨hq3, S⟩
           rotate_right
           . have hq3' : ¬ (q : Int) < 3 := by omega
             have hne : ((r : Int) != (f.length : Int)) = true := by rw [bne_iff_ne]; omega
             have HX : Hid (paA s = (0, []) /\ paB s = false) := q7o fun x L N => by
               obtain ⟨h3, h4, h5, h8⟩ := HZ.out x L N;obtain ⟨o, ho⟩ : ∃ o, x.2[k]? = some o := ⟨x.2[k]'(by rw [<- h5.1]; exact hlt), zae _⟩;obtain ⟨⟨ws', h6, h7⟩, h9⟩ := h5.2 k p o HXP.out ho;rw [HW.out] at h6;injection h6 with _ h6
               have hl : o.2.length = f.length := by
                 rw [<- h6] at h7;have := zav List.length h7.1;rw [q62] at this;exact this.symm
               rw [hl, za5, qn5 (fun j hj => by
                 rcases zc9 j q with h' | h'
                 . exact HQ.out j h'
                 . obtain rfl : j = q := by omega
                   rw [HR2.out]
                   exact S)] at h9
               have := (h8.2.2.2 o (zaf ho)).1;omega
             have C : Below g.heap.size g wr := hB2.trans (Z.mono (by omega));have l := HBR.out.below C hwz;obtain ⟨cR0, cR1, fR0, fR1⟩ := cf2 l;have B : Blk ((wr.setCell ⟨w.heap.size, 0, none⟩ (.int .i64 0)).setCell ⟨w.heap.size, 1, none⟩ (.slice none 0 0)) w.heap.size 24 #[.int .i64 0, .slice none 0 0] := by simpa using (l.set_ 0 (.int .i64 0)).set_ 1 (.slice none 0 0)
             have G := zaa B;have H : Hid (Below w.heap.size w ((wr.setCell ⟨w.heap.size, 0, none⟩ (.int .i64 0)).setCell ⟨w.heap.size, 1, none⟩ (.slice none 0 0))) := ((q9 HT2.out C rfl).setCell (p := ⟨w.heap.size, 0, none⟩) (zad _) _).setCell (p := ⟨w.heap.size, 1, none⟩) (zad _) _;clear B l;clear S hq3;go_wp2_with fail;refine (HPW.out _).mono ?_;rintro e w' ⟨rfl, rfl⟩;go_wp2_with fail
             (try simp only [Exit.inBlock, Exit.then])
             refine zat (v := .tuple #[.agg #[.int .i64 0, .slice none 0 0], .bool false]) (qn rfl _ _ w.heap.size 24 #[.int .i64 0, .slice none 0 0] (0, 0) _ _ (by simp) G.out zb4 rfl (by kernel_rfl) (by simp)) rfl ?_;exact q63 HX.out H.out
           . have hq3' : (q : Int) < 3 := by omega
             have hne : ((r : Int) != (f.length : Int)) = false := by rw [bne_eq_false_iff_eq]; omega
             clear hq3;go_wp2_with fail;refine (HPW.out _).mono ?_;rintro e w' ⟨rfl, rfl⟩;have HAR : Hid (arL n f.length = (q : Int)) := qk8 HQ.out hq (HR2.out.trans S);clear S;go_wp2_with fail;refine (HPW.out _).mono ?_;rintro e w' ⟨rfl, rfl⟩;obtain ⟨w7, rfl⟩ : ∃ x : World, x = wr := ⟨_, rfl⟩;clear V cX1 fX0;go_wp2_with fail
             go_loopw [11] (fun i wr => ∃ (j : Nat) (T : List Int) (A : Option Addr) (c : Nat), j <= f.length /\ i = .int .i64 ((j : Int) + 1) /\ Blk wr F.heap.size 122 #[.int .i64 (q : Int), .slice A j c] /\ wr.ownsRow w7.heap.size 3 1 (.slice A j c) j (ints T) /\ Hid (WsIs (f.take j) T) /\ wr.ownsRow M.heap.size 9 1 (.slice Aw (f.length + 1) cw) (f.length + 1) (strs (h :: f)) /\ Below M.heap.size M wr /\ w7.heap.size <= wr.heap.size) (fun i _ => f.length + 1 - (intOf i).toNat)
             case atStart => exact ⟨0, [], none, 0, zah _, rfl, U, World.ownsRow_nil _ _ _ _, zaa ⟨by rw [zcw]; rfl, fun v hv => by cases hv⟩, I, Z, zad _⟩
             case round =>
               have hgx : F.heap.size < w7.heap.size := U.lt;clear U I Z HPW;obtain ⟨j, T, At, ct, hj, rfl, U, E, Q, I, Z, hz7⟩ := hrel;have hrw := qgs (by unfold maxLen; omega) I (by rw [za0])
               by_cases hjl : j < f.length
               . have hj0 : (0 : Int) <= (j : Int) + 1 := by omega
                 have hjw : IntKind.i64.wrap ((j : Int) + 1) = (j : Int) + 1 := zck _ (by omega);obtain ⟨bq, oq, vq, y, rfl, hcq, hvq, -, hxq⟩ := hrw.at (k := j + 1) (by omega);have hvq' : vq = .string (mk y) := hvq;subst hvq';rw [zdh] at hxq;have hyz := HWP.out y (zap _ (zaf hxq));have HXQ := zaa hxq;have HPI2 := zaa (q8q (mk y) wr (by rw [q60]; omega));have hcq' : wr.cell? ⟨bq, oq + (j + 1), none⟩ = some (.string (mk y)) := hcq;clear hxq hvq hcq hrw;go_wp2_with fail;refine HPI2.out.mono ?_;rintro e w8 ⟨rfl, hd8⟩;have D : Below wr.heap.size wr w8 := by obtain ⟨z, rfl⟩ := hd8; exact qc (zac _ _) _
                 have BX8 := U.next D;have hT8 := q9 Z D rfl;have J := qp E D;have how8 := qp I D;have hz88 := D.size;clear hd8;cases hr : q3l (mk y) with
                 | none =>
                   have O := zaa (q45 hr);have HX : Hid (paA s = (0, []) /\ paB s = false) := q7o fun x L N => by
                     obtain ⟨h3, h4, h5, -⟩ := HZ.out x L N;obtain ⟨o, ho⟩ : ∃ o, x.2[k]? = some o := ⟨x.2[k]'(by rw [<- h5.1]; exact hlt), zae _⟩;obtain ⟨⟨ws', h6, h7⟩, -⟩ := h5.2 k p o HXP.out ho;rw [HW.out] at h6;injection h6 with _ h6
                     rw [<- h6] at h7;exact WsIs.bad HXQ.out hr _ h7
                   have C : Below g.heap.size g w8 := hB2.trans (hT8.mono (by omega));have l := HBR.out.below C hwz;obtain ⟨cR0, cR1, fR0, fR1⟩ := cf2 l;have B : Blk ((w8.setCell ⟨w.heap.size, 0, none⟩ (.int .i64 0)).setCell ⟨w.heap.size, 1, none⟩ (.slice none 0 0)) w.heap.size 24 #[.int .i64 0, .slice none 0 0] := by simpa using (l.set_ 0 (.int .i64 0)).set_ 1 (.slice none 0 0)
                   have G := zaa B;have H : Hid (Below w.heap.size w ((w8.setCell ⟨w.heap.size, 0, none⟩ (.int .i64 0)).setCell ⟨w.heap.size, 1, none⟩ (.slice none 0 0))) := ((q9 HT2.out C rfl).setCell (p := ⟨w.heap.size, 0, none⟩) (zad _) _).setCell (p := ⟨w.heap.size, 1, none⟩) (zad _) _;clear B l;rw [O.out.1, O.out.2];clear hr;go_wp2_with fail
                   (try simp only [Exit.inBlock, Exit.then])
                   refine zat (v := .tuple #[.agg #[.int .i64 0, .slice none 0 0], .bool false]) (qn rfl _ _ w.heap.size 24 #[.int .i64 0, .slice none 0 0] (0, 0) _ _ (by simp) G.out zb4 rfl (by kernel_rfl) (by simp)) rfl ?_;exact q63 HX.out H.out
                 | some z =>
                   have O := zaa (q7q hr);have hz := q6j.1 hr;have hqz2 : y = Lib.itoa z := q87 hz.2;have hzb := hz.1;unfold InD at hzb;have HWN : Hid (WsIs (f.take (j + 1)) (T ++ [z])) := by
                     refine ⟨?_, fun u hu => ?_⟩
                     . rw [zbp, HXQ.out, Q.out.1, hqz2]
                       simp [wsT]
                     . rcases zau.1 hu with hu | hu
                       . exact Q.out.2 u hu
                       . rw [zb2.1 hu]; exact hz.1
                   rw [O.out.1, O.out.2];obtain ⟨V, cX1⟩ := cl2 BX8;have hbase : w7.heap.size <= w8.heap.size := by omega
                   clear hr hz hqz2 U E Z D
                   go_wp2_with (at_builtin; refine app1 w8 rfl _ _ 43 3 rfl (.int .i64 0) 8 za1 q14 rfl (by decide) w7.heap.size j ct At (ints T) rfl J (.int .i64 z) rfl rfl (by omega) hbase ?_; intro A8 c8 w9 K R hb9; have BX9 := BX8.grown R (fun e => q1s J BX8 (by decide) e.symm); have cX91 := BX9.cell 1; have fX91 := BX9.frozen 1; simp at cX91)
                   have how9 := qbx how8 J (by decide) R;have how10 := q5w how9 (p := ⟨F.heap.size, 1, none⟩) (q1s how9 BX9 (by decide)) (.slice A8 (j + 1) c8);have hT10 : Below M.heap.size M (w9.setCell ⟨F.heap.size, 1, none⟩ (.slice A8 (j + 1) c8)) := (hT8.trans (hb9.mono (by omega))).setCell (p := ⟨F.heap.size, 1, none⟩) (by show _ <= F.heap.size; omega) _;have BX10 : Blk (w9.setCell ⟨F.heap.size, 1, none⟩ (.slice A8 (j + 1) c8)) F.heap.size 122 #[.int .i64 (q : Int), .slice A8 (j + 1) c8] := by simpa using BX9.set_ 1 (.slice A8 (j + 1) c8)
                   have hown10 := qx (p := ⟨F.heap.size, 1, none⟩) (u := .slice A8 (j + 1) c8) K (by show F.heap.size < w7.heap.size; omega);have hz10 : w7.heap.size <= (w9.setCell ⟨F.heap.size, 1, none⟩ (.slice A8 (j + 1) c8)).heap.size := by simp; have := hb9.size; omega
                   go_roundw
                   case rel => exact ⟨j + 1, T ++ [z], A8, c8, by omega, by push_cast; rfl, BX10, by simpa [ints] using hown10, HWN, how10, hT10, hz10⟩
                   case measure => simp [intOf]; omega
               . obtain rfl : j = f.length := by omega
                 have HWF : Hid (∃ h f, splL 32 p = h :: f /\ WsIs f T) := by
                   refine ⟨h, f, HW.out, ?_⟩;have := Q.out
                   rwa [zar (zad _)] at this
                 have htl : T.length = f.length := by
                   have := zav List.length Q.out.1;rw [zar (zad _), q62] at this;exact this.symm
                 have HTD : Hid (∀ v ∈ T, InD v) := Q.out.2;obtain ⟨Ao, co, rfl⟩ := qu Y.2.1;have BA8 := BA.next Z;have cA1 := BA8.cell 1;have V := U.cell 0;have cX1 := U.cell 1;simp at cA1 V cX1;have hO8 : shOp.own wr [.int .i64 (q : Int), .slice At f.length ct] ((q : Int), T) (obl (.slice At f.length ct)) := by
                   refine ⟨[.int .i64 (q : Int)], [.slice At f.length ct], [], obl (.slice At f.length ct), rfl, rfl, ⟨_, rfl, ⟨rfl, by omega, by omega⟩, rfl⟩, ⟨_, rfl, ?_, ?_, rfl⟩⟩
                   . show wr.ownsRow 0 3 1 _ T.length _
                     rw [htl];exact ql E (zah _)
                   . intro u hu
                     have := HTD.out u hu;unfold InD at this;exact ⟨by omega, by omega⟩
                 have hiv8 : Iv M.heap.size wr.heap.size (obl (.slice At f.length ct)) := (q7g E).mono (by omega) (zad _);obtain ⟨hvs, HPU⟩ := Y.push Z hlo hO8 hiv8;have hol : d.length <= 4 := by
                   have := HOI.out.1;rw [za9] at this;omega
                 have hl8 : g.heap.size + 1 <= wr.heap.size := by have := Z.size; omega
                 have HON : Hid (OpsW n (ps.take (k + 1)) (d ++ [((q : Int), T)])) := by
                   show OpsW _ _ _
                   rw [zbp, HXP.out, <- HAR.out, <- htl];exact HOI.out.snoc HWF.out
                 have hB28 : Below g.heap.size g wr := hB2.trans (Z.mono (by omega));clear E Y BA hO8 hiv8 I hrw
                 go_wp2_with (at_builtin; refine app2 wr rfl _ _ 22 122 rfl (.agg #[.int .i64 0, .slice none 0 0]) 32 ze7 q70 rfl (by decide) (g.heap.size + 1) d.length co Ao css.flatten rfl hvs (.int .i64 (q : Int)) (.slice At f.length ct) rfl rfl rfl (by omega) hl8 ?_; intro A9 c9 w9 K R hb9; have BA9 := BA8.grown R (fun e => q1s hvs BA8 (by decide) e.symm); have cA91 := BA9.cell 1; have fA91 := BA9.frozen 1; simp at cA91)
                 have PN := (HPU K R).far (p := ⟨g.heap.size, 1, none⟩) (by show g.heap.size < g.heap.size + 1; omega) (.slice A9 (d.length + 1) c9);have BA10 : Blk (w9.setCell ⟨g.heap.size, 1, none⟩ (.slice A9 (d.length + 1) c9)) g.heap.size 24 #[.int .i64 n, .slice A9 (d.length + 1) c9] := by simpa using BA9.set_ 1 (.slice A9 (d.length + 1) c9)
                 have hB10 : Below g.heap.size g (w9.setCell ⟨g.heap.size, 1, none⟩ (.slice A9 (d.length + 1) c9)) := (hB28.trans (hb9.mono (by omega))).setCell (p := ⟨g.heap.size, 1, none⟩) (zad _) _
                 go_roundw
                 case rel => exact ⟨k + 1, _, _, _, _, by omega, by push_cast; rfl, BA10, PN, HON, hB10⟩
                 case measure => simp [intOf]; omega
           . have hq3' : ¬ (q : Int) < 3 := by omega
             have hne : ((r : Int) != (f.length : Int)) = false := by rw [bne_eq_false_iff_eq]; omega
             clear hq3;have HAR : Hid (arL n f.length = (q : Int)) := qk8 HQ.out hq (HR2.out.trans S);clear S;go_wp2_with fail;refine (HPW.out _).mono ?_;rintro e w' ⟨rfl, rfl⟩;obtain ⟨w7, rfl⟩ : ∃ x : World, x = wr := ⟨_, rfl⟩;clear V cX1 fX0;go_wp2_with fail
             go_loopw [11] (fun i wr => ∃ (j : Nat) (T : List Int) (A : Option Addr) (c : Nat), j <= f.length /\ i = .int .i64 ((j : Int) + 1) /\ Blk wr F.heap.size 122 #[.int .i64 (q : Int), .slice A j c] /\ wr.ownsRow w7.heap.size 3 1 (.slice A j c) j (ints T) /\ Hid (WsIs (f.take j) T) /\ wr.ownsRow M.heap.size 9 1 (.slice Aw (f.length + 1) cw) (f.length + 1) (strs (h :: f)) /\ Below M.heap.size M wr /\ w7.heap.size <= wr.heap.size) (fun i _ => f.length + 1 - (intOf i).toNat)
             case atStart => exact ⟨0, [], none, 0, zah _, rfl, U, World.ownsRow_nil _ _ _ _, zaa ⟨by rw [zcw]; rfl, fun v hv => by cases hv⟩, I, Z, zad _⟩
             case round =>
               have hgx : F.heap.size < w7.heap.size := U.lt;clear U I Z HPW;obtain ⟨j, T, At, ct, hj, rfl, U, E, Q, I, Z, hz7⟩ := hrel;have hrw := qgs (by unfold maxLen; omega) I (by rw [za0])
               by_cases hjl : j < f.length
               . have hj0 : (0 : Int) <= (j : Int) + 1 := by omega
                 have hjw : IntKind.i64.wrap ((j : Int) + 1) = (j : Int) + 1 := zck _ (by omega);obtain ⟨bq, oq, vq, y, rfl, hcq, hvq, -, hxq⟩ := hrw.at (k := j + 1) (by omega);have hvq' : vq = .string (mk y) := hvq;subst hvq';rw [zdh] at hxq;have hyz := HWP.out y (zap _ (zaf hxq));have HXQ := zaa hxq;have HPI2 := zaa (q8q (mk y) wr (by rw [q60]; omega));have hcq' : wr.cell? ⟨bq, oq + (j + 1), none⟩ = some (.string (mk y)) := hcq;clear hxq hvq hcq hrw;go_wp2_with fail;refine HPI2.out.mono ?_;rintro e w8 ⟨rfl, hd8⟩;have D : Below wr.heap.size wr w8 := by obtain ⟨z, rfl⟩ := hd8; exact qc (zac _ _) _
                 have BX8 := U.next D;have hT8 := q9 Z D rfl;have J := qp E D;have how8 := qp I D;have hz88 := D.size;clear hd8;cases hr : q3l (mk y) with
                 | none =>
                   have O := zaa (q45 hr);have HX : Hid (paA s = (0, []) /\ paB s = false) := q7o fun x L N => by
                     obtain ⟨h3, h4, h5, -⟩ := HZ.out x L N;obtain ⟨o, ho⟩ : ∃ o, x.2[k]? = some o := ⟨x.2[k]'(by rw [<- h5.1]; exact hlt), zae _⟩;obtain ⟨⟨ws', h6, h7⟩, -⟩ := h5.2 k p o HXP.out ho;rw [HW.out] at h6;injection h6 with _ h6
                     rw [<- h6] at h7;exact WsIs.bad HXQ.out hr _ h7
                   have C : Below g.heap.size g w8 := hB2.trans (hT8.mono (by omega));have l := HBR.out.below C hwz;obtain ⟨cR0, cR1, fR0, fR1⟩ := cf2 l;have B : Blk ((w8.setCell ⟨w.heap.size, 0, none⟩ (.int .i64 0)).setCell ⟨w.heap.size, 1, none⟩ (.slice none 0 0)) w.heap.size 24 #[.int .i64 0, .slice none 0 0] := by simpa using (l.set_ 0 (.int .i64 0)).set_ 1 (.slice none 0 0)
                   have G := zaa B;have H : Hid (Below w.heap.size w ((w8.setCell ⟨w.heap.size, 0, none⟩ (.int .i64 0)).setCell ⟨w.heap.size, 1, none⟩ (.slice none 0 0))) := ((q9 HT2.out C rfl).setCell (p := ⟨w.heap.size, 0, none⟩) (zad _) _).setCell (p := ⟨w.heap.size, 1, none⟩) (zad _) _;clear B l;rw [O.out.1, O.out.2];clear hr;go_wp2_with fail
                   (try simp only [Exit.inBlock, Exit.then])
                   refine zat (v := .tuple #[.agg #[.int .i64 0, .slice none 0 0], .bool false]) (qn rfl _ _ w.heap.size 24 #[.int .i64 0, .slice none 0 0] (0, 0) _ _ (by simp) G.out zb4 rfl (by kernel_rfl) (by simp)) rfl ?_;exact q63 HX.out H.out
                 | some z =>
                   have O := zaa (q7q hr);have hz := q6j.1 hr;have hqz2 : y = Lib.itoa z := q87 hz.2;have hzb := hz.1;unfold InD at hzb;have HWN : Hid (WsIs (f.take (j + 1)) (T ++ [z])) := by
                     refine ⟨?_, fun u hu => ?_⟩
                     . rw [zbp, HXQ.out, Q.out.1, hqz2]
                       simp [wsT]
                     . rcases zau.1 hu with hu | hu
                       . exact Q.out.2 u hu
                       . rw [zb2.1 hu]; exact hz.1
                   rw [O.out.1, O.out.2];obtain ⟨V, cX1⟩ := cl2 BX8;have hbase : w7.heap.size <= w8.heap.size := by omega
                   clear hr hz hqz2 U E Z D
                   go_wp2_with (at_builtin; refine app1 w8 rfl _ _ 43 3 rfl (.int .i64 0) 8 za1 q14 rfl (by decide) w7.heap.size j ct At (ints T) rfl J (.int .i64 z) rfl rfl (by omega) hbase ?_; intro A8 c8 w9 K R hb9; have BX9 := BX8.grown R (fun e => q1s J BX8 (by decide) e.symm); have cX91 := BX9.cell 1; have fX91 := BX9.frozen 1; simp at cX91)
                   have how9 := qbx how8 J (by decide) R;have how10 := q5w how9 (p := ⟨F.heap.size, 1, none⟩) (q1s how9 BX9 (by decide)) (.slice A8 (j + 1) c8);have hT10 : Below M.heap.size M (w9.setCell ⟨F.heap.size, 1, none⟩ (.slice A8 (j + 1) c8)) := (hT8.trans (hb9.mono (by omega))).setCell (p := ⟨F.heap.size, 1, none⟩) (by show _ <= F.heap.size; omega) _;have BX10 : Blk (w9.setCell ⟨F.heap.size, 1, none⟩ (.slice A8 (j + 1) c8)) F.heap.size 122 #[.int .i64 (q : Int), .slice A8 (j + 1) c8] := by simpa using BX9.set_ 1 (.slice A8 (j + 1) c8)
                   have hown10 := qx (p := ⟨F.heap.size, 1, none⟩) (u := .slice A8 (j + 1) c8) K (by show F.heap.size < w7.heap.size; omega);have hz10 : w7.heap.size <= (w9.setCell ⟨F.heap.size, 1, none⟩ (.slice A8 (j + 1) c8)).heap.size := by simp; have := hb9.size; omega
                   go_roundw
                   case rel => exact ⟨j + 1, T ++ [z], A8, c8, by omega, by push_cast; rfl, BX10, by simpa [ints] using hown10, HWN, how10, hT10, hz10⟩
                   case measure => simp [intOf]; omega
               . obtain rfl : j = f.length := by omega
                 have HWF : Hid (∃ h f, splL 32 p = h :: f /\ WsIs f T) := by
                   refine ⟨h, f, HW.out, ?_⟩;have := Q.out
                   rwa [zar (zad _)] at this
                 have htl : T.length = f.length := by
                   have := zav List.length Q.out.1;rw [zar (zad _), q62] at this;exact this.symm
                 have HTD : Hid (∀ v ∈ T, InD v) := Q.out.2;obtain ⟨Ao, co, rfl⟩ := qu Y.2.1;have BA8 := BA.next Z;have cA1 := BA8.cell 1;have V := U.cell 0;have cX1 := U.cell 1;simp at cA1 V cX1;have hO8 : shOp.own wr [.int .i64 (q : Int), .slice At f.length ct] ((q : Int), T) (obl (.slice At f.length ct)) := by
                   refine ⟨[.int .i64 (q : Int)], [.slice At f.length ct], [], obl (.slice At f.length ct), rfl, rfl, ⟨_, rfl, ⟨rfl, by omega, by omega⟩, rfl⟩, ⟨_, rfl, ?_, ?_, rfl⟩⟩
                   . show wr.ownsRow 0 3 1 _ T.length _
                     rw [htl];exact ql E (zah _)
                   . intro u hu
                     have := HTD.out u hu;unfold InD at this;exact ⟨by omega, by omega⟩
                 have hiv8 : Iv M.heap.size wr.heap.size (obl (.slice At f.length ct)) := (q7g E).mono (by omega) (zad _);obtain ⟨hvs, HPU⟩ := Y.push Z hlo hO8 hiv8;have hol : d.length <= 4 := by
                   have := HOI.out.1;rw [za9] at this;omega
                 have hl8 : g.heap.size + 1 <= wr.heap.size := by have := Z.size; omega
                 have HON : Hid (OpsW n (ps.take (k + 1)) (d ++ [((q : Int), T)])) := by
                   show OpsW _ _ _
                   rw [zbp, HXP.out, <- HAR.out, <- htl];exact HOI.out.snoc HWF.out
                 have hB28 : Below g.heap.size g wr := hB2.trans (Z.mono (by omega));clear E Y BA hO8 hiv8 I hrw
                 go_wp2_with (at_builtin; refine app2 wr rfl _ _ 22 122 rfl (.agg #[.int .i64 0, .slice none 0 0]) 32 ze7 q70 rfl (by decide) (g.heap.size + 1) d.length co Ao css.flatten rfl hvs (.int .i64 (q : Int)) (.slice At f.length ct) rfl rfl rfl (by omega) hl8 ?_; intro A9 c9 w9 K R hb9; have BA9 := BA8.grown R (fun e => q1s hvs BA8 (by decide) e.symm); have cA91 := BA9.cell 1; have fA91 := BA9.frozen 1; simp at cA91)
                 have PN := (HPU K R).far (p := ⟨g.heap.size, 1, none⟩) (by show g.heap.size < g.heap.size + 1; omega) (.slice A9 (d.length + 1) c9);have BA10 : Blk (w9.setCell ⟨g.heap.size, 1, none⟩ (.slice A9 (d.length + 1) c9)) g.heap.size 24 #[.int .i64 n, .slice A9 (d.length + 1) c9] := by simpa using BA9.set_ 1 (.slice A9 (d.length + 1) c9)
                 have hB10 : Below g.heap.size g (w9.setCell ⟨g.heap.size, 1, none⟩ (.slice A9 (d.length + 1) c9)) := (hB28.trans (hb9.mono (by omega))).setCell (p := ⟨g.heap.size, 1, none⟩) (zad _) _
                 go_roundw
                 case rel => exact ⟨k + 1, _, _, _, _, by omega, by push_cast; rfl, BA10, PN, HON, hB10⟩
                 case measure => simp [intOf]; omega
     . obtain rfl : k = ps.length := by omega
       have HOF : Hid (OpsW n ps d) := by
         have := HOI.out
         rwa [zar (zad _)] at this
       obtain ⟨cA0, cA1⟩ := cl2 BA;obtain ⟨Ao, co, rfl⟩ := qu Y.2.1;have hral : qf.rd M [.int .i64 (n : Int), .slice Ao d.length co] ((n : Int), d) := qf.ord (Y.algO (a := (n : Int)) ⟨by omega, by omega⟩);have HIA := zaa (q5a _ _ M hral);obtain ⟨ab, HAB⟩ : ∃ b, Hid (algB ((n : Int), d) = b) := ⟨_, zaa rfl⟩;rw [HAB.out] at HIA;have HUX : Hid (∀ x, GoodA x -> s = mk (txA x) -> x = ((n : Int), d)) := fun x L N => by
         obtain ⟨h3, -, h5, -⟩ := HZ.out x L N;exact Prod.ext h3 ((OpsW.unique HOF.out h5.w).symm)
       have HARP : Hid (ArP ((n : Int), d)) := fun o ho => by
         obtain ⟨i, hi⟩ := zbo ho;have hil := (zag.1 hi).1;have := HOF.out.2 i _ o (zae (by rw [HOF.out.1]; exact hil)) hi;exact this.2
       rcases ab with _ | _
       . have HX : Hid (paA s = (0, []) /\ paB s = false) := q7o fun x L N => by
           have e := HUX.out x L N;have := q43.2 L.1;rw [e, HAB.out] at this;cases this
         go_wp2_with fail;refine HIA.out.mono ?_;rintro e w7 ⟨rfl, hb7⟩;have hT27 := hB2.trans (hb7.mono (by omega));have l := HBR.out.below hT27 hwz;obtain ⟨cR0, cR1, fR0, fR1⟩ := cf2 l;have B : Blk ((w7.setCell ⟨w.heap.size, 0, none⟩ (.int .i64 0)).setCell ⟨w.heap.size, 1, none⟩ (.slice none 0 0)) w.heap.size 24 #[.int .i64 0, .slice none 0 0] := by simpa using (l.set_ 0 (.int .i64 0)).set_ 1 (.slice none 0 0)
         have G := zaa B;have H : Hid (Below w.heap.size w ((w7.setCell ⟨w.heap.size, 0, none⟩ (.int .i64 0)).setCell ⟨w.heap.size, 1, none⟩ (.slice none 0 0))) := ((q9 HT2.out hT27 rfl).setCell (p := ⟨w.heap.size, 0, none⟩) (zad _) _).setCell (p := ⟨w.heap.size, 1, none⟩) (zad _) _;clear B l;go_wp2_with fail
         (try simp only [Exit.inBlock, Exit.then])
         refine zat (v := .tuple #[.agg #[.int .i64 0, .slice none 0 0], .bool false]) (qn rfl _ _ w.heap.size 24 #[.int .i64 0, .slice none 0 0] (0, 0) _ _ (by simp) G.out zb4 rfl (by kernel_rfl) (by simp)) rfl ?_;exact q63 HX.out H.out
       . have hAP := q43.1 HAB.out
         have HAP := zaa hAP;have HRAL := zaa hral;obtain ⟨X, HXT⟩ : ∃ X, Hid (mk (txA ((n : Int), d)) = X) := ⟨_, zaa rfl⟩;have HAT : Hid (∀ wz, Below M.heap.size M wz -> Calls Tryz.prog 97 #[.agg #[.int .i64 (n : Int), .slice Ao d.length co]] wz (Bl wz (.string X))) := fun wz hz => by
           have := qjc [.int .i64 (n : Int), .slice Ao d.length co] ((n : Int), d) wz (qf.stab HRAL.out hz.block) HAP.out
           rwa [HXT.out] at this
         clear hAP hral;go_wp2_with fail;refine HIA.out.mono ?_;rintro e w7 ⟨rfl, hb7⟩;have hT27 := hB2.trans (hb7.mono (by omega));have dA0 := qe hb7 cA0;have dA1 := qe hb7 cA1;go_wp2_with fail;refine (HAT.out w7 hb7).mono ?_;rintro e w8 ⟨rfl, D⟩;have hb78 := q9 hb7 D rfl;have C : Below g.heap.size g w8 := hB2.trans (hb78.mono (by omega));have l := HBR.out.below C hwz;obtain ⟨cR0, cR1, fR0, fR1⟩ := cf2 l
         by_cases he : X = s
         . have hd : (X.toList == s.toList) = true := q3p (q2f.2 he)
           have HGO : Hid (paA s = ((n : Int), d) /\ paB s = true) := qd2 (qas ⟨HAP.out, HARP.out⟩ (by rw [HXT.out]; exact he.symm));have eA0 := qe D dA0;have eA1 := qe D dA1;have B : Blk ((w8.setCell ⟨w.heap.size, 0, none⟩ (.int .i64 n)).setCell ⟨w.heap.size, 1, none⟩ (.slice Ao d.length co)) w.heap.size 24 #[.int .i64 n, .slice Ao d.length co] := by simpa using (l.set_ 0 (.int .i64 n)).set_ 1 (.slice Ao d.length co)
           have G := zaa B;have H : Hid (Below w.heap.size w ((w8.setCell ⟨w.heap.size, 0, none⟩ (.int .i64 n)).setCell ⟨w.heap.size, 1, none⟩ (.slice Ao d.length co))) := ((q9 HT2.out C rfl).setCell (p := ⟨w.heap.size, 0, none⟩) (zad _) _).setCell (p := ⟨w.heap.size, 1, none⟩) (zad _) _;have HPO := zaa (((Y.next hb78).far (p := ⟨w.heap.size, 0, none⟩) (by show w.heap.size < g.heap.size + 1; omega) (.int .i64 n)).far (p := ⟨w.heap.size, 1, none⟩) (by show w.heap.size < g.heap.size + 1; omega) (.slice Ao d.length co));clear he B l Y;go_wp2_with fail
           (try simp only [Exit.inBlock, Exit.then])
           refine zat (v := .tuple #[.agg #[.int .i64 n, .slice Ao d.length co], .bool true]) (qn rfl _ _ w.heap.size 24 #[.int .i64 n, .slice Ao d.length co] (0, 0) _ _ (by simp) G.out zb4 rfl (by kernel_rfl) (by simp)) rfl ?_;rw [HGO.out.1, HGO.out.2];exact ⟨_, _, rfl, HPO.out.algO ⟨by omega, by omega⟩, HPO.out.2.2.mono (by omega) (zad _), H.out⟩
         . have hd : (X.toList == s.toList) = false := q3p (q7a.2 he)
           have HX : Hid (paA s = (0, []) /\ paB s = false) := q7o fun x L N => by
             have e := HUX.out x L N;rw [e, HXT.out] at N;exact he N.symm
           have B : Blk ((w8.setCell ⟨w.heap.size, 0, none⟩ (.int .i64 0)).setCell ⟨w.heap.size, 1, none⟩ (.slice none 0 0)) w.heap.size 24 #[.int .i64 0, .slice none 0 0] := by simpa using (l.set_ 0 (.int .i64 0)).set_ 1 (.slice none 0 0)
           have G := zaa B;have H : Hid (Below w.heap.size w ((w8.setCell ⟨w.heap.size, 0, none⟩ (.int .i64 0)).setCell ⟨w.heap.size, 1, none⟩ (.slice none 0 0))) := ((q9 HT2.out C rfl).setCell (p := ⟨w.heap.size, 0, none⟩) (zad _) _).setCell (p := ⟨w.heap.size, 1, none⟩) (zad _) _;clear he B l;go_wp2_with fail
           (try simp only [Exit.inBlock, Exit.then])
           refine zat (v := .tuple #[.agg #[.int .i64 0, .slice none 0 0], .bool false]) (qn rfl _ _ w.heap.size 24 #[.int .i64 0, .slice none 0 0] (0, 0) _ _ (by simp) G.out zb4 rfl (by kernel_rfl) (by simp)) rfl ?_;exact q63 HX.out H.out
theorem qb6 (v:Value) (xs:List qy) (bl:List Nat) (k0:Int) (w:World) (h:(Sh.rowsW qj 57).own w [v] xs bl) (hnd:bl.Nodup) (h0:0<=k0) (h1:k0+cntS q29 xs<=4611686018427387904):
  Calls Tryz.prog 51 #[v,.int .i64 k0] w (MkE (Sh.rowsW qj 57) w [v] (mkL q7f q29 k0 xs) bl (k0+cntS q29 xs)):=by
 obtain⟨A,n',c,dd,css0,bls,e,hdd,R,rfl⟩:=h;injection e with e _
 subst e;obtain⟨A',c',e'⟩:=qu R.row;injection e' with e1 e2 e3
 subst e1;subst e2;have HDD:=zaa hdd;clear e3 hdd;have hnl:=q5b R.row;unfold maxLen at hnl;have aa:=zaa hnd;clear hnd
 go_enter Tryz.func51,Tryz.ntmps51
 go_wp2
 go_loopw [1,5] (fun q i wr=>∃(j:Nat) (k:Int) (ys:List qy) (d:List (List Value)),j<=xs.length/\i=.int .i64 j/\q=.int .i64 k/\MkAt q7f q29 k0 xs ys j k/\Parts qj 57 wr (.slice A xs.length c) ys d bls/\ChgB (obl (.slice A xs.length c)++bls.flatten) w wr) (fun _ i _=>xs.length - (intOf i).toNat)
 case atStart=>exact⟨0,k0,xs,css0,zah _,rfl,rfl,MkAt.start _ _,R,ChgB.refl _ _⟩
 case round=>
  clear R;obtain⟨j,k,ys,d,hj,rfl,rfl,HM,N,CH⟩:=hrel;have U:ys.length=xs.length:=HM.2.2.1
  by_cases hlt:j<xs.length
  .have hd:xs.drop j=xs[j]::xs.drop (j+1):=zbq hlt
   generalize xs[j]=x at hd
   obtain⟨hyj,hk0,hk1⟩:=HM.left hd;have HS:=zaa (HM.step hd);obtain⟨g,cap,hv⟩:=N.slice (by omega:j<ys.length);injection hv with hA hn2 l
   subst hA;clear hn2 l;have hl1:=N.l1;have hl2:=N.l2;have n:d[j]?=some (d[j]'(by omega)):=zae (by omega);have t:bls[j]?=some (bls[j]'(by omega)):=zae (by omega)
   generalize d[j]'(by omega)=cj at n
   generalize bls[j]'(by omega)=bk at t
   have ho:=N.el j cj x bk n hyj t;obtain⟨c0,c1,b0,b1,rfl,rfl,O0,⟨cE,cS,bE,y,rfl,rfl,⟨cL,cR,D,E,rfl,rfl,OL,OR⟩,W⟩⟩:=ho;obtain⟨_,rfl,⟨rfl,lo0,hi0⟩,rfl⟩:=O0;obtain⟨_,rfl,B,J,F,rfl,-⟩:=(Sh.il 3).ord OL;obtain⟨_,rfl,C,K,G,rfl,-⟩:=(Sh.il 3).ord OR;obtain⟨_,rfl,L,O,M,rfl,-⟩:=(Sh.il 3).ord W;have T:=qap aa.out (g:=g) rfl;have S:∀b∈(D++E)++y,b∈bls.flatten:=fun b f=>zbm.2 ⟨_,zaf t,by simpa using f⟩
   have Y:=qqr aa.out t;have V:((D++E)++y).Nodup:=by simpa using Y
   have gL:g∉D:=fun u=>T (S g (by simp[u]))
   have gR:g∉E:=fun u=>T (S g (by simp[u]))
   have gS:g∉y:=fun u=>T (S g (by simp[u]))
   have dLR:=nd_x (nd_l V);have dRL:=nd_y (nd_l V);have dLS:∀z∈D,z∉y:=fun z hz=>nd_x V z (zbb _ hz)
   have dRS:∀z∈E,z∉y:=fun z hz=>nd_x V z (zaz _ hz)
   have dSL:∀z∈y,z∉D:=fun z hz u=>dLS z u hz
   have dSR:∀z∈y,z∉E:=fun z hz u=>dRS z u hz
   have hmb:j*4+4<=xs.length*4:=by omega
   have s:=N.row;rw[U]at s;have r:=N.all;have q0:j*4<xs.length*qj.m:=by show _<_*4;omega
   have q1:j*4+1<xs.length*qj.m:=by show _<_*4;omega
   have q2:j*4+2<xs.length*qj.m:=by show _<_*4;omega
   have q3:j*4+3<xs.length*qj.m:=by show _<_*4;omega
   have F0:d.flatten[j*4]?=some (.int .i64 x.1):=by have:=q1j r j 0 (by decide);rw[n]at this;exact this
   have F1:d.flatten[j*4+1]?=some (.slice B J F):=by have:=q1j r j 1 (by decide);rw[n]at this;exact this
   have F2:d.flatten[j*4+2]?=some (.slice C K G):=by have:=q1j r j 2 (by decide);rw[n]at this;exact this
   have F3:d.flatten[j*4+3]?=some (.slice L O M):=by have:=q1j r j 3 (by decide);rw[n]at this;exact this
   have cc0:wr.cell? ⟨g,j*4,none⟩=some (.int .i64 x.1):=(s.cellAt _ q0).trans F0;have cc1:wr.cell? ⟨g,j*4+1,none⟩=some (.slice B J F):=(s.cellAt _ q1).trans F1;have ff0:wr.frozen? ⟨g,j*4,none⟩=false:=s.frozenAt _;obtain⟨w1,o⟩:∃wb,wb=wr.setCell ⟨g,j*4,none⟩ (.int .i64 k):=⟨_,rfl⟩;have a:w1.ownsRow 0 57 qj.m (.slice (some ⟨g,0,none⟩) xs.length c) xs.length (d.flatten.set (j*4) (.int .i64 k)):=by rw[o];exact(s.stored (j*4) (.int .i64 k)).1
   replace OL:(Sh.il 3).own w1 [.slice B J F] x.2.1.1 D:=by rw[o];exact Sh.oset' (p:=⟨g,j*4,none⟩) OL gL _
   replace OR:(Sh.il 3).own w1 [.slice C K G] x.2.1.2 E:=by rw[o];exact Sh.oset' (p:=⟨g,j*4,none⟩) OR gR _
   replace W:(Sh.il 3).own w1 [.slice L O M] x.2.2 y:=by rw[o];exact Sh.oset' (p:=⟨g,j*4,none⟩) W gS _
   have P:ChgB (g::((D++E)++y)) wr w1:=by rw[o];exact ChgB.set (p:=⟨g,j*4,none⟩) (zaq ..) _
   have E1:(d.flatten.set (j*4) (.int .i64 k))[j*4+1]?=some (.slice B J F):=q17 F1 (by omega);have E2:(d.flatten.set (j*4) (.int .i64 k))[j*4+2]?=some (.slice C K G):=q17 F2 (by omega);have E3:(d.flatten.set (j*4) (.int .i64 k))[j*4+3]?=some (.slice L O M):=q17 F3 (by omega);obtain⟨fl,HFL⟩:∃fl,Hid (d.flatten.set (j*4) (.int .i64 k)=fl):=⟨_,rfl⟩;rw[HFL.out]at a E1 E2 E3;have HE1:=zaa E1;have HE2:=zaa E2;have HE3:=zaa E3;have HBJ:=zaa t;have HP:=zaa N;have HYL:=zaa U;have hj0:(0:Int)<=(j:Int):=by omega
   have hj1:(j:Int)<(xs.length:Int):=by omega
   have hmc:q29 x=1+x.2.1.1.length+x.2.1.2.length+x.2.2.length:=rfl;clear hd HM N U n t hyj s F0 F1 F2 F3 E1 E2 E3 Y;go_wp2_with fail;rw[<-o];clear o cc0 cc1 ff0;refine(q2i _ x.2.1.1 D (k+1) w1 OL (by omega) (by omega)).mono ?_;rintro e w2 ⟨rfl,PL,l⟩;replace a:=q4n a l (fun b f=>by injection f with f;subst f;exact gL);replace P:=P.trans (l.mono fun b f=>zap _ (by simp[f]));replace OR:=Sh.ochg OR l dRL;replace W:=Sh.ochg W l dSL;have cc2:w2.cell? ⟨g,j*4+2,none⟩=some (.slice C K G):=(a.cellAt _ q2).trans HE2.out;clear l;go_wp2_with fail;clear cc2;refine(q2i _ x.2.1.2 E (k+1+x.2.1.1.length) w2 OR (by omega) (by omega)).mono ?_;rintro e w3 ⟨rfl,PR,H⟩;replace a:=q4n a H (fun b f=>by injection f with f;subst f;exact gR);replace P:=P.trans (H.mono fun b f=>zap _ (by simp[f]));replace PL:=Sh.ochg PL H dLR;replace W:=Sh.ochg W H dSR;have cc3:w3.cell? ⟨g,j*4+3,none⟩=some (.slice L O M):=(a.cellAt _ q3).trans HE3.out;clear H;go_wp2_with fail;clear cc3;refine(q2i _ x.2.2 y (k+1+x.2.1.1.length+x.2.1.2.length) w3 W (by omega) (by omega)).mono ?_;rintro e w4 ⟨rfl,PS,I⟩;replace a:=q4n a I (fun b f=>by injection f with f;subst f;exact gS);replace P:=P.trans (I.mono fun b f=>zap _ (by simp[f]));replace PL:=Sh.ochg PL I dLS;replace PR:=Sh.ochg PR I dRS;clear I;have Z:fl=q48 d.flatten (j*qj.m) [.int .i64 k,.slice B J F,.slice C K G,.slice L O M]:=by
    show _=(((d.flatten.set (j*4) (.int .i64 k)).set (j*4+1) (.slice B J F)).set (j*4+1+1) (.slice C K G)).set (j*4+1+1+1) (.slice L O M)
    rw[HFL.out,q4b HE1.out,q4b HE2.out,q4b HE3.out]
   rw[Z]at a;have X:w4.ownsRow 0 57 qj.m (.slice (some ⟨g,0,none⟩) xs.length c) ys.length (q48 d.flatten (j*qj.m) [.int .i64 k,.slice B J F,.slice C K G,.slice L O M]):=by rw[HYL.out];exact a
   have hkr:InR k:=⟨by omega,by omega⟩;have Q:=HP.out.put aa.out HBJ.out (c':= [.int .i64 k,.slice B J F,.slice C K G,.slice L O M]) (x':=q7f k x) X ⟨[.int .i64 k], [.slice B J F,.slice C K G,.slice L O M], [],(D++E)++y,rfl,rfl,⟨_,rfl,⟨rfl,hkr.1,hkr.2⟩,rfl⟩,⟨[.slice B J F,.slice C K G], [.slice L O M],D++E,y,rfl,rfl,⟨[.slice B J F], [.slice C K G],D,E,rfl,rfl,PL,PR⟩,PS⟩⟩
    (fun b f hn=>P.block b (HP.out.lt b (zaz _ f)) (fun u=>by
     rcases zbf.1 u with rfl|u
     .exact T f
     .exact hn (by simpa using u)))
   have CH2:=CH.trans (P.mono fun b f=>by
    rcases zbf.1 f with rfl|f
    .exact zbb _ (q1e.2 rfl)
    .exact zaz _ (S b f))
   clear Z a X P PL PR PS;have HPP':=zaa Q;clear Q;go_wp2_with fail
   go_roundw
   case rel=>exact⟨j+1,_,_,_,by omega,by go_num,rfl,by rw[show k+1+((x.2.1.1.length:Nat):Int)+((x.2.1.2.length:Nat):Int)+((x.2.2.length:Nat):Int)=k+q29 x from by rw[hmc];omega];exact HS.out,HPP'.out,CH2⟩
   case measure=>simp[intOf];omega
  .have hj':j=xs.length:=by omega
   obtain⟨rfl,hk⟩:=HM.done (zbk (by omega));have HK:=zaa hk;have Q:=zaa N;clear N hk U;have hlt':¬(j:Int)<(xs.length:Int):=by omega
   clear hj';go_wp2_with fail;go_ret;exact⟨q11 HK.out,⟨A,_,c,dd,d,bls,rfl,HDD.out,Q.out,rfl⟩,CH⟩
theorem qej (cs:List Value) (x:LabM) (r:List Nat) (c:Int) (w:World) (h:q31.own w cs x r) (z:r.Nodup) (J:0<=c) (X:c+q53 x<=4611686018427387904):
  Calls Tryz.prog 19 #[.agg cs.toArray,.int .i64 c] w (MkE q31 w cs (qjl c x) r (c+q53 x)):=by
 obtain⟨R,S,N,O,rfl,rfl,F,⟨U,T,i,P,rfl,rfl,g,⟨V,W,j,Q,rfl,rfl,d,G⟩⟩⟩:=h;obtain⟨_,rfl,rfl,rfl⟩:=F;obtain⟨_,rfl,⟨rfl,A,y⟩,rfl⟩:=G;obtain⟨f,n,k,rfl,-⟩:=(Sh.rowsW qj 57).ord d;obtain⟨o,B,s,rfl,-⟩:=qv (qf.ord g);have L:q53 x=q1i x.2.1+cntS q29 x.2.2.1:=rfl;have a:(i++j).Nodup:=by simpa using z
 obtain⟨M,m,q,C,E⟩:=q15 w #[.bool x.1,.int .i64 x.2.1.1,.slice o B s,.slice f n k,.int .i64 x.2.2.2] 27;have t:∀b∈i,b<w.heap.size:=qf.olt g;replace g:=Sh.onext g q;replace d:=Sh.onext d q
 go_enter Tryz.func19,Tryz.ntmps19
 go_wp2_with fail;rw[<-m];clear m;refine(q6c _ x.2.1 i c M g (nd_l a) J (by omega)).mono ?_;rintro e D ⟨rfl,p,v⟩;replace d:=Sh.ochg d v (nd_y a);have I:D.cell? ⟨w.heap.size,3,none⟩=some (.slice f n k):=by
  rw[zb6 (v.block w.heap.size (by omega) (fun K=>by have:=t _ K;omega))];exact E.cell 3
 go_wp2_with fail;clear I;refine(qb6 _ x.2.2.1 j (c+q1i x.2.1) D d (nd_r a) (by omega) (by omega)).mono ?_;rintro e Y ⟨rfl,H,l⟩;replace p:=Sh.ochg p l (nd_x a);go_wp2_with fail;go_ret;refine⟨q11 (by omega),⟨[.bool x.1], [.int .i64 x.2.1.1,.slice o B s,.slice f n k,.int .i64 x.2.2.2], [],i++(j++ []),rfl,rfl,⟨_,rfl,rfl,rfl⟩,⟨[.int .i64 x.2.1.1,.slice o B s], [.slice f n k,.int .i64 x.2.2.2],i,j++ [],rfl,rfl,p,⟨[.slice f n k], [.int .i64 x.2.2.2],j, [],rfl,rfl,H,⟨_,rfl,⟨rfl,A,y⟩,rfl⟩⟩⟩⟩,((ChgB.ofBelow q).trans (v.mono fun b u=>by simp[u])).trans (l.mono fun b u=>by simp[u])⟩
noncomputable def ldO (x:LabM) (s:qq):Option LabM:=if x.1=true then none else(parA s.2.1).map fun a=>(true,a,x.2.2.1,x.2.2.2)
noncomputable def ldR (x:LabM) (s:qq):LabM:=(ldO x s).getD zLab
noncomputable def ldB (x:LabM) (s:qq):Bool:=(ldO x s).isSome
theorem qqh {x:LabM} {s:qq} (h:ldO x s=none):ldR x s=zLab/\ldB x s=false:=by unfold ldR ldB;rw[h];exact⟨rfl,rfl⟩
theorem qle {x:LabM} {s:qq} {y:LabM} (h:ldO x s=some y):ldR x s=y/\ldB x s=true:=by unfold ldR ldB;rw[h];exact⟨rfl,rfl⟩
theorem qm6 (w:World):q19.rd w [.bool false,.int .i64 0,.slice none 0 0,.slice none 0 0,.int .i64 0] zLab:=
 qrp (x:=zLab) ⟨by decide,by decide⟩ (RdN.nil _ _ _ _) (RdN.nil _ _ _ _) ⟨by decide,by decide⟩
def RdK {α:Type} (S:Sh α) (P:World->Prop) (w:World) (x:α) (ok:Bool) (e:Ending) (w2:World):Prop:=
 ∃cs,e=.returned (.tuple #[.agg cs.toArray,.bool ok])/\(∀w3,P w3->(∀b,w.heap.size<=b->b<w2.heap.size->w3.heap[b]?=w2.heap[b]?)->S.rd w3 cs x)/\Below w.heap.size w w2
theorem qh8 {w w':World} {P:World->Prop} {r:LabM} {a:Bool} (b:Below w.heap.size w w') (e:r=zLab/\a=false):
  RdK q19 P w r a (.returned (.tuple #[.agg #[.bool false,.int .i64 0,.slice none 0 0,.slice none 0 0,.int .i64 0],.bool false])) w':=by
 obtain⟨rfl,rfl⟩:=e;exact⟨_,rfl,fun c _ _=>qm6 c,b⟩
theorem qf8 (cs ds:List Value) (x:LabM) (s:qq) (w:World) (h:q19.rd w cs x) (h':qh.rd w ds s) (hk:s.1=1) (hn':s.2.1.size<=1048576):
  Calls Tryz.prog 28 #[.agg cs.toArray,.agg ds.toArray] w (RdK q19 (fun w3=>q19.rd w3 cs x) w (ldR x s) (ldB x s)):=by
 obtain⟨Bo,k,d,F,n,c,rfl,qZ,qO,qF,qR⟩:=q42 h;obtain⟨AL,nL,cL,AR,nR,cR,AV,nV,cV,AS,nS,cS,rfl,pK,pT,pF,pL,pR,pV,pS,pA,pB⟩:=q1a h';obtain⟨w0,aa,T0,D,BP,BQ,BZ⟩:=q4z w #[.bool x.1,.int .i64 x.2.1.1,.slice Bo k d,.slice F n c,.int .i64 x.2.2.2] #[.int .i64 s.1,.string s.2.1,.int .i64 s.2.2.1.1,.slice AL nL cL,.slice AR nR cR,.slice AV nV cV,.slice AS nS cS,.int .i64 s.2.2.2.2.1,.int .i64 s.2.2.2.2.2] #[.bool false,.int .i64 0,.slice none 0 0,.slice none 0 0,.int .i64 0] 27 59 27;have HW0:=zaa aa;have HPA:=zaa (qdb s.2.1 w0 hn');have HT0:=zaa T0;have HQR:=zaa qR;have u:=BP.cell 0;have U:=BQ.cell 0;have V:=BQ.cell 1;simp at u U V;have hs0:w0.heap.size=w.heap.size+3:=D;have hkt:(s.1==1)=true:=by rw[hk];rfl
 obtain⟨xo,L⟩:∃b,Hid (x.1=b):=⟨_,zaa rfl⟩;rw[L.out]at u;have HBP:=zaa BP;clear aa D h h' qO qF qZ qR pK pT pF pL pR pV pS pA pB T0 hk BP
 go_enter Tryz.func28,zgd
 go_upto_region 1 with fail;rw[<-HW0.out];go_wp2_with fail;refine HPA.out.mono ?_;rintro e w5 ⟨csA,blA,rfl,X,hIA,Y⟩;obtain⟨i,m,W,T,rfl,C,hblA,z⟩:=PO.of_own X hIA (zad _);obtain⟨w6,K⟩:∃wb,Hid (wb=w5.alloc (.cells #[.int .i64 (paA s.2.1).1,.slice i (paA s.2.1).2.length m] 24)):=⟨_,zaa rfl⟩;have Z:Below w5.heap.size w5 w6:=by rw[K.out];exact qm _ _
 have E:Blk w6 w5.heap.size 24 #[.int .i64 (paA s.2.1).1,.slice i (paA s.2.1).2.length m]:=by rw[K.out];exact Blk.new _ _ _
 have y:=q9 Y Z rfl;have T6:=q9 HT0.out y rfl;have q:=BZ.next y;have cP6:=qe y u;have A:=C.next Z;have H:=zaa z;have hz56:=Y.size;obtain⟨pb,I⟩:∃b,Hid (paB s.2.1=b):=⟨_,zaa rfl⟩;rw[I.out];have f:=HBP.out.next y;clear X C z u U V hkt;go_upto_region 3 with fail;rw[<-K.out]
 by_cases hgo:xo=false/\pb=true
 rotate_left
 .have Q:Hid (ldR x s=zLab/\ldB x s=false):=qqh (by
   unfold ldO;rw[L.out]
   rcases xo with _|_
   .rw[zaj (by decide)]
    rcases qm1 s.2.1 with⟨q1,-⟩|⟨a,q1,q2,R⟩
    .rw[q1];rfl
    .rw[I.out]at R
     exact absurd ⟨rfl,R⟩ hgo
   .rfl)
  obtain⟨cZ0,cZ1,cZ2,cZ3,cZ4,fZ0,fZ1,fZ2,fZ3,fZ4⟩:=cf5 q;have r:=zaa (q18 q (.bool false) (.int .i64 0) (.slice none 0 0) (.slice none 0 0) (.int .i64 0));have t:=zaa (q10 T6 (g:=w.heap.size+1+1) (by omega) (.bool false) (.int .i64 0) (.slice none 0 0) (.slice none 0 0) (.int .i64 0))
  rcases xo with _|_
  .obtain rfl:pb=false:=by
    rcases pb with _|_
    .rfl
    .exact absurd ⟨rfl,rfl⟩ hgo
   clear hgo;go_wp2_with fail
   (try simp only[Exit.inBlock,Exit.then])
   refine zat (v:=.tuple #[.agg #[.bool false,.int .i64 0,.slice none 0 0,.slice none 0 0,.int .i64 0],.bool false]) ?hr rfl ?_
   case hr=>exact qn rfl _ _ (w.heap.size+1+1) 27 #[.bool false,.int .i64 0,.slice none 0 0,.slice none 0 0,.int .i64 0] (0,0) _ _ rfl r.out zbg rfl (by kernel_rfl) rfl
   exact qh8 t.out Q.out
  .clear hgo
   go_wp2_with fail
   (try simp only[Exit.inBlock,Exit.then])
   refine zat (v:=.tuple #[.agg #[.bool false,.int .i64 0,.slice none 0 0,.slice none 0 0,.int .i64 0],.bool false]) ?hr rfl ?_
   case hr=>exact qn rfl _ _ (w.heap.size+1+1) 27 #[.bool false,.int .i64 0,.slice none 0 0,.slice none 0 0,.int .i64 0] (0,0) _ _ rfl r.out zbg rfl (by kernel_rfl) rfl
   exact qh8 t.out Q.out
 .obtain⟨rfl,rfl⟩:=hgo
  have Q:Hid (ldR x s=(true,paA s.2.1,x.2.2.1,x.2.2.2)/\ldB x s=true):=qle (by
   unfold ldO;rw[L.out,zaj (by decide)]
   rcases qm1 s.2.1 with⟨q1,q2,R⟩|⟨a,q1,q2,R⟩
   .rw[I.out]at R;cases R
   .rw[q1,q2];rfl)
  obtain⟨a,HA⟩:∃a,Hid (paA s.2.1=a):=⟨_,zaa rfl⟩;rw[HA.out]at E A Q H;have cA0:=E.cell 0;have cA1:=E.cell 1;have M:=f.cell 0;have N:=f.cell 1;have O:=f.cell 2;have fG0:=f.frozen 0;have fG1:=f.frozen 1;have fG2:=f.frozen 2;simp at cA0 cA1 M N O;obtain⟨w7,j⟩:∃wb,Hid (wb=((w6.setCell ⟨w.heap.size,0,none⟩ (.bool true)).setCell ⟨w.heap.size,1,none⟩ (.int .i64 a.1)).setCell ⟨w.heap.size,2,none⟩ (.slice i a.2.length m)):=⟨_,zaa rfl⟩;have S:Blk w7 w.heap.size 27 #[.bool true,.int .i64 a.1,.slice i a.2.length m,.slice F n c,.int .i64 x.2.2.2]:=by rw[j.out];simpa using((f.set_ 0 (.bool true)).set_ 1 (.int .i64 a.1)).set_ 2 (.slice i a.2.length m)
  have P:w.heap.size<w0.heap.size:=by omega
  have B:PO w0.heap.size w7 (.slice i a.2.length m) a.2 W T:=by rw[j.out];exact((A.far (p:=⟨w.heap.size,0,none⟩) P _).far (p:=⟨w.heap.size,1,none⟩) P _).far (p:=⟨w.heap.size,2,none⟩) P _
  have T7:Below w.heap.size w w7:=by rw[j.out];exact((T6.setCell (p:=⟨w.heap.size,0,none⟩) (zad _) _).setCell (p:=⟨w.heap.size,1,none⟩) (zad _) _).setCell (p:=⟨w.heap.size,2,none⟩) (zad _) _
  have G:Blk w7 (w.heap.size+1+1) 27 #[.bool false,.int .i64 0,.slice none 0 0,.slice none 0 0,.int .i64 0]:=by rw[j.out];exact((q.far (p:=⟨w.heap.size,0,none⟩) (by show _≠w.heap.size;omega) _).far (p:=⟨w.heap.size,1,none⟩) (by show _≠w.heap.size;omega) _).far (p:=⟨w.heap.size,2,none⟩) (by show _≠w.heap.size;omega) _
  clear f q;go_upto_region 7 with fail;rw[HA.out];rw[<-j.out];clear M N O fG0 fG1 fG2;obtain⟨M,N,O,cG3,cG4⟩:=cl5 S;obtain⟨cZ0,cZ1,cZ2,cZ3,cZ4,fZ0,fZ1,fZ2,fZ3,fZ4⟩:=cf5 G;have r:=zaa (q18 G (.bool true) (.int .i64 a.1) (.slice i a.2.length m) (.slice F n c) (.int .i64 x.2.2.2));have o:w.heap.size+1+1<w0.heap.size:=by omega
  have t:=zaa (q10 T7 (g:=w.heap.size+1+1) (by omega) (.bool true) (.int .i64 a.1) (.slice i a.2.length m) (.slice F n c) (.int .i64 x.2.2.2));have J:=zaa (((((B.far (p:=⟨w.heap.size+1+1,0,none⟩) o (.bool true)).far (p:=⟨w.heap.size+1+1,1,none⟩) o (.int .i64 a.1)).far (p:=⟨w.heap.size+1+1,2,none⟩) o (.slice i a.2.length m)).far (p:=⟨w.heap.size+1+1,3,none⟩) o (.slice F n c)).far (p:=⟨w.heap.size+1+1,4,none⟩) o (.int .i64 x.2.2.2));clear S G B;go_wp2_with fail
  (try simp only[Exit.inBlock,Exit.then])
  refine zat (v:=.tuple #[.agg #[.bool true,.int .i64 a.1,.slice i a.2.length m,.slice F n c,.int .i64 x.2.2.2],.bool true]) ?hr rfl ?_
  case hr=>exact qn rfl _ _ (w.heap.size+1+1) 27 #[.bool true,.int .i64 a.1,.slice i a.2.length m,.slice F n c,.int .i64 x.2.2.2] (0,0) _ _ rfl r.out zbg rfl (by kernel_rfl) rfl
  rw[Q.out.1,Q.out.2];refine⟨_,rfl,fun w3 hP hS=>?_,t.out⟩;have ho:=qf.osame (J.out.algO H.out) fun b hb=>hS b (by have:=(J.out.2.2.2 b hb).1;omega) (J.out.2.2.2 b hb).2
  obtain⟨B',m',d',e',-,hro⟩:=qv (qf.ord ho);obtain⟨B2,k2,d2,F2,n2,c2,eL,-,-,qF2,qR2⟩:=q42 hP;have e4:=zav (fun l:List Value=>l[3]?) eL;simp at e4;obtain⟨e5,e6,e7⟩:=e4
  exact qrp (x:=(true,a,x.2.2.1,x.2.2.2)) H.out (by
   injection e' with _ e'
   injection e' with e' _
   injection e' with e1 e2 e3
   subst e1;subst e2
   exact hro) (by rw[e5,e6];exact qF2) HQR.out
theorem qny (B:Nat) (ds:List Value) (x:LabM) (s:qq) (w:World) (q i:Option Addr) (z j:Nat) (V:B<=w.heap.size) (A:qh.rd w ds s) (a:x.1=false) (C:s.1≠1):
  Calls Tryz.prog 28 #[.agg #[.bool x.1,.int .i64 x.2.1.1,.slice q x.2.1.2.length z,.slice i x.2.2.1.length j,.int .i64 x.2.2.2],.agg ds.toArray] w (fun e w'=>BelO B (.slice i x.2.2.1.length j) w w'/\e=.returned (.tuple #[.agg #[.bool false,.int .i64 0,.slice none 0 0,.slice none 0 0,.int .i64 0],.bool false])):=by
 obtain⟨D,Y,H,E,Z,I,G,nV,K,F,nS,J,rfl,-,-,-,-,-,-,-,-,-⟩:=q1a A;obtain⟨w0,h,y,b,r,t,l⟩:=q4z w #[.bool x.1,.int .i64 x.2.1.1,.slice q x.2.1.2.length z,.slice i x.2.2.1.length j,.int .i64 x.2.2.2] #[.int .i64 s.1,.string s.2.1,.int .i64 s.2.2.1.1,.slice D Y H,.slice E Z I,.slice G nV K,.slice F nS J,.int .i64 s.2.2.2.2.1,.int .i64 s.2.2.2.2.2] #[.bool false,.int .i64 0,.slice none 0 0,.slice none 0 0,.int .i64 0] 27 59 27;have p:=zaa h;have n:=zaa y;have W:w0.heap.size=w.heap.size+3:=b;have d:=r.cell 0;have f:=t.cell 0;simp at d f;rw[a]at d;obtain⟨X,c⟩:∃k,Hid (s.1=k):=⟨_,zaa rfl⟩;have hq:(X==1)=false:=by rw[<-c.out];simp[C]
 rw[c.out]at f;have HM:Hid (True/\True):=⟨trivial,trivial⟩;clear C a h b A y
 go_enter Tryz.func28,zgd
 go_upto_region 1 with fail;rw[<-p.out];have m:=zaa (q18 l (.bool false) (.int .i64 0) (.slice none 0 0) (.slice none 0 0) (.int .i64 0));have o:=zaa (BelO.of (u:=.slice i x.2.2.1.length j) (q10 (n.out) (g:=w.heap.size+1+1) (by omega) (.bool false) (.int .i64 0) (.slice none 0 0) (.slice none 0 0) (.int .i64 0)) V);obtain⟨L,M,N,O,P,Q,R,S,T,U⟩:=cf5 l;clear l r t;go_wp2_with fail
 (try simp only[Exit.inBlock,Exit.then])
 refine zat (v:=.tuple #[.agg #[.bool false,.int .i64 0,.slice none 0 0,.slice none 0 0,.int .i64 0],.bool false]) ?hr rfl ?_
 case hr=>exact qn rfl _ _ (w.heap.size+1+1) 27 #[.bool false,.int .i64 0,.slice none 0 0,.slice none 0 0,.int .i64 0] (0,0) _ _ rfl m.out zbg rfl (by kernel_rfl) rfl
 exact⟨o.out,rfl⟩
noncomputable def fitO (y:LabM):Option LabM:=if y.2.2.1.length<=12/\y.2.2.2<=9999 then some y else none
noncomputable def spO (x:LabM) (s:qq):Option LabM:=if s.1=1 then ldO x s else if x.1=true then(makM x s).bind fitO else none
theorem qrz {x:LabM} {s:qq} (a:labB x=true) (b:q2z s=true):q6m x s=spO x s:=by
 unfold spO
 by_cases hk:s.1=1
 .rw[zam hk]
  unfold ldO
  by_cases ho:x.1=true
  .rw[zam ho]
   exact q5d fun h=>(h.2.2.1 ho) hk
  .rw[zaj ho]
   exact qc1 ⟨a,b,fun h=>absurd h ho,fun h=>absurd hk h⟩ hk
 .rw[zaj hk]
  by_cases ho:x.1=true
  .rw[zam ho,qc2 ⟨a,b,fun _=>hk,fun _=>ho⟩ hk]
   rfl
  .rw[zaj ho]
   exact q5d fun h=>ho (h.2.2.2 hk)
theorem qqi {x y:LabM} {s:qq} (d:AlgP x.2.1) (k:0<=x.2.2.2/\x.2.2.2<=9999) (h:makM x s=some y):InR y.2.1.1/\InR y.2.2.2:=by
 have i:=d.1;have j:=d.2.1;have c:∀ {z:LabM},(z.2.1.1=x.2.1.1\/z.2.1.1=0)->(z.2.2.2=x.2.2.2\/z.2.2.2=x.2.2.2+1)->InR z.2.1.1/\InR z.2.2.2:=fun a b=>⟨⟨by omega,by omega⟩,⟨by omega,by omega⟩⟩
 unfold makM at h
 by_cases k2:s.1=2
 .rw[zam k2]at h
  injection h with h
  subst h
  split
  .exact c (.inl rfl) (.inl rfl)
  .exact c (.inl rfl) (.inr rfl)
 rw[zaj k2]at h
 by_cases k3:s.1=3\/s.1=4
 .rw[zam k3]at h
  obtain⟨f,-,rfl⟩:=Option.map_eq_some_iff.1 h;obtain⟨-,e,g⟩:=qk4 x f (.bool true);exact c (.inl (by rw[e])) (.inl g)
 rw[zaj k3]at h
 by_cases k5:s.1=5
 .rw[zam k5]at h
  split at h
  .injection h with h
   subst h;exact c (.inl rfl) (.inl rfl)
  .cases h
 rw[zaj k5]at h
 by_cases k6:s.1=6
 .rw[zam k6]at h
  split at h
  .injection h with h
   subst h;exact c (.inl rfl) (.inl rfl)
  .cases h
 rw[zaj k6]at h;injection h with h
 subst h;exact c (.inr rfl) (.inl rfl)
theorem LabPW.rdx {lo:Nat} {w:World} {x:LabM} {v u:Value} (h:LabPW lo w x v u) (t:InR x.2.1.1) (o:InR x.2.2.2) {g:Nat} (f:w.heap.size<=g\/∃cg,Blk w g 27 cg) {r:World} (p:∀b,lo<=b->b<w.heap.size->b≠g->r.heap[b]?=w.heap[b]?):
  q19.rd r [.bool x.1,.int .i64 x.2.1.1,v,u,.int .i64 x.2.2.2] x:=by
 obtain⟨s,bls,j,i,A,n,c,d,rfl,k,l,m,z⟩:=h;have y:q31.own w [.bool x.1,.int .i64 x.2.1.1,v,.slice A n d,.int .i64 x.2.2.2] x ([]++((obl v++bls.flatten)++((obl (.slice A n c)++i.flatten)++ []))):=
  ⟨[_], [_,_,_,_], [],_,rfl,rfl,⟨_,rfl,rfl,rfl⟩,⟨[_,_], [_,_],_,_,rfl,rfl,l.algO t,⟨[_], [_],_, [],rfl,rfl,⟨A,n,c,d,j,i,rfl,k,m.1,rfl⟩,⟨_,rfl,⟨rfl,o.1,o.2⟩,rfl⟩⟩⟩⟩
 refine q31.ord (q31.osame y fun b a=>?_);rw[zch,zc3]at a
 rcases zau.1 a with a|a
 .have q:=l.2.2.2 b a
  refine p b q.1 q.2 fun e=>?_
  subst e
  rcases f with f|⟨cg,f⟩
  .omega
  .exact l.noB f (by decide) (by decide) a
 .have q:=m.2.2.2 b a
  refine p b q.1 q.2 fun e=>?_
  subst e
  rcases f with f|⟨cg,f⟩
  .omega
  .exact PGf.noB m f (by decide) (by decide) a
def SmE (B:Nat) (w:World) (x:LabM) (s:qq) (e:Ending) (w':World):Prop:=
 Below B w w'/\(∀g cg,Blk w g 27 cg->Blk w' g 27 cg)/\∃(b0:Bool) (z:Int) (A:Option Addr) (n c:Nat) (F:Option Addr) (m d:Nat) (r:Int),e=.returned (.tuple #[.agg #[.bool b0,.int .i64 z,.slice A n c,.slice F m d,.int .i64 r],.bool (spO x s).isSome])/\
  ∀y,spO x s=some y->∀w3 g,(w'.heap.size<=g\/∃cg,Blk w g 27 cg)->(∀b,B<=b->b<w'.heap.size->b≠g->w3.heap[b]?=w'.heap[b]?)->q19.rd w3 [.bool b0,.int .i64 z,.slice A n c,.slice F m d,.int .i64 r] y
theorem qho {B:Nat} {A:Option Addr} {n c k:Nat} {xs:List Value} {w w':World} (d:w.ownsRow B 57 4 (.slice A n c) k xs) (h:BelO B (.slice A n c) w w') {g:Nat} {b:Array Value} (a:Blk w g 27 b):Blk w' g 27 b:=
 (h.2 g a.lt fun e=>q1s d a (by decide) (q1e.1 e)).trans a
theorem qs9 {B:Nat} {w w':World} {x:LabM} {s:qq} {o:Option Addr} {p:Nat} {v:Value} {e:Ending} (G:LabD B w x v (.slice o x.2.2.1.length p)) (N:AlgP x.2.1) (M:0<=x.2.2.2/\x.2.2.2<=9999) (L:x.1=true) (K:s.1≠1) (h:LmE B (.slice o x.2.2.1.length p) w x s e w'):SmE B w x s e w':=by
 obtain⟨E,bls,F,D,H,k,I⟩:=G;obtain⟨l,J⟩:=h;have c:∀g d,Blk w g 27 d->Blk w' g 27 d:=fun g d i=>qho k.2.1 l i
 have b:spO x s=(makM x s).bind fitO:=by unfold spO;rw[zaj K,zam L]
 rcases J with⟨q,rfl⟩|⟨y,R,Q,m,rfl,f⟩
 .refine⟨l.1,c,false,0,none,0,0,none,0,0,0,?_,fun y r=>?_⟩
  .rw[b,q];rfl
  .rw[b,q]at r;cases r
 .obtain⟨z,C,u,A,rfl,rfl,-⟩:=f.w.slices
  obtain⟨O,P⟩:=qqi N M m;refine⟨l.1,c,y.1,y.2.1.1,z,y.2.1.2.length,C,u,y.2.2.1.length,A,y.2.2.2,?_,fun t j S g i n=>?_⟩
  .rw[b,m]
   have:((some y).bind fitO).isSome=(decide ((y.2.2.1.length:Int)<=12) &&decide (y.2.2.2<=9999)):=by
    show(fitO y).isSome=_;unfold fitO
    by_cases a:y.2.2.1.length<=12/\y.2.2.2<=9999
    .rw[zam a,zbh (by omega:(y.2.2.1.length:Int)<=12),zbh a.2];rfl
    .rw[zaj a]
     by_cases h12:y.2.2.1.length<=12
     .rw[zbi (fun h=>a ⟨h12,h⟩),zd9];rfl
     .rw[zbi (by omega:¬(y.2.2.1.length:Int)<=12)];rfl
   rw[this]
  .have e:y=t:=by
    rw[b,m]at j;have a:fitO y=some t:=j;unfold fitO at a
    split at a
    .injection a
    .cases a
   subst e;exact f.w.rdx O P (i.imp id fun⟨d,i⟩=>⟨d,c g d i⟩) n
theorem qro (B:Nat) (ds:List Value) (x:LabM) (s:qq) (R w:World) (v u:Value) (p:B<=w.heap.size) (o:LabD B w x v u) (P:Below R.heap.size R w) (W:R.heap.size<=B) (h':qh.rd R ds s) (k:labB x=true) (ac:q2z s=true) (Y:q19.cnt x<=1048576) (hcs:qh.cnt s<=1048576) (Z:s.2.1.size<=1048576):
  Calls Tryz.prog 28 #[.agg #[.bool x.1,.int .i64 x.2.1.1,v,u,.int .i64 x.2.2.2],.agg ds.toArray] w (SmE B w x s):=by
 obtain⟨aa,ab,l,z⟩:=q85 k;obtain⟨L,h5,hk1,hk7⟩:=qml ac;have f:=qh.stab h' P.block;have X:qj.cnt s.2.2.1<=1048576:=by
  have e:qh.cnt s=0+(Sh.str.cnt s.2.1+(qj.cnt s.2.2.1+(s.2.2.2.1.length+(0+0)))):=rfl;omega
 have i1:InR x.2.1.1:=by
  cases ho:x.1 with
  |true=>have:=(z ho).1;have:=(z ho).2.1;exact⟨by omega,by omega⟩
  |false=>rw[(qnx k ho).1];exact⟨by decide,by decide⟩
 have i2:InR x.2.2.2:=⟨by omega,by omega⟩;obtain⟨G,H,C,D,rfl,rfl,-⟩:=o.w.slices
 by_cases hk:s.1=1
 .have t:∀ {wz:World},LabD B wz x (.slice G x.2.1.2.length H) (.slice C x.2.2.1.length D)->q19.rd wz [.bool x.1,.int .i64 x.2.1.1,.slice G x.2.1.2.length H,.slice C x.2.2.1.length D,.int .i64 x.2.2.2] x:=fun h=>h.w.rdx i1 i2 (g:=_) (.inl (zad _)) fun b _ _ _=>rfl
  refine(qf8 _ ds x s w (t o) f hk Z).mono ?_;rintro e w' ⟨cs,rfl,N,i⟩;have J:=o.next i;obtain⟨Bo,kk,d,F,n,c,M,-,-,-,-⟩:=q42 (N w' (t J) fun b _ _=>rfl);subst M;have m:spO x s=ldO x s:=by unfold spO;rw[zam hk]
  refine⟨i.mono p,fun g S j=>j.next i,(ldR x s).1,(ldR x s).2.1.1,Bo,kk,d,F,n,c,(ldR x s).2.2.2,by rw[m];rfl,fun y Q w3 g j O=>?_⟩;rw[m]at Q;have ad:=(qle Q).1;have r:=N w3 (J.w.rdx i1 i2 (j.imp id fun⟨S,j⟩=>⟨S,j.next i⟩) O) fun b h1 h2=>O b (by omega) h2 fun e=>by
   subst e
   rcases j with j|⟨S,j⟩
   .omega
   .have:=j.lt;omega
  rw[ad]at r⊢;exact r
 .cases ho:x.1 with
  | false =>
    have h := qny B ds x s w G C H D p f ho hk;rw [ho] at h;refine h.mono ?_;rintro e w' ⟨i, rfl⟩;have m : spO x s = none := by unfold spO; rw [zaj hk, zaj (by rw [ho]; decide)]
    obtain ⟨css, bls, dss, cls, hPO, V, hap⟩ := o;exact ⟨i.1, fun g S j => qho V.2.1 i j, false, 0, none, 0, 0, none, 0, 0, 0, by rw [m]; rfl, fun y Q => by rw [m] at Q; cases Q⟩
  | true =>
    have E := z ho;have A : 0 <= x.2.2.2 /\ x.2.2.2 <= 9999 := ⟨aa, ab⟩;have I : Calls Tryz.prog 28 #[.agg #[.bool x.1, .int .i64 x.2.1.1, .slice G x.2.1.2.length H, .slice C x.2.2.1.length D, .int .i64 x.2.2.2], .agg ds.toArray] w (LmE B (.slice C x.2.2.1.length D) w x s) := by
      rcases (by omega : s.1 = 2 \/ s.1 = 3 \/ s.1 = 4 \/ s.1 = 5 \/ s.1 = 6 \/ s.1 = 7) with q | q | q | q | q | q
      . exact qnz B ds x s w _ _ p o f ho E l A X q
      . obtain ⟨T, U⟩ := L (.inl q)
        obtain ⟨a, K⟩ := zan T;obtain ⟨b, i⟩ := zan U;exact qef B ds x s w _ _ p o f ho E l A (q6y k) a b K i (.inl q)
      . obtain ⟨T, U⟩ := L (.inr q)
        obtain ⟨a, K⟩ := zan T;obtain ⟨b, i⟩ := zan U;exact qef B ds x s w _ _ p o f ho E l A (q6y k) a b K i (.inr q)
      . obtain ⟨a, K⟩ := zan (h5 q)
        exact qo0 B ds x s w _ _ p o f ho E l A q a K
      . exact qo1 B ds x s w _ _ p o R P W h' ho E l A (q6y k) (qci Y) q
      . exact qo2 B ds x s w G C _ H _ D p f ho A q
    rw [ho] at I;exact I.mono fun e w' h => qs9 o E A ho hk h
theorem qp4 {w w':World} (a:Below w.heap.size w w'):RdA3 q19 w zLab 0 false (.returned (.tuple #[.agg #[.bool false,.int .i64 0,.slice none 0 0,.slice none 0 0,.int .i64 0],.int .i64 0,.bool false])) w':=⟨_,rfl,qm6 w',a⟩
theorem qjx (cs:List Value) (v:Value) (x:LabM) (ss:List qq) (w:World) (h:q19.rd w cs x) (h':(Sh.rows qh 59).rd w [v] ss) (hn:q19.cnt x<=1048576) (hn':(Sh.rows qh 59).cnt ss<=1048576):
  Calls Tryz.prog 23 #[.agg cs.toArray,v] w (RdA3 q19 w (ruM x ss) (ruN x ss) (ruB x ss)):=by
 have hrd:=h;obtain⟨Bo,k,d,F,n,c,rfl,-,-,-,-⟩:=q42 h;obtain⟨A9,m9,c9,e9,hR⟩:=h';injection e9 with e9 _
 subst e9;have hlen:=hR.len;have hm9:m9<=1048576:=by
  have h2:(Sh.rows qh 59).cnt ss=ss.length+cntS qh.cnt ss:=rfl;omega
 obtain⟨w0,hw0,T0,hsz0,BP,D⟩:=q1q w #[.bool x.1,.int .i64 x.2.1.1,.slice Bo k d,.slice F n c,.int .i64 x.2.2.2] #[.bool false,.int .i64 0,.slice none 0 0,.slice none 0 0,.int .i64 0] 27 27;have HW0:=zaa hw0;have hs0:w.heap.size+1<w0.heap.size:=by omega
 have HT0:=zaa T0;have HLEN:=zaa hlen;have HNN:=zaa hn';have HIL:=zaa (qg7 _ x w0 (q19.stab hrd T0.block));have HCL:Hid (∀wz,Below w0.heap.size w0 wz->Calls Tryz.prog 36 #[.agg #[.bool x.1,.int .i64 x.2.1.1,.slice Bo k d,.slice F n c,.int .i64 x.2.2.2]] wz (qpx wz x)):=fun wz hz=>qbp _ x wz (q19.stab (q19.stab hrd T0.block) hz.block) hn
 have HIN:Hid (InR x.2.1.1/\InR x.2.2.2):=by
  obtain⟨_,_,_,_,_,_,-,q1,-,-,R⟩:=q42 hrd;exact⟨q1,R⟩
 obtain⟨cP0,cP1,cP2,cP3,cP4⟩:=cl5 BP;obtain⟨lb,HLB⟩:∃b,Hid (labB x=b):=⟨_,zaa rfl⟩;rw[HLB.out]at HIL;obtain⟨rb,HRB⟩:∃b,Hid (ruB x ss=b):=⟨_,zaa rfl⟩;have HRV:Hid (rb=(lb &&decide (m9<=30))):=by show _=_;rw[<-HRB.out,<-HLB.out,<-HLEN.out];rfl
 have HRR:=zaa (hR.next (S:=qh) T0);clear hw0 hsz0 h hrd T0 hlen hn' hR hn
 go_enter Tryz.func23,Tryz.ntmps23
 go_upto_region 1 with fail;rw[<-HW0.out];go_wp2_with fail;refine HIL.out.mono ?_;rintro e w1 ⟨rfl,hb1⟩;have T1:=q9 HT0.out hb1 rfl;replace D:=D.next hb1;replace BP:=BP.next hb1;clear cP0 cP1 cP2 cP3 cP4;obtain⟨cP0,cP1,cP2,cP3,cP4⟩:=cl5 BP
 rcases lb with _|_
 .obtain rfl:rb=false:=HRV.out
  have HE:=zaa (qol HRB.out);obtain⟨cZ0,cZ1,cZ2,cZ3,cZ4,fcZ0,fcZ1,fcZ2,fcZ3,fcZ4⟩:=cf5 D;have HBX:=zaa (q18 D (.bool false) (.int .i64 0) (.slice none 0 0) (.slice none 0 0) (.int .i64 0));have HTX:=zaa (q10 (T1) (g:=w.heap.size+1) (by omega) (.bool false) (.int .i64 0) (.slice none 0 0) (.slice none 0 0) (.int .i64 0));clear D T1 BP;go_wp2_with fail
  (try simp only[Exit.inBlock,Exit.then])
  refine zat (v:=.tuple #[.agg #[.bool false,.int .i64 0,.slice none 0 0,.slice none 0 0,.int .i64 0],.int .i64 0,.bool false]) ?hr rfl ?_
  case hr=>exact q34 rfl _ _ (w.heap.size+1) 27 #[.bool false,.int .i64 0,.slice none 0 0,.slice none 0 0,.int .i64 0] (0,0) _ _ _ rfl rfl rfl HBX.out zbg rfl (by kernel_rfl)
  rw[HRB.out,HE.out.1,HE.out.2];exact qp4 HTX.out
 by_cases h30:30<m9
 .obtain rfl:rb=false:=by rw[HRV.out,zbi (by omega)];rfl
  have HE:=zaa (qol HRB.out);have h31:(m9:Int)>30:=by omega
  obtain⟨cZ0,cZ1,cZ2,cZ3,cZ4,fcZ0,fcZ1,fcZ2,fcZ3,fcZ4⟩:=cf5 D;have HBX:=zaa (q18 D (.bool false) (.int .i64 0) (.slice none 0 0) (.slice none 0 0) (.int .i64 0));have HTX:=zaa (q10 (T1) (g:=w.heap.size+1) (by omega) (.bool false) (.int .i64 0) (.slice none 0 0) (.slice none 0 0) (.int .i64 0));clear D T1 BP;go_wp2_with fail
  (try simp only[Exit.inBlock,Exit.then])
  refine zat (v:=.tuple #[.agg #[.bool false,.int .i64 0,.slice none 0 0,.slice none 0 0,.int .i64 0],.int .i64 0,.bool false]) ?hr rfl ?_
  case hr=>exact q34 rfl _ _ (w.heap.size+1) 27 #[.bool false,.int .i64 0,.slice none 0 0,.slice none 0 0,.int .i64 0] (0,0) _ _ _ rfl rfl rfl HBX.out zbg rfl (by kernel_rfl)
  rw[HRB.out,HE.out.1,HE.out.2];exact qp4 HTX.out
 have h31:¬(m9:Int)>30:=by omega
 obtain rfl:rb=true:=by rw[HRV.out,zbh (by omega)];rfl
 have HE:=zaa (qpn HRB.out);have HT1:=zaa T1;have HB1:=zaa hb1;clear T1 h30 hb1;go_wp2_with fail;refine(HCL.out w1 HB1.out).mono ?_;rintro e wl ⟨v1,u1,rfl,V,hbc⟩;obtain⟨T,L,U,M,rfl,rfl,-⟩:=V.w.slices;obtain⟨X,HN1⟩:∃q,Hid (x.2.1.2.length=q):=⟨_,zaa rfl⟩;obtain⟨Y,HN2⟩:∃q,Hid (x.2.2.1.length=q):=⟨_,zaa rfl⟩;have HLD:=zaa V;rw[HN1.out,HN2.out]at HLD⊢;replace D:=D.next hbc;have hzc:=hbc.size;have hz01:=HB1.out.size;obtain⟨G,HLO⟩:∃q,Hid (wl.heap.size=q):=⟨_,zaa rfl⟩;have hlo:w0.heap.size<=G:=by rw[<-HLO.out];omega
 have HTc:=zaa (q9 HB1.out hbc rfl);have HTw:=zaa (q9 HT1.out hbc rfl);obtain⟨w2,HW2⟩:∃q,Hid (q=wl.alloc (.cells #[.bool x.1,.int .i64 x.2.1.1,.slice T X L,.slice U Y M,.int .i64 x.2.2.2] 27)):=⟨_,zaa rfl⟩;have hb2:Below wl.heap.size wl w2:=by rw[HW2.out];exact qm _ _
 have E:Blk w2 G 27 #[.bool x.1,.int .i64 x.2.1.1,.slice T X L,.slice U Y M,.int .i64 x.2.2.2]:=by rw[HW2.out,<-HLO.out];exact Blk.new _ _ _
 replace D:=D.next hb2;have hgz:G≠w.heap.size+1:=by omega
 have Tl:Below G wl w2:=by rw[<-HLO.out];exact hb2
 have hzw:G<w2.heap.size:=E.lt;have HR0:Hid (runL x (ss.take 0)=(x,0)):=by show _=_;rw[zcw];rfl
 have HRD0:Hid (∀N,(∀b,w0.heap.size<=b->b<w2.heap.size->b≠G->N.heap[b]?=w2.heap[b]?)->q19.rd N [.bool x.1,.int .i64 x.2.1.1,.slice T X L,.slice U Y M,.int .i64 x.2.2.2] x):=fun N hw3=>
  HLD.out.w.rdx HIN.out.1 HIN.out.2 (g:=G) (.inl (by rw[HLO.out];exact zad _)) fun b h1 h2 H=>(hw3 b (by omega) (by have:=hb2.size;omega) H).trans (hb2.block b h2)
 clear V hbc hb2 HCL BP cP0 cP1 cP2 cP3 cP4;go_upto_region 4 with fail;rw[<-HW2.out,HLO.out];go_wp2_with fail
 go_loopw [8,9] (fun mq i wr=>∃(j mk:Nat) (y:LabM) (T:Option Addr) (X L:Nat) (U:Option Addr) (Y M:Nat),j<=m9/\i=.int .i64 j/\mq=.int .i64 mk/\Hid (runL x (ss.take j)=(y,mk))/\Blk wr G 27 #[.bool y.1,.int .i64 y.2.1.1,.slice T X L,.slice U Y M,.int .i64 y.2.2.2]/\Hid (∀N,(∀b,w0.heap.size<=b->b<wr.heap.size->b≠G->N.heap[b]?=wr.heap[b]?)->q19.rd N [.bool y.1,.int .i64 y.2.1.1,.slice T X L,.slice U Y M,.int .i64 y.2.2.2] y)/\Blk wr (w.heap.size+1) 27 #[.bool false,.int .i64 0,.slice none 0 0,.slice none 0 0,.int .i64 0]/\Below G wl wr/\G<wr.heap.size) (fun _ i _=>m9 - (intOf i).toNat)
 case atStart=>exact⟨0,0,x,T,X,L,U,Y,M,zah _,rfl,rfl,HR0,E,HRD0,D,Tl,hzw⟩
 case round=>
  clear E D Tl hzw;obtain⟨j,mk,y,T,X,L,U,Y,M,hj,rfl,rfl,HRU,E,HRY,D,Tl,hzw⟩:=hrel;have Tc:Below wl.heap.size wl wr:=by rw[HLO.out];exact Tl
  have HVY:Hid (labB y=true/\mk<=j):=by
   have:=qpo HLB.out ss j;rw[HRU.out]at this;exact this
  by_cases hlt:j<m9
  .have hj0:(0:Int)<=(j:Int):=by omega
   have hj1:(j:Int)<(m9:Int):=by omega
   obtain⟨P,Q,vs,s,rfl,-,hc,hr,-,hs⟩:=((HRR.out.next (S:=qh) HTc.out).next (S:=qh) Tc).at hlt;obtain⟨AL,nL,cL,AR,nR,cR,AV,nV,cV,AS,nS,cS,rfl,-,-,-,-,-,-,-,-,-⟩:=q1a hr;have HCN:=zaa (qfc hs HNN.out);have HRS:=zaa (qid (x:=x) hs);have l:wr.cell? ⟨P,Q+j*9,none⟩=some (.int .i64 s.1):=hc 0 _ rfl;have m:wr.cell? ⟨P,Q+j*9+1,none⟩=some (.string s.2.1):=hc 1 _ rfl;have o:wr.cell? ⟨P,Q+j*9+2,none⟩=some (.int .i64 s.2.2.1.1):=hc 2 _ rfl;have p:wr.cell? ⟨P,Q+j*9+3,none⟩=some (.slice AL nL cL):=hc 3 _ rfl;have r:wr.cell? ⟨P,Q+j*9+4,none⟩=some (.slice AR nR cR):=hc 4 _ rfl;have t:wr.cell? ⟨P,Q+j*9+5,none⟩=some (.slice AV nV cV):=hc 5 _ rfl;have u:wr.cell? ⟨P,Q+j*9+6,none⟩=some (.slice AS nS cS):=hc 6 _ rfl;have A:wr.cell? ⟨P,Q+j*9+7,none⟩=some (.int .i64 s.2.2.2.2.1):=hc 7 _ rfl;have B:wr.cell? ⟨P,Q+j*9+8,none⟩=some (.int .i64 s.2.2.2.2.2):=hc 8 _ rfl;obtain⟨wq,HWQ⟩:∃q:World,Hid (q=wr):=⟨_,zaa rfl⟩;rw[<-HWQ.out]at l m o p r t u A B E HRY D Tl hzw Tc hr;rw[<-HWQ.out];have HIS:=zaa (qg9 _ s wq hr);obtain⟨sb,HSB⟩:∃b,Hid (q2z s=b):=⟨_,zaa rfl⟩;rw[HSB.out]at HIS;have HSD:=zaa hr;have hmk:mk<=30:=by have:=HVY.out.2;omega
   clear hc hr hs HWQ;go_wp2_with fail;refine HIS.out.mono ?_;rintro e wd ⟨rfl,W⟩;replace E:=E.next W;replace D:=D.next W;have Tl3:Below G wl wd:=Tl.trans (W.mono (by omega));have hz3:G<wd.heap.size:=by have:=W.size;omega
   have hzd:=W.size;have HRY3:Hid (∀N,(∀b,w0.heap.size<=b->b<wd.heap.size->b≠G->N.heap[b]?=wd.heap[b]?)->q19.rd N [.bool y.1,.int .i64 y.2.1.1,.slice T X L,.slice U Y M,.int .i64 y.2.2.2] y):=fun N hw3=>HRY.out N fun b h1 h2 H=>(hw3 b h1 (by omega) H).trans (W.block b h2)
   have zkk:=kk9 W l m o p r t u A B;clear l m o p r t u A B;obtain⟨l,m,o,p,r,t,u,A,B⟩:=zkk;have HSD3:=zaa (qh.stab HSD.out W.block);clear HIS Tl Tc hzw W
   rcases sb with _|_
   .have hso:q6m y s=none:=q5d fun h=>by rw[HSB.out]at h;exact absurd h.2.1 (by decide)
    have HR2:Hid (runL x (ss.take (j+1))=(y,mk)):=by show _=_;rw[HRS.out,HRU.out];unfold runF;rw[hso]
    have C:=zaa (zao E (zao D Tl3));clear hso E D Tl3 l m o p r t u A B;go_wp2_with fail
    go_roundw
    case rel=>exact⟨j+1,mk,y,T,X,L,U,Y,M,by omega,by go_num,rfl,HR2,C.out.1,HRY3.out,C.out.2.1,C.out.2.2,hz3⟩
    case measure=>simp[intOf];try omega
   .have HSP:=zaa (qrz HVY.out.1 HSB.out)
    have HOWN:Hid (∀wz,Below wd.heap.size wd wz->Calls Tryz.prog 36 #[.agg #[.bool y.1,.int .i64 y.2.1.1,.slice T X L,.slice U Y M,.int .i64 y.2.2.2]] wz (qpx wz y)):=fun wz hz=>qbp _ y wz (HRY3.out wz fun b _ h2 _=>hz.block b h2) (q86 HVY.out.1).2
    have hst:=qpr HCN.out;have hlb:=q86 HVY.out.1;have O:Below wd.heap.size wd wd:=zac _ _;go_upto_region 8 with fail
    go_cut [10,11]from 35 to 44 (fun u10 u11 wx=>∃(g6:Nat) (q0:Bool) (q1:Int) (R:Option Addr) (Z q4:Nat) (q5:Option Addr) (q6 q7:Nat) (q8:Int),u10=.pointer (some ⟨g6,0,none⟩)/\u11=.bool (spO y s).isSome/\Blk wx g6 27 #[.bool q0,.int .i64 q1,.slice R Z q4,.slice q5 q6 q7,.int .i64 q8]/\(∀z,spO y s=some z->∀w4,(∀b,wd.heap.size<=b->b<wx.heap.size->w4.heap[b]?=wx.heap[b]?)->q19.rd w4 [.bool q0,.int .i64 q1,.slice R Z q4,.slice q5 q6 q7,.int .i64 q8] z)/\Below wd.heap.size wd wx)
    case first=>
     have f:=zaa (zao E (zao l (zao m (zao o (zao p (zao r (zao t (zao u (zao A B)))))))));clear D Tl3 HRY3;refine zca (S:=fun w'=>Blk w' G 27 #[.bool y.1,.int .i64 y.2.1.1,.slice T X L,.slice U Y M,.int .i64 y.2.2.2]/\w'.cell? ⟨P,Q+j*9,none⟩=some (.int .i64 s.1)/\w'.cell? ⟨P,Q+j*9+1,none⟩=some (.string s.2.1)/\w'.cell? ⟨P,Q+j*9+2,none⟩=some (.int .i64 s.2.2.1.1)/\w'.cell? ⟨P,Q+j*9+3,none⟩=some (.slice AL nL cL)/\w'.cell? ⟨P,Q+j*9+4,none⟩=some (.slice AR nR cR)/\w'.cell? ⟨P,Q+j*9+5,none⟩=some (.slice AV nV cV)/\w'.cell? ⟨P,Q+j*9+6,none⟩=some (.slice AS nS cS)/\w'.cell? ⟨P,Q+j*9+7,none⟩=some (.int .i64 s.2.2.2.2.1)/\w'.cell? ⟨P,Q+j*9+8,none⟩=some (.int .i64 s.2.2.2.2.2)) (by kernel_rfl) ⟨E,l,m,o,p,r,t,u,A,B⟩ (fun hHeld=>?_);obtain⟨wn,J,a⟩:=dr0 wd;rw[<-J.out]at hHeld⊢
     try replace O:=q9 O a rfl
     replace E:=E.next a;have zkk:=kk9 a l m o p r t u A B;clear l m o p r t u A B;obtain⟨l,m,o,p,r,t,u,A,B⟩:=zkk;have zwn:=a.size;clear a J
     repeat' (first
      | ((first
          | (with_reducible refine Tg.mk (i := 1) (fun K hK => ?_)
             go_simp
             go_at_call 36
             refine (HOWN.out _ O).mono ?_;obtain ⟨bO, HbO⟩ : ∃ q, Hid (wn.heap.size = q) := ⟨_, zaa rfl⟩;rintro e wm ⟨v4, u4, rfl, V, a⟩;rw [HbO.out] at V;have zbO : wd.heap.size <= bO := by have := HbO.out; omega
             have ybO : bO <= wm.heap.size := by have := HbO.out; have := a.size; omega
             go_wp2_with fail)
          | (with_reducible refine Tg.mk (i := 10) (fun K hK => ?_)
             go_simp;obtain ⟨wm, I, J, Hg10, a, B10, zg10, yg10⟩ := al2 wn #[.bool false, .int .i64 0, .slice none 0 0, .slice none 0 0, .int .i64 0] 27;rw [<- J.out, <- Hg10.out]
             try have xM := za7 TM.size zg10
             replace zg10 := za7 zwn zg10))
         replace zwn := za7 zwn a.size
         try replace O := q9 O a rfl
         try replace TM := q9 TM a rfl
         try replace V := V.next a
         try replace ybO := za7 ybO a.size
         try replace B10 := B10.next a
         try replace yg10 := zcu yg10 a.size
         replace E := E.next a;have zkk := kk9 a l m o p r t u A B;clear l m o p r t u A B;obtain ⟨l, m, o, p, r, t, u, A, B⟩ := zkk;clear a;clear hHeld;refine hK.out _ _ ⟨E, l, m, o, p, r, t, u, A, B⟩ (fun hHeld => ?_);clear hK K
         (try simp only [Act.put, zA, zB, zC, zD, zE, zF])
         obtain ⟨wn, hwn⟩ : ∃ x : World, x = wm := ⟨_, rfl⟩
         subst hwn)
      | (with_reducible refine Tg.mk (i := 6) (fun K hK => ?_)
         go_simp
         go_at_call 28
         try have BC := B10
         refine (qro bO _ y s wd _ v4 u4 ybO V O zbO HSD3.out HVY.out.1 HSB.out hlb.2 HCN.out hst).mono ?_;rintro e wm ⟨hbm, hkp, q0, q1, R, Z, q4, q5, q6, q7, q8, rfl, hRD⟩;replace zwn := za7 zwn hbm.size;replace O := O.trans (hbm.mono zbO);obtain ⟨wM, HwM⟩ : ∃ q : World, Hid (q = wm) := ⟨_, zaa rfl⟩;rw [<- HwM.out] at hRD;have TM : Below wM.heap.size wM wm := by rw [HwM.out]; exact zac _ _
         try replace B10 := hkp _ _ B10
         try replace yg10 := zcu yg10 hbm.size
         replace E := f.out.1.next O;replace l := qe O f.out.2.1;replace m := qe O f.out.2.2.1;replace o := qe O f.out.2.2.2.1;replace p := qe O f.out.2.2.2.2.1;replace r := qe O f.out.2.2.2.2.2.1;replace t := qe O f.out.2.2.2.2.2.2.1;replace u := qe O f.out.2.2.2.2.2.2.2.1;replace A := qe O f.out.2.2.2.2.2.2.2.2.1;replace B := qe O f.out.2.2.2.2.2.2.2.2.2;clear V hbm;go_wp2_with fail;clear hHeld;refine hK.out _ _ ⟨E, l, m, o, p, r, t, u, A, B⟩ (fun hHeld => ?_);clear hK K
         (try simp only [Act.put, zA, zB, zC, zD, zE, zF])
         obtain ⟨wn, hwn⟩ : ∃ x : World, x = wm := ⟨_, rfl⟩
         subst hwn)
      | (with_reducible refine Tg.mk (i := 11) (fun K hK => ?_)
         obtain ⟨gC0, gC1, gC2, gC3, gC4, fgC0, fgC1, fgC2, fgC3, fgC4⟩ := cf5 B10;go_simp;obtain ⟨wm, J⟩ : ∃ wq, Hid (wq = ((((wn.setCell ⟨I, 0, none⟩ (.bool q0)).setCell ⟨I, 1, none⟩ (.int .i64 q1)).setCell ⟨I, 2, none⟩ (.slice R Z q4)).setCell ⟨I, 3, none⟩ (.slice q5 q6 q7)).setCell ⟨I, 4, none⟩ (.int .i64 q8)) := ⟨_, zaa rfl⟩;rw [<- J.out];have BXf : Blk wm I 27 #[.bool q0, .int .i64 q1, .slice R Z q4, .slice q5 q6 q7, .int .i64 q8] := by rw [J.out]; exact q18 B10 (.bool q0) (.int .i64 q1) (.slice R Z q4) (.slice q5 q6 q7) (.int .i64 q8)
         have Tf : Below wd.heap.size wd wm := by rw [J.out]; exact q10 O zg10 (.bool q0) (.int .i64 q1) (.slice R Z q4) (.slice q5 q6 q7) (.int .i64 q8)
         have hKx : ∀ b, b < wM.heap.size -> b ≠ I -> wm.heap[b]? = wM.heap[b]? := fun b hb H => by rw [J.out, qd8 H]; exact TM.block b hb
         have hzx : wM.heap.size <= wm.heap.size := by rw [J.out]; simp; exact TM.size
         replace E := f.out.1.next Tf;replace l := qe Tf f.out.2.1;replace m := qe Tf f.out.2.2.1;replace o := qe Tf f.out.2.2.2.1;replace p := qe Tf f.out.2.2.2.2.1;replace r := qe Tf f.out.2.2.2.2.2.1;replace t := qe Tf f.out.2.2.2.2.2.2.1;replace u := qe Tf f.out.2.2.2.2.2.2.2.1;replace A := qe Tf f.out.2.2.2.2.2.2.2.2.1;replace B := qe Tf f.out.2.2.2.2.2.2.2.2.2;clear hHeld;refine hK.out _ _ ⟨E, l, m, o, p, r, t, u, A, B⟩ (fun hHeld => ?_);clear hK K
         (try simp only [Act.put, zA, zB, zC, zD, zE, zF])
         obtain ⟨wn, hwn⟩ : ∃ x : World, x = wm := ⟨_, rfl⟩
         subst hwn)
      | (refine ul 0 (by decide +kernel) (.agg #[.bool y.1, .int .i64 y.2.1.1, .slice T X L, .slice U Y M, .int .i64 y.2.2.2]) rfl (.inl ⟨by kernel_rfl, fun wv hSw => by (obtain ⟨hS0, hS1, hS2, hS3, hS4, hS5, hS6, hS7, hS8, hS9⟩ := hSw); have c0 := hS0.cell 0; have L := hS0.cell 1; have M := hS0.cell 2; have c3 := hS0.cell 3; have c4 := hS0.cell 4; simp at c0 L M c3 c4; go_simp⟩) ?_
         (try simp only [Act.put, zA, zB, zC, zD, zE, zF]))
      | (refine pl 2 (by decide +kernel) (.slice (some ⟨P, Q, none⟩) m9 c9) rfl ?_
         (try simp only [Act.put, zA, zB, zC, zD, zE, zF]))
      | (refine pl 3 (by decide +kernel) (.int .i64 (j : Int)) rfl ?_
         (try simp only [Act.put, zA, zB, zC, zD, zE, zF]))
      | (refine pl 4 (by decide +kernel) (.pointer (some ⟨P, Q + j * 9, none⟩)) rfl ?_
         (try simp only [Act.put, zA, zB, zC, zD, zE, zF]))
      | (refine ul 5 (by decide +kernel) (.agg #[.int .i64 s.1, .string s.2.1, .int .i64 s.2.2.1.1, .slice AL nL cL, .slice AR nR cR, .slice AV nV cV, .slice AS nS cS, .int .i64 s.2.2.2.2.1, .int .i64 s.2.2.2.2.2]) rfl (.inl ⟨by kernel_rfl, fun wv hSw => by (obtain ⟨hS0, hS1, hS2, hS3, hS4, hS5, hS6, hS7, hS8, hS9⟩ := hSw); go_simp⟩) ?_
         (try simp only [Act.put, zA, zB, zC, zD, zE, zF]))
      | (refine pl 7 (by decide +kernel) (.tuple #[.agg #[.bool q0, .int .i64 q1, .slice R Z q4, .slice q5 q6 q7, .int .i64 q8], .bool (spO y s).isSome]) rfl ?_
         (try simp only [Act.put, zA, zB, zC, zD, zE, zF]))
      | (refine pl 8 (by decide +kernel) (.agg #[.bool q0, .int .i64 q1, .slice R Z q4, .slice q5 q6 q7, .int .i64 q8]) rfl ?_
         (try simp only [Act.put, zA, zB, zC, zD, zE, zF]))
      | (refine pl 9 (by decide +kernel) (.bool (spO y s).isSome) rfl ?_
         (try simp only [Act.put, zA, zB, zC, zD, zE, zF]))
      | (refine pl 12 (by decide +kernel) (.bool (spO y s).isSome) rfl ?_
         (try simp only [Act.put, zA, zB, zC, zD, zE, zF]))
      |(refine s2 1 10 (by decide+kernel) rfl ?_ rfl ?_)
      |(refine s2 6 10 (by decide+kernel) rfl ?_ rfl ?_)
      |(refine s1 10 (by decide+kernel) rfl ?_)
      |(refine s1 11 (by decide+kernel) rfl ?_)
      |(refine s1 6 (by decide+kernel) rfl ?_)
      |(refine s1 1 (by decide+kernel) rfl ?_)
      | (refine zcf (by decide +kernel) ?_ _
         go_wp2_with fail;go_meet
         first
           | exact ⟨I, q0, q1, R, Z, q4, q5, q6, q7, q8, rfl, rfl, BXf, fun z hz w4 hw4 => hRD z hz w4 I (.inr ⟨_, BC⟩) (fun b h1 h2 H => (hw4 b (by omega) (by omega)).trans (hKx b h2 H)), Tf⟩
           | exact ⟨I, q0, q1, R, Z, q4, q5, q6, q7, q8, rfl, rfl, BXf, fun z hz w4 hw4 => hRD z hz w4 I (.inl xM) (fun b h1 h2 H => (hw4 b (by omega) (by omega)).trans (hKx b h2 H)), Tf⟩))
    case rest=>
     obtain⟨g6,q0,q1,R,Z,q4,q5,q6,q7,q8,rfl,rfl,BX,hRD,hbe⟩:=hcut;obtain⟨w6,HWC⟩:∃wq:World,wq=wc:=⟨_,rfl⟩;subst HWC;replace E:=E.next hbe;replace D:=D.next hbe;have Tl6:Below G wl w6:=Tl3.trans (hbe.mono (by omega));have hz6:G<w6.heap.size:=by have:=hbe.size;omega
     have hze:=hbe.size;have hw0z:w0.heap.size<=wd.heap.size:=by omega
     obtain⟨so,HSO⟩:∃q,Hid (spO y s=q):=⟨_,zaa rfl⟩;rw[HSO.out]at hRD HSP⊢;have HRD:=zaa hRD;clear hRD l m o p r t u A B O HOWN
     rcases so with _|z
     .have HR2:Hid (runL x (ss.take (j+1))=(y,mk)):=by show _=_;rw[HRS.out,HRU.out];unfold runF;rw[HSP.out]
      have HRY6:Hid (∀N,(∀b,w0.heap.size<=b->b<w6.heap.size->b≠G->N.heap[b]?=w6.heap[b]?)->q19.rd N [.bool y.1,.int .i64 y.2.1.1,.slice T X L,.slice U Y M,.int .i64 y.2.2.2] y):=fun N hw3=>HRY3.out N fun b h1 h2 H=>(hw3 b h1 (by omega) H).trans (hbe.block b h2)
      have C:=zaa (zao E (zao D Tl6));clear E D Tl6 BX hbe;go_wp2_with fail
      go_roundw
      case rel=>exact⟨j+1,mk,y,T,X,L,U,Y,M,by omega,by go_num,rfl,HR2,C.out.1,HRY6.out,C.out.2.1,C.out.2.2,hz6⟩
      case measure=>simp[intOf];try omega
     .have HR2:Hid (runL x (ss.take (j+1))=(z,mk+1)):=by show _=_;rw[HRS.out,HRU.out];unfold runF;rw[HSP.out]
      obtain⟨e0,e1,e2⟩:q0=z.1/\q1=z.2.1.1/\q8=z.2.2.2:=by
       obtain⟨_,_,_,_,_,_,e,-,-,-,-⟩:=q42 (HRD.out z rfl w6 fun _ _ _=>rfl);injection e with a0 e
       injection e with a1 e
       injection e with _ e
       injection e with _ e
       injection e with a4 _
       injection a0 with a0
       injection a1 with _ a1
       injection a4 with _ a4
       exact⟨a0,a1,a4⟩
      subst e0 e1 e2;obtain⟨cX0,cX1,cX2,cX3,cX4⟩:=cl5 BX;obtain⟨cN0,cN1,cN2,cN3,cN4,fcN0,fcN1,fcN2,fcN3,fcN4⟩:=cf5 E;have C:=zaa (zao (q18 E (.bool z.1) (.int .i64 z.2.1.1) (.slice R Z q4) (.slice q5 q6 q7) (.int .i64 z.2.2.2)) (zao (qds D (g:=G) (by omega) (.bool z.1) (.int .i64 z.2.1.1) (.slice R Z q4) (.slice q5 q6 q7) (.int .i64 z.2.2.2)) (q10 Tl6 (zad G) (.bool z.1) (.int .i64 z.2.1.1) (.slice R Z q4) (.slice q5 q6 q7) (.int .i64 z.2.2.2))));obtain⟨w7,HW7⟩:∃q,Hid (q=((((w6.setCell ⟨G,0,none⟩ (.bool z.1)).setCell ⟨G,1,none⟩ (.int .i64 z.2.1.1)).setCell ⟨G,2,none⟩ (.slice R Z q4)).setCell ⟨G,3,none⟩ (.slice q5 q6 q7)).setCell ⟨G,4,none⟩ (.int .i64 z.2.2.2)):=⟨_,zaa rfl⟩;have HRZ:Hid (∀N,(∀b,w0.heap.size<=b->b<w7.heap.size->b≠G->N.heap[b]?=w7.heap[b]?)->q19.rd N [.bool z.1,.int .i64 z.2.1.1,.slice R Z q4,.slice q5 q6 q7,.int .i64 z.2.2.2] z):=fun N hw3=>HRD.out z rfl N fun b h1 h2=>(hw3 b (by omega) (by rw[HW7.out];simpa using h2) (by omega)).trans (by rw[HW7.out];exact qd8 (by omega))
      rw[<-HW7.out]at C;have hz7:G<w7.heap.size:=by rw[HW7.out];simpa using hz6
      clear E D Tl6 BX hbe;go_wp2_with fail;rw[<-HW7.out]
      go_roundw
      case rel=>exact⟨j+1,mk+1,z,R,Z,q4,q5,q6,q7,by omega,by go_num,by go_num,HR2,C.out.1,HRZ.out,C.out.2.1,C.out.2.2,hz7⟩
      case measure=>simp[intOf];try omega
  .obtain rfl:j=m9:=by omega
   have hj1:¬(j:Int)<(j:Int):=by omega
   have HF:Hid (runL x ss=(y,mk)):=by
    have:=HRU.out
    rwa [<-HLEN.out,zar (zad _)]at this
   obtain⟨cN0,cN1,cN2,cN3,cN4⟩:=cl5 E;obtain⟨cZ0,cZ1,cZ2,cZ3,cZ4,fcZ0,fcZ1,fcZ2,fcZ3,fcZ4⟩:=cf5 D;have HBX:=zaa (q18 D (.bool y.1) (.int .i64 y.2.1.1) (.slice T X L) (.slice U Y M) (.int .i64 y.2.2.2));have HTX:=zaa (q10 (q9 HTw.out Tc rfl) (g:=w.heap.size+1) (by omega) (.bool y.1) (.int .i64 y.2.1.1) (.slice T X L) (.slice U Y M) (.int .i64 y.2.2.2));clear E D Tl Tc;go_wp2_with fail
   (try simp only[Exit.inBlock,Exit.then])
   refine zat (v:=.tuple #[.agg #[.bool y.1,.int .i64 y.2.1.1,.slice T X L,.slice U Y M,.int .i64 y.2.2.2],.int .i64 mk,.bool true]) ?hr rfl ?_
   case hr=>exact q34 rfl _ _ (w.heap.size+1) 27 #[.bool y.1,.int .i64 y.2.1.1,.slice T X L,.slice U Y M,.int .i64 y.2.2.2] (0,0) _ _ _ rfl rfl rfl HBX.out zbg rfl (by kernel_rfl)
   rw[HRB.out,HE.out.1,HE.out.2,HF.out];exact⟨_,rfl,HRY.out _ fun b h1 h2 H=>qd8 (by omega),HTX.out⟩
theorem qqp (a:Nat) (u:0<a) (x:a<=16777216) (w:World):Calls Tryz.prog 56 #[.int .i64 a] w fun e w'=>∃s,e=.returned (.string s)/\Below w.heap.size w w':=by
 have n:¬((a:Int)<=0):=by omega
 go_enter Tryz.func56,Tryz.ntmps56
 go_wp2
 go_loopw [0,3] (fun v o wr=>∃(k:Nat) (S:ByteArray),v=.int .i64 k/\o=.string S/\k<=a/\S.size+k<=a/\Below w.heap.size w wr) (fun v _ _=>(intOf v).toNat)
 case atStart=>exact⟨a,⟨#[]⟩,rfl,rfl,zad _,by show 0+a<=a;omega,zac _ _⟩
 case round=>
  obtain⟨k,S,rfl,rfl,D,m,f⟩:=hrel
  by_cases hkp:0<k
  .have i:(k:Int)<=16777216:=by omega
   have l:(0:Int)<k:=by omega
   have z:k % 10<10:=zfn _ (by decide);obtain⟨b,p⟩:∃b,Hid (UInt8.ofNat (48+k % 10)=b):=⟨_,rfl⟩;obtain⟨B,c⟩:∃B:ByteArray,Hid ((⟨[b].toArray⟩:ByteArray)=B):=⟨_,rfl⟩;have d:B.size=1:=by rw[<-c.out];rfl
   have r:(convert 130 9 (.slice (some ⟨wr.heap.size,0,none⟩) 1 1)).run Tryz.prog (wr.alloc (.cells #[.int .u8 (48+(k:Int) % 10)] 5))=.ok (.string B) (wr.alloc (.cells #[.int .u8 (48+(k:Int) % 10)] 5)):=by
    have A:48+(k:Int) % 10=(b.toNat:Int):=by rw[<-p.out,UInt8.toNat_ofNat'];omega
    rw[A,<-c.out]
    exact run_convert_bytes_back (P:=Tryz.prog) _ 130 9 5 ⟨wr.heap.size,0,none⟩ 1 [b] zf7 zft zdu (fun j t=>by
     have:j=0:=by simpa using t
     subst this
     simp[Addr.add])
   have C:∀w,(Op.stringOp .add B S).run Tryz.prog w=.ok (.string (B++S)) w:=fun w=>run_string_add_sum w B S (by omega)
   have h:(B++S).size=S.size+1:=by rw[ByteArray.size_append,d];omega
   have g:=q9 f (qm wr (.cells #[.int .u8 (48+(k:Int) % 10)] 5)) rfl;clear d;go_wp2_with fail
   go_roundw
   case rel=>exact⟨k / 10,B++S,by go_num,rfl,by omega,by rw[h];omega,g⟩
   case measure=>simp[intOf];omega
  .obtain rfl:k=0:=by omega
   have C:∀w,(Op.stringOp .add ⟨#[109]⟩ S).run Tryz.prog w=.ok (.string (⟨#[109]⟩++S)) w:=fun w=>run_string_add_sum w _ S (by show 1+_<=_;omega)
   obtain⟨M,q⟩:∃M:ByteArray,Hid (⟨#[109]⟩=M):=⟨_,rfl⟩;have y:¬(0:Int)<((0:Nat):Int):=by omega
   go_wp2_with fail;go_ret
   first|exact⟨_,rfl,f⟩|exact⟨⟨_,rfl⟩,f⟩
theorem qkd {α:Type} (f:α->Nat) (a b:List α):cntS f (a++b)=cntS f a+cntS f b:=by simp[cntS]
def q1u (x:qq):Nat:=5+x.2.2.1.2.1.1.length+x.2.2.1.2.1.2.length+x.2.2.1.2.2.length+x.2.2.2.1.length
theorem q9g {xs:List qq} (h:(Sh.rows qh 59).cnt xs<=1048576):cntS q1u xs<=8388608:=by
 have b:xs.length+cntS qh.cnt xs<=1048576:=h;have a:∀l:List qq,cntS q1u l<=5*l.length+cntS qh.cnt l:=fun l=>by
  induction l with
  |nil=>exact zad _
  | cons y l ih =>
    rw [q1h, q1h, za0];have c : qh.cnt y = 0 + (Sh.str.cnt y.2.1 + ((0 + ((y.2.2.1.2.1.1.length + y.2.2.1.2.1.2.length) + y.2.2.1.2.2.length)) + (y.2.2.2.1.length + (0 + 0)))) := rfl;have d : q1u y = 5 + y.2.2.1.2.1.1.length + y.2.2.1.2.1.2.length + y.2.2.1.2.2.length + y.2.2.2.1.length := rfl;omega
 have:=a xs;omega
theorem q9f (v:Value) (xs:List qq) (bl:List Nat) (S:Int) (w:World) (h:(Sh.rows qh 59).own w [v] xs bl) (hnd:bl.Nodup) (h0:1<=S) (h1:S+cntS q1u xs<=16000000):
  Calls Tryz.prog 27 #[v,.int .i64 S] w fun e w'=>e=.returned (.int .i64 (S+cntS q1u xs))/\True/\ChgB bl w w':=by
 obtain⟨v',B,bls,e,r,rfl⟩:=h;injection e with e _
 subst e;obtain⟨A,c,rfl⟩:=qu r.row;have hnl:=q5b r.row;unfold maxLen at hnl;have Z:=zaa hnd;have HL:=zaa (zao r.l1 r.l2);have d:=zaa r.all;clear hnd
 go_enter Tryz.func27,Tryz.ntmps27
 go_wp2
 go_loopw [1,5] (fun q i wr=>∃(j:Nat) (k:Int) (I:List Value),j<=xs.length/\i=.int .i64 j/\q=.int .i64 k/\Hid (k=S+cntS q1u (xs.take j))/\wr.ownsRow 0 59 9 (.slice A xs.length c) xs.length I/\Hid (∀p,j*9<=p->I[p]?=B.flatten[p]?)/\Hid (∀i c x b,j<=i->B[i]?=some c->xs[i]?=some x->bls[i]?=some b->qh.own wr c x b)/\ChgB (obl (.slice A xs.length c)++bls.flatten) w wr) (fun _ i _=>xs.length - (intOf i).toNat)
 case atStart=>exact⟨0,S,B.flatten,zah _,rfl,rfl,(by show _=_;rw[zcw];show S=S+((0:Nat):Int);omega),r.row,(fun p _=>rfl),(fun i c x b _=>r.el i c x b),ChgB.refl _ _⟩
 case round=>
  clear r;obtain⟨j,k,I,hj,rfl,rfl,HK,N,m,HEL,CH⟩:=hrel
  by_cases hlt:j<xs.length
  .have Y:xs[j]?=some xs[j]:=zae hlt
   generalize xs[j]=x at Y
   have hcl:j<B.length:=by rw[HL.out.1];exact hlt
   have hbl:j<bls.length:=by rw[HL.out.2];exact hlt
   have f:B[j]?=some B[j]:=zae hcl;have F:bls[j]?=some bls[j]:=zae hbl
   generalize B[j]=cj at f
   generalize bls[j]=bk at F
   have ho:=HEL.out j cj x bk (zad _) f Y F;have HK2:Hid (k+q1u x=S+cntS q1u (xs.take (j+1))):=by
    show _=_
    rw[q3a Y,HK.out];simp[cntS];omega
   have hkb:S<=k/\k+q1u x<=16000000:=by
    have e1:=HK.out;have e2:=HK2.out;have e3:cntS q1u (xs.take (j+1))<=cntS q1u xs:=by
     have h2:cntS q1u (xs.take (j+1)++xs.drop (j+1))=cntS q1u (xs.take (j+1))+cntS q1u (xs.drop (j+1)):=qkd _ _ _;rw[zcv]at h2;omega
    omega
   obtain⟨hk0,hk1⟩:=hkb;have hmc:q1u x=5+x.2.2.1.2.1.1.length+x.2.2.1.2.1.2.length+x.2.2.1.2.2.length+x.2.2.2.1.length:=rfl;obtain⟨g,V,hv⟩:∃g V,Value.slice A xs.length c=.slice (some ⟨g,0,none⟩) xs.length V:=by
    rcases N.2 with⟨_,h0⟩|⟨g,V,cur,hv,_⟩
    .omega
    .exact⟨g,V,hv⟩
   injection hv with hA hn2 hc2
   subst hA;clear hn2 hc2;obtain⟨cK,cX,bK,bX,rfl,rfl,OK,⟨cT,cY,bT,bY,rfl,rfl,OT,⟨cF,cZ,bF,bZ,rfl,rfl,⟨cF0,cG,bF0,bG,rfl,rfl,OF0,⟨cE,cS,bE,K,rfl,rfl,⟨cL,cR,U,O,rfl,rfl,M,E⟩,y⟩⟩,⟨cN,cU,J,bU,rfl,rfl,o,⟨cA,cB,bA,bB,rfl,rfl,OA,OB⟩⟩⟩⟩⟩:=ho;obtain⟨_,rfl,⟨rfl,-,-⟩,rfl⟩:=OK;obtain⟨_,rfl,⟨rfl,-⟩,rfl⟩:=OT;obtain⟨_,rfl,⟨rfl,-,-⟩,rfl⟩:=OF0;obtain⟨_,rfl,⟨rfl,-,-⟩,rfl⟩:=OA;obtain⟨_,rfl,⟨rfl,-,-⟩,rfl⟩:=OB;obtain⟨_,rfl,BL,mL,dL,rfl,-⟩:=(Sh.il 3).ord M;obtain⟨_,rfl,BR,mR,dR,rfl,-⟩:=(Sh.il 3).ord E;obtain⟨_,rfl,BS,mS,dS,rfl,-⟩:=(Sh.il 3).ord y;obtain⟨_,rfl,BN,mN,dN,rfl,-⟩:=(Sh.il 3).ord o;have R:=qap Z.out (g:=g) rfl;have P:∀b∈U++(O++(K++J)),b∈bls.flatten:=fun b a=>zbm.2 ⟨_,zaf F,by simpa using a⟩
   have ac:(U++(O++(K++J))).Nodup:=by simpa using qqr Z.out F
   have gL:g∉U:=fun l=>R (P g (by simp[l]))
   have gR:g∉O:=fun l=>R (P g (by simp[l]))
   have gS:g∉K:=fun l=>R (P g (by simp[l]))
   have gN:g∉J:=fun l=>R (P g (by simp[l]))
   have aa:∀z∈U,z∉O++(K++J):=nd_x ac;have dRx:∀z∈O,z∉K++J:=nd_x (nd_r ac);have dSx:∀z∈K,z∉J:=nd_x (nd_r (nd_r ac));have nLR:∀z∈O,z∉U:=fun z D l=>aa z l (by simp[D])
   have nLS:∀z∈K,z∉U:=fun z D l=>aa z l (by simp[D])
   have nLN:∀z∈J,z∉U:=fun z D l=>aa z l (by simp[D])
   have nRS:∀z∈K,z∉O:=fun z D l=>dRx z l (by simp[D])
   have nRN:∀z∈J,z∉O:=fun z D l=>dRx z l (by simp[D])
   have nSN:∀z∈J,z∉K:=fun z D l=>dSx z l D
   have hmb:j*9+9<=xs.length*9:=by omega
   have q0:j*9<xs.length*9:=by omega
   have F0:I[j*9]?=some (.int .i64 x.1):=by rw[m.out _ (by omega)];have:=q1j d.out j 0 (by decide);rw[f]at this;exact this
   have q1:j*9+1<xs.length*9:=by omega
   have F1:I[j*9+1]?=some (.string x.2.1):=by rw[m.out _ (by omega)];have:=q1j d.out j 1 (by decide);rw[f]at this;exact this
   have q2:j*9+2<xs.length*9:=by omega
   have F2:I[j*9+2]?=some (.int .i64 x.2.2.1.1):=by rw[m.out _ (by omega)];have:=q1j d.out j 2 (by decide);rw[f]at this;exact this
   have q3:j*9+3<xs.length*9:=by omega
   have F3:I[j*9+3]?=some (.slice BL mL dL):=by rw[m.out _ (by omega)];have:=q1j d.out j 3 (by decide);rw[f]at this;exact this
   have q4:j*9+4<xs.length*9:=by omega
   have F4:I[j*9+4]?=some (.slice BR mR dR):=by rw[m.out _ (by omega)];have:=q1j d.out j 4 (by decide);rw[f]at this;exact this
   have q5:j*9+5<xs.length*9:=by omega
   have F5:I[j*9+5]?=some (.slice BS mS dS):=by rw[m.out _ (by omega)];have:=q1j d.out j 5 (by decide);rw[f]at this;exact this
   have q6:j*9+6<xs.length*9:=by omega
   have F6:I[j*9+6]?=some (.slice BN mN dN):=by rw[m.out _ (by omega)];have:=q1j d.out j 6 (by decide);rw[f]at this;exact this
   have q7:j*9+7<xs.length*9:=by omega
   have F7:I[j*9+7]?=some (.int .i64 x.2.2.2.2.1):=by rw[m.out _ (by omega)];have:=q1j d.out j 7 (by decide);rw[f]at this;exact this
   have q8:j*9+8<xs.length*9:=by omega
   have F8:I[j*9+8]?=some (.int .i64 x.2.2.2.2.2):=by rw[m.out _ (by omega)];have:=q1j d.out j 8 (by decide);rw[f]at this;exact this
   have C0:ChgB (g::(U++(O++(K++J)))) wr wr:=ChgB.refl _ _;have HMT:∀wz,Calls Tryz.prog 56 #[.int .i64 (k+1)] wz fun e w'=>∃s,e=.returned (.string s)/\Below wz.heap.size wz w':=fun wz=>by
    have:=qqp (k+1).toNat (by omega) (by omega) wz
    rwa [show(((k+1).toNat:Nat):Int)=k+1 from by omega]at this
   have hj0:(0:Int)<=(j:Int):=by omega
   have hj1:(j:Int)<(xs.length:Int):=by omega
   have HBJ:=zaa F;clear Y f F hcl hbl;have cc0:wr.cell? ⟨g,j*9,none⟩=some (.int .i64 x.1):=(N.cellAt _ q0).trans F0;have ff0:wr.frozen? ⟨g,j*9,none⟩=false:=N.frozenAt _;obtain⟨w1,t⟩:∃wb,wb=wr.setCell ⟨g,j*9,none⟩ (.int .i64 k):=⟨_,rfl⟩;have T:=(N.stored (j*9) (.int .i64 k)).1;rw[<-t]at T;replace M:=(Sh.oset' (p:=⟨g,j*9,none⟩) M gL (.int .i64 k));rw[<-t]at M;replace E:=(Sh.oset' (p:=⟨g,j*9,none⟩) E gR (.int .i64 k));rw[<-t]at E;replace y:=(Sh.oset' (p:=⟨g,j*9,none⟩) y gS (.int .i64 k));rw[<-t]at y;replace o:=(Sh.oset' (p:=⟨g,j*9,none⟩) o gN (.int .i64 k));rw[<-t]at o;have C1:=(C0.trans (ChgB.set (p:=⟨g,j*9,none⟩) (zaq ..) (.int .i64 k)));rw[<-t]at C1;replace F1:=(q17 (i:=j*9) (v:=.int .i64 k) F1 (by omega));replace F2:=(q17 (i:=j*9) (v:=.int .i64 k) F2 (by omega));replace F3:=(q17 (i:=j*9) (v:=.int .i64 k) F3 (by omega));replace F4:=(q17 (i:=j*9) (v:=.int .i64 k) F4 (by omega));replace F5:=(q17 (i:=j*9) (v:=.int .i64 k) F5 (by omega));replace F6:=(q17 (i:=j*9) (v:=.int .i64 k) F6 (by omega));replace F7:=(q17 (i:=j*9) (v:=.int .i64 k) F7 (by omega));replace F8:=(q17 (i:=j*9) (v:=.int .i64 k) F8 (by omega));clear F0 q0 N C0;go_wp2_with fail;rw[<-t];clear t cc0 ff0;refine(HMT _).mono ?_;rintro e wt ⟨H,rfl,C⟩;replace T:=qp T C;replace C1:=C1.trans (ChgB.ofBelow C);replace M:=Sh.onext M C;replace E:=Sh.onext E C;replace y:=Sh.onext y C;replace o:=Sh.onext o C;clear C HMT;have cc3:wt.cell? ⟨g,j*9+3,none⟩=some (.slice BL mL dL):=(T.cellAt _ q3).trans F3;have cc1:wt.cell? ⟨g,j*9+1,none⟩=some (.string x.2.1):=(T.cellAt _ q1).trans F1;have ff1:wt.frozen? ⟨g,j*9+1,none⟩=false:=T.frozenAt _;have cc2:wt.cell? ⟨g,j*9+2,none⟩=some (.int .i64 x.2.2.1.1):=(T.cellAt _ q2).trans F2;have ff2:wt.frozen? ⟨g,j*9+2,none⟩=false:=T.frozenAt _;obtain⟨w2,u⟩:∃wb,wb=(wt.setCell ⟨g,j*9+1,none⟩ (.string H)).setCell ⟨g,j*9+2,none⟩ (.int .i64 (k+1+1)):=⟨_,rfl⟩;have n:=((T.stored (j*9+1) (.string H)).1.stored (j*9+2) (.int .i64 (k+1+1))).1;rw[<-u]at n;replace M:=(Sh.oset' (p:=⟨g,j*9+2,none⟩) (Sh.oset' (p:=⟨g,j*9+1,none⟩) M gL (.string H)) gL (.int .i64 (k+1+1)));rw[<-u]at M;replace E:=(Sh.oset' (p:=⟨g,j*9+2,none⟩) (Sh.oset' (p:=⟨g,j*9+1,none⟩) E gR (.string H)) gR (.int .i64 (k+1+1)));rw[<-u]at E;replace y:=(Sh.oset' (p:=⟨g,j*9+2,none⟩) (Sh.oset' (p:=⟨g,j*9+1,none⟩) y gS (.string H)) gS (.int .i64 (k+1+1)));rw[<-u]at y;replace o:=(Sh.oset' (p:=⟨g,j*9+2,none⟩) (Sh.oset' (p:=⟨g,j*9+1,none⟩) o gN (.string H)) gN (.int .i64 (k+1+1)));rw[<-u]at o;have L:=((C1.trans (ChgB.set (p:=⟨g,j*9+1,none⟩) (zaq ..) (.string H))).trans (ChgB.set (p:=⟨g,j*9+2,none⟩) (zaq ..) (.int .i64 (k+1+1))));rw[<-u]at L;replace F3:=(q17 (i:=j*9+2) (v:=.int .i64 (k+1+1)) (q17 (i:=j*9+1) (v:=.string H) F3 (by omega)) (by omega));replace F4:=(q17 (i:=j*9+2) (v:=.int .i64 (k+1+1)) (q17 (i:=j*9+1) (v:=.string H) F4 (by omega)) (by omega));replace F5:=(q17 (i:=j*9+2) (v:=.int .i64 (k+1+1)) (q17 (i:=j*9+1) (v:=.string H) F5 (by omega)) (by omega));replace F6:=(q17 (i:=j*9+2) (v:=.int .i64 (k+1+1)) (q17 (i:=j*9+1) (v:=.string H) F6 (by omega)) (by omega));replace F7:=(q17 (i:=j*9+2) (v:=.int .i64 (k+1+1)) (q17 (i:=j*9+1) (v:=.string H) F7 (by omega)) (by omega));replace F8:=(q17 (i:=j*9+2) (v:=.int .i64 (k+1+1)) (q17 (i:=j*9+1) (v:=.string H) F8 (by omega)) (by omega));clear F1 q1 F2 q2 T C1;go_wp2_with fail;rw[<-u];clear u cc1 ff1 cc2 ff2;clear cc3;refine(q2i _ x.2.2.1.2.1.1 U (k+1+1+1) w2 M (by omega) (by omega)).mono ?_;rintro e w3 ⟨rfl,-,G⟩;replace n:=q4n n G (fun b a=>by injection a with a;subst a;exact gL);replace L:=L.trans (G.mono fun b a=>zap _ (by simp[a]));replace E:=Sh.ochg E G nLR;replace y:=Sh.ochg y G nLS;replace o:=Sh.ochg o G nLN;clear G M;have cc4:w3.cell? ⟨g,j*9+4,none⟩=some (.slice BR mR dR):=(n.cellAt _ q4).trans F4;go_wp2_with fail;clear cc4;refine(q2i _ x.2.2.1.2.1.2 O (k+1+1+1+x.2.2.1.2.1.1.length) w3 E (by omega) (by omega)).mono ?_;rintro e w4 ⟨rfl,-,Q⟩;replace n:=q4n n Q (fun b a=>by injection a with a;subst a;exact gR);replace L:=L.trans (Q.mono fun b a=>zap _ (by simp[a]));replace y:=Sh.ochg y Q nRS;replace o:=Sh.ochg o Q nRN;clear Q E;have cc5:w4.cell? ⟨g,j*9+5,none⟩=some (.slice BS mS dS):=(n.cellAt _ q5).trans F5;go_wp2_with fail;clear cc5;refine(q2i _ x.2.2.1.2.2 K (k+1+1+1+x.2.2.1.2.1.1.length+x.2.2.1.2.1.2.length) w4 y (by omega) (by omega)).mono ?_;rintro e w5 ⟨rfl,-,W⟩;replace n:=q4n n W (fun b a=>by injection a with a;subst a;exact gS);replace L:=L.trans (W.mono fun b a=>zap _ (by simp[a]));replace o:=Sh.ochg o W nSN;clear W y;have cc6:w5.cell? ⟨g,j*9+6,none⟩=some (.slice BN mN dN):=(n.cellAt _ q6).trans F6;go_wp2_with fail;clear cc6;refine(q2i _ x.2.2.2.1 J (k+1+1+1+x.2.2.1.2.1.1.length+x.2.2.1.2.1.2.length+x.2.2.1.2.2.length) w5 o (by omega) (by omega)).mono ?_;rintro e w6 ⟨rfl,-,ab⟩;replace n:=q4n n ab (fun b a=>by injection a with a;subst a;exact gN);replace L:=L.trans (ab.mono fun b a=>zap _ (by simp[a]));clear ab o;have cc7:w6.cell? ⟨g,j*9+7,none⟩=some (.int .i64 x.2.2.2.2.1):=(n.cellAt _ q7).trans F7;have ff7:w6.frozen? ⟨g,j*9+7,none⟩=false:=n.frozenAt _;have cc8:w6.cell? ⟨g,j*9+8,none⟩=some (.int .i64 x.2.2.2.2.2):=(n.cellAt _ q8).trans F8;have ff8:w6.frozen? ⟨g,j*9+8,none⟩=false:=n.frozenAt _;obtain⟨w7,X⟩:∃wb,wb=(w6.setCell ⟨g,j*9+7,none⟩ (.int .i64 (k+1+1+1+x.2.2.1.2.1.1.length+x.2.2.1.2.1.2.length+x.2.2.1.2.2.length+x.2.2.2.1.length))).setCell ⟨g,j*9+8,none⟩ (.int .i64 (k+1+1+1+x.2.2.1.2.1.1.length+x.2.2.1.2.1.2.length+x.2.2.1.2.2.length+x.2.2.2.1.length+1)):=⟨_,rfl⟩;have R7:=((n.stored (j*9+7) (.int .i64 (k+1+1+1+x.2.2.1.2.1.1.length+x.2.2.1.2.1.2.length+x.2.2.1.2.2.length+x.2.2.2.1.length))).1.stored (j*9+8) (.int .i64 (k+1+1+1+x.2.2.1.2.1.1.length+x.2.2.1.2.1.2.length+x.2.2.1.2.2.length+x.2.2.2.1.length+1))).1;rw[<-X]at R7;have C7:=((L.trans (ChgB.set (p:=⟨g,j*9+7,none⟩) (zaq ..) (.int .i64 (k+1+1+1+x.2.2.1.2.1.1.length+x.2.2.1.2.1.2.length+x.2.2.1.2.2.length+x.2.2.2.1.length)))).trans (ChgB.set (p:=⟨g,j*9+8,none⟩) (zaq ..) (.int .i64 (k+1+1+1+x.2.2.1.2.1.1.length+x.2.2.1.2.1.2.length+x.2.2.1.2.2.length+x.2.2.2.1.length+1))));rw[<-X]at C7;clear F7 q7 F8 q8 n L;go_wp2_with fail;rw[<-X];clear X cc7 ff7 cc8 ff8;have HFL2:=zaa (fun p (hp:(j+1)*9<=p)=>m.out p (by omega));have HR:=zaa R7;have HC:=zaa C7;clear R7 C7
   go_roundw
   case rel=>
    have hne:∀i b,j+1<=i->bls[i]?=some b->∀z∈b,z∉g::(U++(O++(K++J))):=fun i b hi a z D l=>by
     rcases zbf.1 l with rfl|l
     .exact R (zbm.2 ⟨_,zaf a,D⟩)
     .have:=qa5 (zbd.1 Z.out).2.1 a HBJ.out D (by simpa using l)
      omega
    exact⟨j+1,_,_,by omega,by go_num,rfl,(by show _=_;rw[<-HK2.out,hmc];push_cast;omega),HR.out,(fun p hp=>by rw[zdr (show j*9+8≠p by omega),zdr (show j*9+7≠p by omega),zdr (show j*9+2≠p by omega),zdr (show j*9+1≠p by omega),zdr (show j*9≠p by omega)];exact HFL2.out p hp),(fun i c x b hi hc hx a=>Sh.ochg (HEL.out i c x b (by omega) hc hx a) HC.out (hne i b hi a)),CH.trans (HC.out.mono fun b a=>by
     rcases zbf.1 a with rfl|a
     .exact zbb _ (q1e.2 rfl)
     .exact zaz _ (P b a))⟩
   case measure=>simp[intOf];omega
  .obtain rfl:j=xs.length:=by omega
   have hlt':¬((xs.length:Nat):Int)<(xs.length:Int):=by omega
   have HKF:Hid (k=S+cntS q1u xs):=by have:=HK.out;rwa [zar (zad _)]at this
   go_wp2_with fail;go_ret
   first|exact⟨q11 HKF.out,CH⟩|exact⟨q11 HKF.out,trivial,CH⟩
theorem qld (cs0:List Value) (K:LabM) (v1:Value) (x1:List qq) (w:World) (h0:q19.rd w cs0 K) (h1:(Sh.rows qh 59).rd w [v1] x1) (tab:TabP w):
  Calls Tryz.prog 5 #[.agg cs0.toArray,v1] w (Bl w (.bool true)):=by
 have HTAB:=zaa tab;clear tab;have hh0:=h0;obtain⟨D,I,G,P,U,S,rfl,qa0BaseSize,qa0BaseOps,qa0Facts,qa0Refused⟩:=q42 hh0;clear hh0;have C:Below w.heap.size w w:=zac _ _;obtain⟨w1,HW1',hb1,hsz1,B⟩:=q15 w #[.bool K.1,.int .i64 K.2.1.1,.slice D I G,.slice P U S,.int .i64 K.2.2.2] 42;have HW1:=zaa HW1';clear HW1';have zw1:w.heap.size<=w1.heap.size:=hb1.size;replace C:=q9 C hb1 rfl;clear hb1;have L0:(0:Int)<=1048576/\(1048576:Int)<=1048576:=by omega
 go_enter Tryz.func5,Tryz.ntmps5
 obtain⟨c,d,f,g,h⟩:=cl5 B;rw[HW1.out]at c;rw[HW1.out]at d;rw[HW1.out]at f;rw[HW1.out]at g;rw[HW1.out]at h;go_wp2_with fail;rw[<-HW1.out];clear c d f g h;refine(qmo [.bool K.1,.int .i64 K.2.1.1,.slice D I G,.slice P U S,.int .i64 K.2.2.2] K 1048576 _ (q19.stab h0 C.block) L0.1 L0.2).mono ?_;rintro e w2 ⟨rfl,hb2⟩;have zw2:w1.heap.size<=w2.heap.size:=hb2.size;replace C:=q9 C hb2 rfl;replace B:=B.next hb2;clear hb2;obtain⟨l0,HL0⟩:∃l,Hid (szR (q19.cnt K) 1048576=l):=⟨_,rfl⟩;have bd0:=q4o (q19.cnt K) (left:=1048576) L0.1;rw[HL0.out]at bd0⊢
 by_cases z0:l0<0
 .go_wp2_with fail
  go_ret;exact⟨rfl,C⟩
 have hn0:(q19.cnt K)<=1048576:=by have:=qps (a:=(q19.cnt K)) (left:=1048576) (by rw[HL0.out];exact z0);omega
 have M0:0<=l0/\l0<=1048576:=by omega
 clear bd0;obtain⟨c,d,f,g,h⟩:=cl5 B;go_wp2_with fail;clear c d f g h;refine(qay v1 x1 l0 _ ((Sh.rows qh 59).stab h1 C.block) M0.1 M0.2).mono ?_;rintro e w3 ⟨rfl,hb3⟩;have zw3:w2.heap.size<=w3.heap.size:=hb3.size;replace C:=q9 C hb3 rfl;replace B:=B.next hb3;clear hb3;obtain⟨l1,HL1⟩:∃l,Hid (szR ((Sh.rows qh 59).cnt x1) l0=l):=⟨_,rfl⟩;have bd1:=q4o ((Sh.rows qh 59).cnt x1) (left:=l0) M0.1;rw[HL1.out]at bd1⊢
 by_cases z1:l1<0
 .go_wp2_with fail
  go_ret;exact⟨rfl,C⟩
 have hn1:((Sh.rows qh 59).cnt x1)<=1048576:=by have:=qps (a:=((Sh.rows qh 59).cnt x1)) (left:=l0) (by rw[HL1.out];exact z1);omega
 have M1:0<=l1/\l1<=1048576:=by omega
 clear bd1;obtain⟨z,HMO0⟩:∃b,Hid (ruM K x1=b):=⟨_,rfl⟩;obtain⟨mo1,HMO1⟩:∃b,Hid (ruN K x1=b):=⟨_,rfl⟩;have hbb1:(mo1 !=mo1)=false:=by simp
 obtain⟨mo2,HMO2⟩:∃b,Hid (ruB K x1=b):=⟨_,rfl⟩;have hbb2:=qn6 mo2;obtain⟨c,d,f,g,h⟩:=cl5 B;go_wp2_with fail;clear c d f g h;refine(q8h [.bool K.1,.int .i64 K.2.1.1,.slice D I G,.slice P U S,.int .i64 K.2.2.2] K _ (q19.stab h0 C.block) hn0).mono ?_;rintro e w4 ⟨csn0,bln0,rfl,On0,In0,hb4⟩;have zw4:w3.heap.size<=w4.heap.size:=hb4.size;replace C:=q9 C hb4 rfl;replace B:=B.next hb4;clear hb4;obtain⟨An0BaseOps,nn0BaseOps,cn0BaseOps,An0Facts,nn0Facts,cn0Facts,rfl,-,-,-,-⟩:=q42 (q19.ord On0);obtain⟨c,d,f,g,h⟩:=cl5 B;go_wp2_with fail;clear c d f g h;refine(q3k v1 x1 _ ((Sh.rows qh 59).stab h1 C.block) hn1).mono ?_;rintro e w5 ⟨vn1,bln1,rfl,On1,In1,hb5⟩;have zw5:w4.heap.size<=w5.heap.size:=hb5.size;replace C:=q9 C hb5 rfl;replace On0:=Sh.onext On0 hb5;replace B:=B.next hb5;clear hb5;obtain⟨c,d,f,g,h⟩:=cl5 B;go_wp2_with fail;clear c d f g h;refine(qjx [.bool K.1,.int .i64 K.2.1.1,.slice An0BaseOps nn0BaseOps cn0BaseOps,.slice An0Facts nn0Facts cn0Facts,.int .i64 K.2.2.2] vn1 K x1 _ (q19.ord On0) ((Sh.rows qh 59).ord On1) hn0 hn1).mono ?_;rintro e w6 ⟨csw,rfl,Rw,hb6⟩;rw[HMO1.out,HMO2.out];have zw6:w5.heap.size<=w6.heap.size:=hb6.size;replace C:=q9 C hb6 rfl;replace On0:=Sh.onext On0 hb6;replace On1:=Sh.onext On1 hb6;replace B:=B.next hb6;clear hb6;clear On0 In0;clear On1 In1;rw[HMO0.out]at Rw;have Tw:Below w6.heap.size w6 w6:=zac _ _;have Rw':=Rw;obtain⟨Q,V,T,AwFacts,nwFacts,cwFacts,rfl,-,-,-,-⟩:=q42 Rw';clear Rw';obtain⟨w7,HW7⟩:∃wb,Hid (wb=w6.alloc (.cells #[.bool z.1,.int .i64 z.2.1.1,.slice Q V T,.slice AwFacts nwFacts cwFacts,.int .i64 z.2.2.2] 27)):=⟨_,rfl⟩;have hb7:Below w6.heap.size w6 w7:=by rw[HW7.out];exact qm _ _
 have O:Blk w7 w6.heap.size 27 #[.bool z.1,.int .i64 z.2.1.1,.slice Q V T,.slice AwFacts nwFacts cwFacts,.int .i64 z.2.2.2]:=by rw[HW7.out];exact Blk.new _ _ _
 have yw7:w6.heap.size<w7.heap.size:=O.lt;have zw7:w6.heap.size<=w7.heap.size:=hb7.size;replace C:=q9 C hb7 rfl;replace Tw:=q9 Tw hb7 rfl;replace B:=B.next hb7;clear hb7;obtain⟨c,d,f,g,h⟩:=cl5 B;obtain⟨i,j,k,m,n⟩:=cl5 O;rw[HW7.out]at c;rw[HW7.out]at d;rw[HW7.out]at f;rw[HW7.out]at g;rw[HW7.out]at h;rw[HW7.out]at i;rw[HW7.out]at j;rw[HW7.out]at k;rw[HW7.out]at m;rw[HW7.out]at n;go_wp2_with fail;rw[<-HW7.out];clear c d f g h i j k m n;refine(q8h [.bool K.1,.int .i64 K.2.1.1,.slice D I G,.slice P U S,.int .i64 K.2.2.2] K _ (q19.stab h0 C.block) hn0).mono ?_;rintro e w8 ⟨csx0,blx0,rfl,Ox0,Ix0,hb8⟩;have zw8:w7.heap.size<=w8.heap.size:=hb8.size;replace C:=q9 C hb8 rfl;replace Tw:=q9 Tw hb8 rfl;replace B:=B.next hb8;replace O:=O.next hb8;clear hb8;obtain⟨L,N,M,Z,nx0Facts,cx0Facts,rfl,-,-,-,-⟩:=q42 (q19.ord Ox0);obtain⟨w9,HW9⟩:∃wb,Hid (wb=w8.alloc (.cells #[.bool K.1,.int .i64 K.2.1.1,.slice L N M,.slice Z nx0Facts cx0Facts,.int .i64 K.2.2.2] 27)):=⟨_,rfl⟩;have hb9:Below w8.heap.size w8 w9:=by rw[HW9.out];exact qm _ _
 have R:Blk w9 w8.heap.size 27 #[.bool K.1,.int .i64 K.2.1.1,.slice L N M,.slice Z nx0Facts cx0Facts,.int .i64 K.2.2.2]:=by rw[HW9.out];exact Blk.new _ _ _
 have yw9:w8.heap.size<w9.heap.size:=R.lt;have zw9:w8.heap.size<=w9.heap.size:=hb9.size;replace C:=q9 C hb9 rfl;replace Tw:=q9 Tw hb9 rfl;replace Ox0:=Sh.onext Ox0 hb9;replace B:=B.next hb9;replace O:=O.next hb9;clear hb9;obtain⟨c,d,f,g,h⟩:=cl5 B;obtain⟨i,j,k,m,n⟩:=cl5 O;obtain⟨o,p,q,r,s⟩:=cl5 R;rw[HW9.out]at c;rw[HW9.out]at d;rw[HW9.out]at f;rw[HW9.out]at g;rw[HW9.out]at h;rw[HW9.out]at i;rw[HW9.out]at j;rw[HW9.out]at k;rw[HW9.out]at m;rw[HW9.out]at n;rw[HW9.out]at o;rw[HW9.out]at p;rw[HW9.out]at q;rw[HW9.out]at r;rw[HW9.out]at s;go_wp2_with fail;rw[<-HW9.out];clear c d f g h i j k m n o p q r s;refine(q3k v1 x1 _ ((Sh.rows qh 59).stab h1 C.block) hn1).mono ?_;rintro e w10 ⟨vx1,blx1,rfl,Ox1,Ix1,hb10⟩;have zw10:w9.heap.size<=w10.heap.size:=hb10.size;replace C:=q9 C hb10 rfl;replace Tw:=q9 Tw hb10 rfl;replace Ox0:=Sh.onext Ox0 hb10;replace B:=B.next hb10;replace O:=O.next hb10;replace R:=R.next hb10;clear hb10;obtain⟨c,d,f,g,h⟩:=cl5 B;obtain⟨i,j,k,m,n⟩:=cl5 O;obtain⟨o,p,q,r,s⟩:=cl5 R;go_wp2_with fail;clear c d f g h i j k m n o p q r s;refine(qbl [.bool K.1,.int .i64 K.2.1.1,.slice L N M,.slice Z nx0Facts cx0Facts,.int .i64 K.2.2.2] vx1 K x1 _ (q19.ord Ox0) (by first|exact Cn0|exact qha Ox0|exact qha Oh0) ((Sh.rows qh 59).ord Ox1) hn0 hn1 (by first|exact(HTAB.out.next C).next Tk|exact(HTAB.out.next C).next (zai Tk)|exact HTAB.out.next C)).mono ?_;rintro e w11 ⟨csg,blg,rfl,Og,Ig,hb11⟩;rw[HMO1.out,HMO2.out];have zw11:w10.heap.size<=w11.heap.size:=hb11.size;replace C:=q9 C hb11 rfl;replace Tw:=q9 Tw hb11 rfl;replace Ox0:=Sh.onext Ox0 hb11;replace Ox1:=Sh.onext Ox1 hb11;replace B:=B.next hb11;replace O:=O.next hb11;replace R:=R.next hb11;clear hb11;rw[HMO0.out]at Og;obtain⟨E,J,H,W,Y,X,rfl,-,-,-,-⟩:=q42 (q31.ord Og);obtain⟨w12,F⟩:∃wb,Hid (wb=w11.alloc (.cells #[.bool z.1,.int .i64 z.2.1.1,.slice E J H,.slice W Y X,.int .i64 z.2.2.2] 27)):=⟨_,rfl⟩;have hb12:Below w11.heap.size w11 w12:=by rw[F.out];exact qm _ _
 have Bg:Blk w12 w11.heap.size 27 #[.bool z.1,.int .i64 z.2.1.1,.slice E J H,.slice W Y X,.int .i64 z.2.2.2]:=by rw[F.out];exact Blk.new _ _ _
 have yw12:w11.heap.size<w12.heap.size:=Bg.lt;have zw12:w11.heap.size<=w12.heap.size:=hb12.size;replace C:=q9 C hb12 rfl;replace Tw:=q9 Tw hb12 rfl;replace Ox0:=Sh.onext Ox0 hb12;replace Ox1:=Sh.onext Ox1 hb12;replace Og:=Sh.onext Og hb12;replace B:=B.next hb12;replace O:=O.next hb12;replace R:=R.next hb12;clear hb12;obtain⟨c,d,f,g,h⟩:=cl5 B;obtain⟨i,j,k,m,n⟩:=cl5 O;obtain⟨o,p,q,r,s⟩:=cl5 R;obtain⟨t,u,v,x,y⟩:=cl5 Bg;rw[F.out]at c;rw[F.out]at d;rw[F.out]at f;rw[F.out]at g;rw[F.out]at h;rw[F.out]at i;rw[F.out]at j;rw[F.out]at k;rw[F.out]at m;rw[F.out]at n;rw[F.out]at o;rw[F.out]at p;rw[F.out]at q;rw[F.out]at r;rw[F.out]at s;rw[F.out]at t;rw[F.out]at u;rw[F.out]at v;rw[F.out]at x;rw[F.out]at y;go_wp2_with fail;rw[<-F.out];clear c d f g h i j k m n o p q r s t u v x y;refine(q7x [.bool z.1,.int .i64 z.2.1.1,.slice E J H,.slice W Y X,.int .i64 z.2.2.2] [.bool z.1,.int .i64 z.2.1.1,.slice Q V T,.slice AwFacts nwFacts cwFacts,.int .i64 z.2.2.2] z z _ (q31.ord Og) (q19.stab Rw Tw.block)).mono ?_;rintro e w13 ⟨rfl,hb13⟩;rw[q5o];have zw13:w12.heap.size<=w13.heap.size:=hb13.size;replace C:=q9 C hb13 rfl;replace Tw:=q9 Tw hb13 rfl;replace Ox0:=Sh.onext Ox0 hb13;replace Ox1:=Sh.onext Ox1 hb13;replace Og:=Sh.onext Og hb13;replace B:=B.next hb13;replace O:=O.next hb13;replace R:=R.next hb13;replace Bg:=Bg.next hb13;clear hb13;have g0:=(q19.stab h0 C.block);have Rx0:=q19.ord Ox0;obtain⟨c,d,f,g,h⟩:=cl5 B;obtain⟨i,j,k,m,n⟩:=cl5 O;obtain⟨o,p,q,r,s⟩:=cl5 R;obtain⟨t,u,v,x,y⟩:=cl5 Bg;go_upto_region 14 with fail;clear c d f g h i j k m n o p q r s t u v x y;obtain⟨c,d,f,g,h⟩:=cl5 B;obtain⟨i,j,k,m,n⟩:=cl5 O;obtain⟨o,p,q,r,s⟩:=cl5 R;obtain⟨t,u,v,x,y⟩:=cl5 Bg;have Tk:Below w13.heap.size w13 w13:=zac _ _
 go_region_held3 (fun w'=>w'.cell? ⟨w.heap.size,0,none⟩=some (.bool K.1)/\w'.cell? ⟨w.heap.size,1,none⟩=some (.int .i64 K.2.1.1)/\w'.cell? ⟨w.heap.size,2,none⟩=some (.slice D I G)/\w'.cell? ⟨w.heap.size,3,none⟩=some (.slice P U S)/\w'.cell? ⟨w.heap.size,4,none⟩=some (.int .i64 K.2.2.2)/\w'.cell? ⟨w6.heap.size,0,none⟩=some (.bool z.1)/\w'.cell? ⟨w6.heap.size,1,none⟩=some (.int .i64 z.2.1.1)/\w'.cell? ⟨w6.heap.size,2,none⟩=some (.slice Q V T)/\w'.cell? ⟨w6.heap.size,3,none⟩=some (.slice AwFacts nwFacts cwFacts)/\w'.cell? ⟨w6.heap.size,4,none⟩=some (.int .i64 z.2.2.2)/\w'.cell? ⟨w8.heap.size,0,none⟩=some (.bool K.1)/\w'.cell? ⟨w8.heap.size,1,none⟩=some (.int .i64 K.2.1.1)/\w'.cell? ⟨w8.heap.size,2,none⟩=some (.slice L N M)/\w'.cell? ⟨w8.heap.size,3,none⟩=some (.slice Z nx0Facts cx0Facts)/\w'.cell? ⟨w8.heap.size,4,none⟩=some (.int .i64 K.2.2.2)/\w'.cell? ⟨w11.heap.size,0,none⟩=some (.bool z.1)/\w'.cell? ⟨w11.heap.size,1,none⟩=some (.int .i64 z.2.1.1)/\w'.cell? ⟨w11.heap.size,2,none⟩=some (.slice E J H)/\w'.cell? ⟨w11.heap.size,3,none⟩=some (.slice W Y X)/\w'.cell? ⟨w11.heap.size,4,none⟩=some (.int .i64 z.2.2.2)) (first|go_keep|exact⟨qe Tk c,qe Tk d,qe Tk f,qe Tk g,qe Tk h,qe Tk i,qe Tk j,qe Tk k,qe Tk m,qe Tk n,qe Tk o,qe Tk p,qe Tk q,qe Tk r,qe Tk s,qe Tk t,qe Tk u,qe Tk v,qe Tk x,qe Tk y⟩) (first|(go_at_call 14;refine(q8h [.bool K.1,.int .i64 K.2.1.1,.slice D I G,.slice P U S,.int .i64 K.2.2.2] K _ (q19.stab g0 (by first|exact Tk.block|exact(zai Tk).block)) hn0).mono ?_;rintro e wn ⟨csn0,bn0,rfl,On,In,hbn⟩;have Rn0:=q19.ord On;clear On In;replace Tk:=q9 (by first|exact Tk|exact zai Tk) hbn rfl)|(go_at_call 17;refine(q7x [.bool K.1,.int .i64 K.2.1.1,.slice L N M,.slice Z nx0Facts cx0Facts,.int .i64 K.2.2.2] csn0 K K _ (q19.stab Rx0 (by first|exact Tk.block|exact(zai Tk).block)) (by first|exact Rn0|exact q19.stab Rn0 (qc (zac _ _) 1).block)).mono ?_;rintro e w14 ⟨rfl,hbn⟩;replace Tk:=q9 (by first|exact Tk|exact zai Tk) hbn rfl;rw[q5o]))
 have hb14:=Tk;have zw14:w13.heap.size<=w14.heap.size:=hb14.size;replace C:=q9 C hb14 rfl;replace Tw:=q9 Tw hb14 rfl;replace Ox0:=Sh.onext Ox0 hb14;replace Ox1:=Sh.onext Ox1 hb14;replace Og:=Sh.onext Og hb14;replace B:=B.next hb14;replace O:=O.next hb14;replace R:=R.next hb14;replace Bg:=Bg.next hb14;clear hb14 Tk c d f g h i j k m n o p q r s t u v x y;clear g0 Rx0
 try clear Rn0 hbn
 obtain⟨c,d,f,g,h⟩:=cl5 B;obtain⟨i,j,k,m,n⟩:=cl5 O;obtain⟨o,p,q,r,s⟩:=cl5 R;obtain⟨t,u,v,x,y⟩:=cl5 Bg;go_wp2_with fail;clear c d f g h i j k m n o p q r s t u v x y;refine(q3k v1 x1 _ ((Sh.rows qh 59).stab h1 C.block) hn1).mono ?_;rintro e w15 ⟨vy1,bly1,rfl,Oy1,Iy1,hb15⟩;have zw15:w14.heap.size<=w15.heap.size:=hb15.size;replace C:=q9 C hb15 rfl;replace Tw:=q9 Tw hb15 rfl;replace Ox0:=Sh.onext Ox0 hb15;replace Ox1:=Sh.onext Ox1 hb15;replace Og:=Sh.onext Og hb15;replace B:=B.next hb15;replace O:=O.next hb15;replace R:=R.next hb15;replace Bg:=Bg.next hb15;clear hb15;obtain⟨c,d,f,g,h⟩:=cl5 B;obtain⟨i,j,k,m,n⟩:=cl5 O;obtain⟨o,p,q,r,s⟩:=cl5 R;obtain⟨t,u,v,x,y⟩:=cl5 Bg;go_wp2_with fail;clear c d f g h i j k m n o p q r s t u v x y;refine(qa2 vx1 vy1 x1 x1 _ ((Sh.rows qh 59).ord Ox1) ((Sh.rows qh 59).ord Oy1)).mono ?_;rintro e w16 ⟨rfl,hb16⟩;rw[q5o];have zw16:w15.heap.size<=w16.heap.size:=hb16.size;replace C:=q9 C hb16 rfl;replace Tw:=q9 Tw hb16 rfl;replace Ox0:=Sh.onext Ox0 hb16;replace Ox1:=Sh.onext Ox1 hb16;replace Og:=Sh.onext Og hb16;replace Oy1:=Sh.onext Oy1 hb16;replace B:=B.next hb16;replace O:=O.next hb16;replace R:=R.next hb16;replace Bg:=Bg.next hb16;clear hb16;clear Oy1 Iy1;have k0_0:(0:Int)<=1:=by omega
 have hm0:q53 K<=4194304:=qjk hn0;obtain⟨c,d,f,g,h⟩:=cl5 B;obtain⟨i,j,k,m,n⟩:=cl5 O;obtain⟨o,p,q,r,s⟩:=cl5 R;obtain⟨t,u,v,x,y⟩:=cl5 Bg;go_wp2_with fail;clear c d f g h i j k m n o p q r s t u v x y;refine(qgf [.bool K.1,.int .i64 K.2.1.1,.slice L N M,.slice Z nx0Facts cx0Facts,.int .i64 K.2.2.2] K blx0 (1) _ Ox0 Ix0.1 (by omega) (by omega)).mono ?_;rintro e w17 ⟨rfl,-,hb17⟩;have hg17:=hb17.chg (lo:=w7.heap.size) (hi:=w8.heap.size) Ix0.2;have zw17:w16.heap.size<=w17.heap.size:=hg17.size;replace C:=C.trans (hg17.below (by omega) (by have:=C.size;omega));replace Tw:=Tw.trans (hg17.below (by omega) (by have:=Tw.size;omega));replace Ox1:=Sh.okept Ox1 Ix1 hg17 (by omega);replace Og:=Sh.okept Og Ig hg17 (by omega);replace B:=B.chg' hg17 (by omega);replace O:=O.chg' hg17 (by omega);replace R:=R.chg' hg17 (by omega);replace Bg:=Bg.chg' hg17 (by omega);clear hb17 hg17;clear Ox0;have hm1:cntS q1u x1<=8388608:=q9g hn1;obtain⟨c,d,f,g,h⟩:=cl5 B;obtain⟨i,j,k,m,n⟩:=cl5 O;obtain⟨o,p,q,r,s⟩:=cl5 R;obtain⟨t,u,v,x,y⟩:=cl5 Bg;go_wp2_with fail;clear c d f g h i j k m n o p q r s t u v x y;refine(q9f vx1 x1 blx1 (1+((q53 K:Nat):Int)) _ Ox1 Ix1.1 (by omega) (by omega)).mono ?_;rintro e w18 ⟨rfl,-,hb18⟩;have hg18:=hb18.chg (lo:=w9.heap.size) (hi:=w10.heap.size) Ix1.2;have zw18:w17.heap.size<=w18.heap.size:=hg18.size;replace C:=C.trans (hg18.below (by omega) (by have:=C.size;omega));replace Tw:=Tw.trans (hg18.below (by omega) (by have:=Tw.size;omega));replace Og:=Sh.okept Og Ig hg18 (by omega);replace B:=B.chg' hg18 (by omega);replace O:=O.chg' hg18 (by omega);replace R:=R.chg' hg18 (by omega);replace Bg:=Bg.chg' hg18 (by omega);clear hb18 hg18;clear Ox1;have hk0:¬(1+((q53 K:Nat):Int)+((cntS q1u x1:Nat):Int)<(0:Int)):=by omega
 obtain⟨c,d,f,g,h⟩:=cl5 B;obtain⟨i,j,k,m,n⟩:=cl5 O;obtain⟨o,p,q,r,s⟩:=cl5 R;obtain⟨t,u,v,x,y⟩:=cl5 Bg;go_wp2_with fail;clear c d f g h i j k m n o p q r s t u v x y;refine(q7x [.bool z.1,.int .i64 z.2.1.1,.slice E J H,.slice W Y X,.int .i64 z.2.2.2] [.bool z.1,.int .i64 z.2.1.1,.slice Q V T,.slice AwFacts nwFacts cwFacts,.int .i64 z.2.2.2] z z _ (q31.ord Og) (q19.stab Rw Tw.block)).mono ?_;rintro e w19 ⟨rfl,hb19⟩;rw[q5o];have zw19:w18.heap.size<=w19.heap.size:=hb19.size;replace C:=q9 C hb19 rfl;replace Tw:=q9 Tw hb19 rfl;replace Og:=Sh.onext Og hb19;replace B:=B.next hb19;replace O:=O.next hb19;replace R:=R.next hb19;replace Bg:=Bg.next hb19;clear hb19;have hmr:q53 z<=4194304:=by rw[<-HMO0.out];exact qrx
 obtain⟨c,d,f,g,h⟩:=cl5 B;obtain⟨i,j,k,m,n⟩:=cl5 O;obtain⟨o,p,q,r,s⟩:=cl5 R;obtain⟨t,u,v,x,y⟩:=cl5 Bg;go_wp2_with fail;clear c d f g h i j k m n o p q r s t u v x y;refine(qej [.bool z.1,.int .i64 z.2.1.1,.slice E J H,.slice W Y X,.int .i64 z.2.2.2] z blg 1 _ Og Ig.1 (by omega) (by omega)).mono ?_;rintro e w20 ⟨rfl,Om,hb20⟩;have hg20:=hb20.chg (lo:=w10.heap.size) (hi:=w11.heap.size) Ig.2;have zw20:w19.heap.size<=w20.heap.size:=hg20.size;replace C:=C.trans (hg20.below (by omega) (by have:=C.size;omega));replace Tw:=Tw.trans (hg20.below (by omega) (by have:=Tw.size;omega));replace B:=B.chg' hg20 (by omega);replace O:=O.chg' hg20 (by omega);replace R:=R.chg' hg20 (by omega);replace Bg:=Bg.chg' hg20 (by omega);clear hb20 hg20;clear Og;have hq0:¬(1+((q53 z:Nat):Int)<0):=by omega
 have hqq:((1+((q53 z:Nat):Int)) !=(1+((q53 z:Nat):Int)))=false:=by simp
 obtain⟨c,d,f,g,h⟩:=cl5 B;obtain⟨i,j,k,m,n⟩:=cl5 O;obtain⟨o,p,q,r,s⟩:=cl5 R;obtain⟨t,u,v,x,y⟩:=cl5 Bg;go_wp2_with fail;clear c d f g h i j k m n o p q r s t u v x y;refine(qa9 [.bool z.1,.int .i64 z.2.1.1,.slice E J H,.slice W Y X,.int .i64 z.2.2.2] z 1 _ (q31.ord Om) (by omega) (by omega)).mono ?_;rintro e w21 ⟨rfl,hb21⟩;have zw21:w20.heap.size<=w21.heap.size:=hb21.size;replace C:=q9 C hb21 rfl;replace Tw:=q9 Tw hb21 rfl;replace Om:=Sh.onext Om hb21;replace B:=B.next hb21;replace O:=O.next hb21;replace R:=R.next hb21;replace Bg:=Bg.next hb21;clear hb21;obtain⟨c,d,f,g,h⟩:=cl5 B;obtain⟨i,j,k,m,n⟩:=cl5 O;obtain⟨o,p,q,r,s⟩:=cl5 R;obtain⟨t,u,v,x,y⟩:=cl5 Bg;go_wp2_with fail;clear c d f g h i j k m n o p q r s t u v x y;refine(q8h [.bool K.1,.int .i64 K.2.1.1,.slice D I G,.slice P U S,.int .i64 K.2.2.2] K _ (q19.stab h0 C.block) hn0).mono ?_;rintro e w22 ⟨csh0,blh0,rfl,Oh0,Ih0,hb22⟩;have zw22:w21.heap.size<=w22.heap.size:=hb22.size;replace C:=q9 C hb22 rfl;replace Tw:=q9 Tw hb22 rfl;replace Om:=Sh.onext Om hb22;replace B:=B.next hb22;replace O:=O.next hb22;replace R:=R.next hb22;replace Bg:=Bg.next hb22;clear hb22;obtain⟨Ah0BaseOps,nh0BaseOps,ch0BaseOps,Ah0Facts,nh0Facts,ch0Facts,rfl,-,-,-,-⟩:=q42 (q19.ord Oh0);obtain⟨c,d,f,g,h⟩:=cl5 B;obtain⟨i,j,k,m,n⟩:=cl5 O;obtain⟨o,p,q,r,s⟩:=cl5 R;obtain⟨t,u,v,x,y⟩:=cl5 Bg;go_wp2_with fail;clear c d f g h i j k m n o p q r s t u v x y;refine(q3k v1 x1 _ ((Sh.rows qh 59).stab h1 C.block) hn1).mono ?_;rintro e w23 ⟨vh1,blh1,rfl,Oh1,Ih1,hb23⟩;have zw23:w22.heap.size<=w23.heap.size:=hb23.size;replace C:=q9 C hb23 rfl;replace Tw:=q9 Tw hb23 rfl;replace Om:=Sh.onext Om hb23;replace Oh0:=Sh.onext Oh0 hb23;replace B:=B.next hb23;replace O:=O.next hb23;replace R:=R.next hb23;replace Bg:=Bg.next hb23;clear hb23;obtain⟨c,d,f,g,h⟩:=cl5 B;obtain⟨i,j,k,m,n⟩:=cl5 O;obtain⟨o,p,q,r,s⟩:=cl5 R;obtain⟨t,u,v,x,y⟩:=cl5 Bg;go_wp2_with fail;clear c d f g h i j k m n o p q r s t u v x y;refine(qbl [.bool K.1,.int .i64 K.2.1.1,.slice Ah0BaseOps nh0BaseOps ch0BaseOps,.slice Ah0Facts nh0Facts ch0Facts,.int .i64 K.2.2.2] vh1 K x1 _ (q19.ord Oh0) (by first|exact Cn0|exact qha Ox0|exact qha Oh0) ((Sh.rows qh 59).ord Oh1) hn0 hn1 (by first|exact(HTAB.out.next C).next Tk|exact(HTAB.out.next C).next (zai Tk)|exact HTAB.out.next C)).mono ?_;rintro e w24 ⟨csh,blh,rfl,Oh,Ih,hb24⟩;rw[HMO1.out,HMO2.out];have zw24:w23.heap.size<=w24.heap.size:=hb24.size;replace C:=q9 C hb24 rfl;replace Tw:=q9 Tw hb24 rfl;replace Om:=Sh.onext Om hb24;replace Oh0:=Sh.onext Oh0 hb24;replace Oh1:=Sh.onext Oh1 hb24;replace B:=B.next hb24;replace O:=O.next hb24;replace R:=R.next hb24;replace Bg:=Bg.next hb24;clear hb24;rw[HMO0.out]at Oh;obtain⟨AhBaseOps,nhBaseOps,chBaseOps,AhFacts,nhFacts,chFacts,rfl,-,-,-,-⟩:=q42 (q31.ord Oh);obtain⟨w25,A⟩:∃wb,Hid (wb=w24.alloc (.cells #[.bool z.1,.int .i64 z.2.1.1,.slice AhBaseOps nhBaseOps chBaseOps,.slice AhFacts nhFacts chFacts,.int .i64 z.2.2.2] 27)):=⟨_,rfl⟩;have hb25:Below w24.heap.size w24 w25:=by rw[A.out];exact qm _ _
 have Bh:Blk w25 w24.heap.size 27 #[.bool z.1,.int .i64 z.2.1.1,.slice AhBaseOps nhBaseOps chBaseOps,.slice AhFacts nhFacts chFacts,.int .i64 z.2.2.2]:=by rw[A.out];exact Blk.new _ _ _
 have yw25:w24.heap.size<w25.heap.size:=Bh.lt;have zw25:w24.heap.size<=w25.heap.size:=hb25.size;replace C:=q9 C hb25 rfl;replace Tw:=q9 Tw hb25 rfl;replace Om:=Sh.onext Om hb25;replace Oh0:=Sh.onext Oh0 hb25;replace Oh1:=Sh.onext Oh1 hb25;replace Oh:=Sh.onext Oh hb25;replace B:=B.next hb25;replace O:=O.next hb25;replace R:=R.next hb25;replace Bg:=Bg.next hb25;clear hb25;clear Oh0 Ih0;clear Oh1 Ih1;obtain⟨c,d,f,g,h⟩:=cl5 B;obtain⟨i,j,k,m,n⟩:=cl5 O;obtain⟨o,p,q,r,s⟩:=cl5 R;obtain⟨t,u,v,x,y⟩:=cl5 Bg;obtain⟨cBh_0,cBh_1,cBh_2,cBh_3,cBh_4⟩:=cl5 Bh;rw[A.out]at c;rw[A.out]at d;rw[A.out]at f;rw[A.out]at g;rw[A.out]at h;rw[A.out]at i;rw[A.out]at j;rw[A.out]at k;rw[A.out]at m;rw[A.out]at n;rw[A.out]at o;rw[A.out]at p;rw[A.out]at q;rw[A.out]at r;rw[A.out]at s;rw[A.out]at t;rw[A.out]at u;rw[A.out]at v;rw[A.out]at x;rw[A.out]at y;rw[A.out]at cBh_0;rw[A.out]at cBh_1;rw[A.out]at cBh_2;rw[A.out]at cBh_3;rw[A.out]at cBh_4;go_wp2_with fail;rw[<-A.out];clear c d f g h i j k m n o p q r s t u v x y cBh_0 cBh_1 cBh_2 cBh_3 cBh_4;refine(q7x [.bool z.1,.int .i64 z.2.1.1,.slice AhBaseOps nhBaseOps chBaseOps,.slice AhFacts nhFacts chFacts,.int .i64 z.2.2.2] [.bool z.1,.int .i64 z.2.1.1,.slice Q V T,.slice AwFacts nwFacts cwFacts,.int .i64 z.2.2.2] z z _ (q31.ord Oh) (q19.stab Rw Tw.block)).mono ?_;rintro e w26 ⟨rfl,hb26⟩;rw[q5o];have zw26:w25.heap.size<=w26.heap.size:=hb26.size;replace C:=q9 C hb26 rfl;replace Tw:=q9 Tw hb26 rfl;replace Om:=Sh.onext Om hb26;replace Oh:=Sh.onext Oh hb26;replace B:=B.next hb26;replace O:=O.next hb26;replace R:=R.next hb26;replace Bg:=Bg.next hb26;replace Bh:=Bh.next hb26;clear hb26;obtain⟨c,d,f,g,h⟩:=cl5 B;obtain⟨i,j,k,m,n⟩:=cl5 O;obtain⟨o,p,q,r,s⟩:=cl5 R;obtain⟨t,u,v,x,y⟩:=cl5 Bg;obtain⟨cBh_0,cBh_1,cBh_2,cBh_3,cBh_4⟩:=cl5 Bh;go_wp2_with fail;clear c d f g h i j k m n o p q r s t u v x y cBh_0 cBh_1 cBh_2 cBh_3 cBh_4;refine(qa9 [.bool z.1,.int .i64 z.2.1.1,.slice E J H,.slice W Y X,.int .i64 z.2.2.2] z 1 _ (q31.ord Om) (by omega) (by omega)).mono ?_;rintro e w27 ⟨rfl,hb27⟩;have zw27:w26.heap.size<=w27.heap.size:=hb27.size;replace C:=q9 C hb27 rfl;replace Tw:=q9 Tw hb27 rfl;replace Om:=Sh.onext Om hb27;replace Oh:=Sh.onext Oh hb27;replace B:=B.next hb27;replace O:=O.next hb27;replace R:=R.next hb27;replace Bg:=Bg.next hb27;replace Bh:=Bh.next hb27;clear hb27;obtain⟨c,d,f,g,h⟩:=cl5 B;obtain⟨i,j,k,m,n⟩:=cl5 O;obtain⟨o,p,q,r,s⟩:=cl5 R;obtain⟨t,u,v,x,y⟩:=cl5 Bg;obtain⟨cBh_0,cBh_1,cBh_2,cBh_3,cBh_4⟩:=cl5 Bh;go_wp2_with fail;clear c d f g h i j k m n o p q r s t u v x y cBh_0 cBh_1 cBh_2 cBh_3 cBh_4;go_ret;exact⟨rfl,C⟩
section
open Go.ChangeShapes Go.WideShapes Go.ChangeAt Go.Joins Go.Deep
theorem qsa {H:Type} {enc:TypeId×Value->H} {w:World}:q3z enc Tryz.prog w 150 shOp:=
 q33 Tryz.underlying150 (by kernel_rfl) (q1x rfl (q3s zcm (by kernel_rfl)) (q3r rfl (q4l za1 (by kernel_rfl) zcm (by kernel_rfl))))
theorem qjr {H:Type} {enc:TypeId×Value->H} {w:World}:q3z enc Tryz.prog w 39 qf:=
 q33 Tryz.underlying39 (by kernel_rfl) (q1x rfl (q3s zcm (by kernel_rfl)) (q3r rfl (q7n (by decide) Tryz.underlying37 (qsa) (by kernel_rfl))))
theorem qgo {H:Type} {enc:TypeId×Value->H} {w:World}:q3z enc Tryz.prog w 45 qw:=
 q33 Tryz.underlying45 (by kernel_rfl) (q1x rfl (q4l za1 (by kernel_rfl) zcm (by kernel_rfl)) (q3r rfl (q4l za1 (by kernel_rfl) zcm (by kernel_rfl))))
theorem qlz {H:Type} {enc:TypeId×Value->H} {w:World}:q3z enc Tryz.prog w 47 qj:=
 q33 Tryz.underlying47 (by kernel_rfl) (q1x rfl (q3s zcm (by kernel_rfl)) (q1x rfl (qgo) (q3r rfl (q4l za1 (by kernel_rfl) zcm (by kernel_rfl)))))
theorem qrt {H:Type} {enc:TypeId×Value->H} {w:World}:q3z enc Tryz.prog w 42 q19:=
 q33 Tryz.underlying42 (by kernel_rfl) (q1x rfl (qgm zfu (by kernel_rfl)) (q1x rfl (qjr) (q1x rfl (q7n (by decide) Tryz.underlying40 (qlz) (by kernel_rfl)) (q3r rfl (q3s zcm (by kernel_rfl))))))
theorem qjs {H:Type} {enc:TypeId×Value->H} {w:World}:q3z enc Tryz.prog w 49 qh:=
 q33 Tryz.underlying49 (by kernel_rfl) (q1x rfl (q3s zcm (by kernel_rfl)) (q1x rfl (qjo zdu (by kernel_rfl)) (q1x rfl (qlz) (q1x rfl (q4l za1 (by kernel_rfl) zcm (by kernel_rfl)) (q1x rfl (q3s zcm (by kernel_rfl)) (q3r rfl (q3s zcm (by kernel_rfl))))))))
end
section
open Go.ChangeShapes Go.WideShapes Go.ChangeAt Go.RowKit
theorem own:ownKnob Tryz.prog.godebug=none:=by kernel_rfl
theorem qlc:laidOutB Tryz.prog=true:=by kernel_rfl
def qak:List (String×DataW Unit):= [("math/bits.deBruijn32tab",Rows.laid_math_bits_deBruijn32tab),("math/bits.deBruijn64tab",Rows.laid_math_bits_deBruijn64tab),("internal/strconv.uint64pow10",Rows.laid_internal_strconv_uint64pow10),("unicode/utf8.acceptRanges",Rows.laid_unicode_utf8_acceptRanges),("strconv.ErrRange",Rows.laid_strconv_ErrRange),("strconv.ErrSyntax",Rows.laid_strconv_ErrSyntax),("unicode/utf8.first",Rows.laid_unicode_utf8_first)]
theorem qbt (w:World):laidMetH Tryz.prog qak w=laidMet Tryz.prog qak w:=MakeChecks.laidMetH_plain _ _ _ (by kernel_rfl)
theorem qnc (os:Os) (a:Array Value):laidMetH Tryz.prog qak ((World.laidAll Tryz.prog os qak).forCall (fun _ _=>0) ⟨#[],a, []⟩).memory:=by
 rw[qbt];exact laidMet_laidAll _ (by kernel_rfl) (by kernel_rfl)
theorem qfp (os:Os) (a:Array Value):((World.laidAll Tryz.prog os qak).forCall (fun _ _=>0) ⟨#[],a, []⟩).Shaped Tryz.prog:=World.shaped_of_ZipB (by kernel_rfl) (by kernel_rfl)
theorem gT:Tryz.prog.globalNamed "internal/strconv.uint64pow10"=some 5:=by kernel_rfl
theorem qrj:(Tryz.prog.globals[5]?).map (·.type)=some 241:=by kernel_rfl
theorem gER:Tryz.prog.globalNamed "strconv.ErrRange"=some 2:=by kernel_rfl
theorem qq7:(Tryz.prog.globals[2]?).map (·.type)=some 159:=by kernel_rfl
theorem gES:Tryz.prog.globalNamed "strconv.ErrSyntax"=some 1:=by kernel_rfl
theorem qq8:(Tryz.prog.globals[1]?).map (·.type)=some 159:=by kernel_rfl
theorem qmr:(Rows.laid_internal_strconv_uint64pow10:DataW Unit)=Lib.tabData .u64 Lib.pow10Tab:=by
 unfold Rows.laid_internal_strconv_uint64pow10 Lib.tabData Lib.pow10Tab;rfl
theorem qig: "*"++ "errors.errorString"= "*errors.errorString":=by decide
theorem qkk (u:TypeId) (h:Tryz.prog.typeName? 3 u=some "*errors.errorString"):u=237:=
 typeName_ptr_named (nm:= "errors.errorString") (by rw[qig];kernel_rfl) (by kernel_rfl) (by decide) u (by rw[qig];exact h)
theorem qdy:Tryz.prog.cellsOf 239=1:=by kernel_rfl
theorem qfd:Tryz.prog.cellsOf 9=1:=by kernel_rfl
theorem qgh {W:World} (h:W.ShapedOpen Tryz.prog):∃m:Int,W.cell? ⟨0,0,none⟩=some (.int .i64 m):=
 cell_of_shapedOpen_int (g:=0) (t:=3) (zero:= #[.int .i64 0]) h (of_decide_eq_true (by kernel_rfl)) (by kernel_rfl) rfl (by kernel_rfl) (by kernel_rfl) zcm
theorem qh4 {W:World} (h:laidMetH Tryz.prog qak W) (l:W.ShapedOpen Tryz.prog):TabP W:=by
 rw[qbt]at h;unfold qak at h;have a:=h.tail.tail;rw[qmr]at a;have b:=a.tail.tail;unfold Rows.laid_strconv_ErrRange at b;have j:=b.tail;unfold Rows.laid_strconv_ErrSyntax at j;obtain⟨m,s4,g,-,-,-⟩:=laid_sentinel b gER qq7 Tryz.underlying159 qkk Tryz.underlying237 Tryz.underlying239 rfl rfl zdu qdy qfd;obtain⟨n,t,i,-,-,-⟩:=laid_sentinel j gES qq8 Tryz.underlying159 qkk Tryz.underlying237 Tryz.underlying239 rfl rfl zdu qdy qfd;refine⟨?_,qgh l,⟨_,_,i⟩,⟨_,_,g⟩⟩;obtain⟨r,⟨p,u,k,o,q,s,d,e,f,c,_,_⟩,_⟩:=a;obtain rfl:=Option.some.inj (gT.symm.trans d);obtain rfl:=Option.some.inj (qrj.symm.trans e);unfold Tab Lib.TabIs;rw[f,<-Lib.cells_of_tab Tryz.underlying241 Tryz.underlying209 (by kernel_rfl) (by kernel_rfl) c]
theorem qb2 {H:Type} {enc:TypeId×Value->H} {a:Assume} {C:Checked} {os:Os} {f:FuncId} {fn:Func} {s:ChangeSpec} {X:World->Prop} {b o p n:Bool}
  (u:∀w w':World,w.heap=w'.heap->X w->X w') (x:ownKnob C.prog.godebug=none) (E:os.Started) (D:C.prog.inits.idxOf? f=none) (h:C.prog.funcs[f]?=some fn)
  (m:∃(w:World) (tape:Tape) (i:Input),w.os=os/\(w.forCall tape i).Shaped C.prog/\i.vars= []/\Input.okWide C.prog (w.forCall tape i) .any w.heap.size f i/\
   ((s.pre enc C.prog fn [] b (w.forCall tape i).memory i.args/\X (w.forCall tape i).memory)/\sizedMet enc C.prog fn (OpenSpec.ofChange s) b (w.forCall tape i).memory i.args)/\a.holds C.prog (lone (Frame.enter C.prog f i.args .normal) [] (w.forCall tape i)))
  (c:∀(W:World) (base:Nat) (args:Array Value) (ds gs:List (DataW H)) (bf:List MemPlace),(∀(j:Nat) t v,fn.params[j]?=some t->args[j]?=some v->Value.okWide C.prog W .any base t v)->
   DataW.Whole enc C.prog fn.params.toList s.vars b W args.toList ds gs bf->X W->W.ShapedOpen C.prog->
   Calls C.prog f args W fun e W'=>∃v,e=.returned v/\s.post enc C.prog fn b o p n W args v W'):
  ReturnsInHanded a C os f .any (fun w args=>(s.pre enc C.prog fn [] b w args/\X w)/\sizedMet enc C.prog fn (OpenSpec.ofChange s) b w args) (s.post enc C.prog fn b o p n):=by
 refine returnsInHanded_of_calls x E D m fun w tape i _ l _ k y _=>?_
 obtain⟨-,-,-,q,g,-,-,-,-,A⟩:=k;obtain rfl:=Option.some.inj (g.symm.trans h);obtain⟨⟨⟨ds,gs,bf,r,-⟩,B⟩,-⟩:=y;have d:=DataW.Whole.of_heap (w':=w.forCall tape i) (by rfl) r;refine(c (w.forCall tape i) w.heap.size i.args ds gs bf A d (u _ _ (by rfl) B) l).mono ?_;rintro e W' ⟨v,rfl,z⟩;exact ChangeSpec.post_blind z
end
end Go.Proofs.YtfnmkbpogbekpaaGreatDoor
