import Derived.Test.YtfnmkbpogbekpaaGreatDoorQ5
import Derived.Lib.AppendIntMem
import Derived.Deep.RegionWith
import Derived.Deep.DeepFit
import Derived.Lib.ItoaNum
import Derived.Lib.ItoaMem
import Derived.Lib.Strings
import Derived.Sort.Grow
import Derived.IntWalk
import Derived.Laws.Concat
import Derived.Lib.Builder
import Derived.Lib.OthersKept
import Derived.Lib.Split
import Derived.Lib.AtoiAll
import Derived.Laws.OwnMore
set_option linter.unusedVariables false
set_option linter.unusedSimpArgs false
set_option maxRecDepth 100000
set_option maxHeartbeats 32000000
namespace Go.Proofs.YtfnmkbpogbekpaaGreatDoor
open Go.RowKit
abbrev Bs:=List UInt8
def mk (l:Bs):ByteArray:=⟨l.toArray⟩
theorem q85 (l:Bs):bs (mk l)=l:=rfl
theorem qmi (s:ByteArray):mk (bs s)=s:=q8o rfl
theorem qau {s:ByteArray} {l:Bs} (h:bs s=l):s=mk l:=q8o h
theorem q9k (a b:ByteArray):bs (a++b)=bs a++bs b:=by
 unfold bs;rw[ByteArray.data_append,Array.toList_append]
theorem q5z (s:ByteArray) (i j:Nat):bs (s.extract i j)=((bs s).drop i).take (j - i):=Lib.extract_data s i j
theorem q7i (s:ByteArray):s.size=(bs s).length:=rfl
theorem q4b (l:Bs):(mk l).size=l.length:=rfl
theorem cat (a b:ByteArray) (h:a.size+b.size<=1099511627776):∀w,(Op.stringOp .add a b).run Tryz.prog w=.ok (.string (a++b)) w:=fun w=>run_string_add_sum w a b (by omega)
theorem qha (a b:ByteArray):(a++b).size=a.size+b.size:=by rw[q7i,q9k,zbl];rfl
theorem qfs {u:Nat} (h:u<1000000):Lib.nDigits u<=6:=by
 rcases zco u 10 with a|a
 .rw[zdi a];omega
 rw[zeh (by omega)]
 rcases zco (u / 10) 10 with b|b
 .rw[zdi b];omega
 rw[zeh (by omega)]
 rcases zco (u / 10 / 10) 10 with c|c
 .rw[zdi c];omega
 rw[zeh (by omega)]
 rcases zco (u / 10 / 10 / 10) 10 with d|d
 .rw[zdi d];omega
 rw[zeh (by omega)]
 rcases zco (u / 10 / 10 / 10 / 10) 10 with e|e
 .rw[zdi e];omega
 rw[zeh (by omega),zdi (by omega)];omega
theorem q79 {u:Nat} (h:u<1000000):(Lib.decDigits u).length<=6:=by rw[Lib.decDigits_length];exact qfs h
def Tab (w:World):Prop:=Lib.TabIs Tryz.prog w "internal/strconv.uint64pow10" .u64 Lib.pow10Tab
theorem Tab.next {w w':World} (h:Tab w) (a:Below w.heap.size w w'):Tab w':=(Lib.tabBelow_of_tabIs h) w' a
theorem qb1 (w:World) (os:Array Obj) (k:Nat):Below w.heap.size w (Sort.grow (w.drewN k) os):=by
 refine⟨rfl,rfl,rfl,?_,fun i a=>?_⟩
 .show w.heap.size<=(w.heap++os).size
  rw[Array.size_append];omega
 .show(w.heap++os)[i]?=w.heap[i]?
  rw[Array.getElem?_append_left a]
theorem q44 {i:Nat} (h:i<10):((([48,49,50,51,52,53,54,55,56,57]:Bs).drop i).take (i+1 - i))= [UInt8.ofNat (48+i)]:=by
 have:∀i:Fin 10,((([48,49,50,51,52,53,54,55,56,57]:Bs).drop i.val).take (i.val+1 - i.val))= [UInt8.ofNat (48+i.val)]:=by decide
 exact this ⟨i,h⟩
theorem qa5 {n:Nat} (h:n<10):(⟨#[48,49,50,51,52,53,54,55,56,57]⟩:ByteArray).extract n (n+1)=mk (Lib.decDigits n):=by
 apply qau;rw[q5z,Lib.decDigits_one h];exact q44 h
theorem qfu {n:Nat} (h:¬n<10):mk (Lib.decDigits (n / 10))++(⟨#[48,49,50,51,52,53,54,55,56,57]⟩:ByteArray).extract (n % 10) (n % 10+1)=mk (Lib.decDigits n):=by
 apply qau;rw[q9k,q5z,q85,Lib.decDigits.eq_def n,dif_neg h]
 congr 1
 exact q44 (zfk _ (by decide))
theorem q9u (n:Nat):∀(_hn:n<1000000) (w:World),Calls Tryz.prog 156 #[.int .i64 n] w (Qt w (.string (mk (Lib.decDigits n)))):=by
 induction n using Nat.strongRecOn with
 | _ n ih =>
   intro t w
   by_cases h10 : n < 10
   . have b := zaa (qa5 h10)
     have c : (0 : Int) <= (n : Int) := by omega
     have h : (n : Int) < 10 := by omega
     clear ih
     go_enter Tryz.func156, Tryz.ntmps156
     go_wp2
     go_ret;exact ⟨q8i b.out, 0, rfl⟩
   . have b := zaa (qfu h10)
     have i := ih (n / 10) (by omega) (by omega);have c : (10 : Int) <= (n : Int) := by omega
     have p : IntKind.i64.wrap ((n : Int) / 10) = (n : Int) / 10 := zcg _ (by omega);have q : (n : Int).tmod 10 = (n : Int) % 10 := rfl;have r : IntKind.i64.wrap ((n : Int) % 10 + 1) = (n : Int) % 10 + 1 := zcg _ (by omega);have e : (0 : Int) <= (n : Int) % 10 := by omega
     have d : (n : Int) % 10 + 1 <= 10 := by omega
     have k : (n : Int) % 10 <= 9 := by omega
     have l : (n : Int) % 10 < 10 := by omega
     have m : (0 : Int) <= (n : Int) % 10 + 1 := by omega
     have o : (n : Int) % 10 + 1 <= ((⟨#[48, 49, 50, 51, 52, 53, 54, 55, 56, 57]⟩ : ByteArray).size : Int) := d;have j : ∀ w, (Instr.slice 9 (.string ⟨#[48, 49, 50, 51, 52, 53, 54, 55, 56, 57]⟩) (some (.int .i64 ((n : Int) % 10))) (some (.int .i64 ((n : Int) % 10 + 1))) none).run Tryz.prog w = .ok (.string ((⟨#[48, 49, 50, 51, 52, 53, 54, 55, 56, 57]⟩ : ByteArray).extract (n % 10) (n % 10 + 1))) w := fun w => by
       have := run_slice_string (P := Tryz.prog) (w := w) 9 ⟨#[48, 49, 50, 51, 52, 53, 54, 55, 56, 57]⟩ .i64 .i64 ((n : Int) % 10) ((n : Int) % 10 + 1) zdz e (by omega) d;rw [this];have f : ((n : Int) % 10).toNat = n % 10 := by omega
       have g : ((n : Int) % 10 + 1).toNat = n % 10 + 1 := by omega
       rw [f, g]
     have a : ∀ w, Calls Tryz.prog 156 #[.int .i64 ((n : Int) / 10)] w (Qt w (.string (mk (Lib.decDigits (n / 10))))) := i
     have v := cat (mk (Lib.decDigits (n / 10))) ((⟨#[48, 49, 50, 51, 52, 53, 54, 55, 56, 57]⟩ : ByteArray).extract (n % 10) (n % 10 + 1)) (by
       have s := q79 (u := n / 10) (by omega);rw [q4b, q7i, q5z, za8]
       omega)
     clear ih h10
     go_enter Tryz.func156, Tryz.ntmps156
     go_wp2
     go_quiet ((go_at_call 156; (first | exact q1k (a _) | exact q1e (a _))))
     go_wp2
     go_ret;exact ⟨q8i b.out, (by first | exact Drawn.zero _ | exact Drawn.at_ _ _ | exact (Drawn.at_ _ _).more _ | exact ((Drawn.at_ _ _).more _).more _)⟩
theorem q77 {b:Nat} {w a c:World} (h:Below b w a) (k:Below a.heap.size a c) (d:b<=a.heap.size):Below b w c:=h.trans (k.mono d)
theorem qp1 {b:Nat} {w w':World} {p:Addr} {v:Value} (a:Below b w w') (c:p.block<b) (h:w.cell? p=some v):w'.cell? p=some v:=(a.cell c).trans h
def Bd (w:World) (b:Nat) (l:Bs):Prop:=Lib.IsBuilder 166 5 b b (Lib.byteCells l) w
def Kb (b:Nat) (w w':World):Prop:=Below b w w'/\Lib.OthersKept 5 (some b) w w'
theorem Kb.refl (b:Nat) (w:World):Kb b w w:=⟨zab _ _,Lib.OthersKept.refl _ _ _⟩
theorem Kb.trans {b:Nat} {a c d:World} (h:Kb b a c) (k:Kb b c d):Kb b a d:=⟨h.1.trans k.1,h.2.trans k.2⟩
theorem Bd.new (w:World):Bd (w.alloc (.cells #[.pointer none,.slice none 0 0] 166)) w.heap.size []:=
 .inl ⟨zad _,.slice none 0 0,Blk.new w 166 #[.pointer none,.slice none 0 0],World.ownsRow_nil _ _ _ _,by simp[Value.ownBlock]⟩
theorem Bd.lt {w:World} {b:Nat} {l:Bs} (h:Bd w b l):b<w.heap.size:=by
 rcases h with⟨_,v,a,_⟩|⟨_,v,a,_⟩
 .exact(zd8.1 a).1
 .exact(zd8.1 a).1
theorem Bd.next {w w':World} {b:Nat} {l:Bs} (h:Bd w b l) (c:Below w.heap.size w w'):Bd w' b l:=by
 have a:=h.lt
 rcases h with⟨d,v,e,f,g⟩|⟨d,v,e,f,g⟩
 .exact .inl ⟨d,v,(c.block b a).trans e,ql f c,g⟩
 .exact .inr ⟨d,v,(c.block b a).trans e,ql f c,g⟩
theorem qji {w w':World} {b:Nat} (d:b<w.heap.size) (a:Below w.heap.size w w'):Kb b w w':=
 ⟨⟨a.os,a.tape,a.output,a.size,fun i e=>a.block i (by omega)⟩,fun k o c _ _=>(a.block k (zd8.1 c).1).trans c⟩
theorem qbu (b:Nat) (l:Bs) (w:World) (h:Bd w b l):
  Calls Tryz.prog 190 #[.pointer (some ⟨b,0,none⟩)] w fun e w'=>e=.returned (.tuple #[])/\Lib.BuilderAt 166 5 b b (.pointer (some ⟨b,0,none⟩)) (Lib.byteCells l) w'/\Kb b w w':=by
 obtain⟨j,c,d⟩:=zfb.1 (show(Tryz.prog.info? 166).map (·.size)=some 2 by kernel_rfl);have m:=h.lt
 rcases h with h|h
 .have i:=h.cell0
  have a:=h.shape;have k:=h.frozen0;have f:=zaa (h.used (.pointer (some ⟨b,0,none⟩)));have g:Kb b w (w.setCell ⟨b,0,none⟩ (.pointer (some ⟨b,0,none⟩))):=⟨(zab b w).setCell (p:=⟨b,0,none⟩) (zad _) _,(Lib.OthersKept.refl _ _ w).setCell ⟨b,0,none⟩ rfl _⟩;clear h
  go_enter Tryz.func190,Tryz.ntmps190
  go_wp2
  rw[Lib.run_to_unsafe w ⟨b,0,none⟩ Tryz.underlying164 Tryz.underlying202 c (by rw[d];decide) a (Nat.zero_lt_succ 1)];simp only[Result.andThen];rw[Oper.upon_value]
  go_wp2
  rw[run_callFunc_extern Tryz.func211 (by kernel_rfl) (by kernel_rfl) (by kernel_rfl) (e:=Extern.AbiNoEscape.same) (by kernel_rfl)];rw[Lib.run_noEscape];simp only[Result.andThen];rw[Oper.upon_value]
  go_wp2
  rw[Lib.run_from_unsafe w ⟨b,0,none⟩ Tryz.underlying202 Tryz.underlying164 c a (by kernel_rfl)];simp only[Result.andThen];rw[Oper.upon_value]
  go_wp2
  go_end0
  exact⟨rfl,f.out,g⟩
 .have i:=h.cell0
  go_enter Tryz.func190,Tryz.ntmps190
  go_wp2
  rw[Lib.run_neq_ptr_same w _ Tryz.underlying164 c]
  go_wp2
  go_end0
  exact⟨rfl,h,Kb.refl _ _⟩
theorem q2r (b:Nat) (l:Bs) (s:ByteArray) (w:World) (h:Bd w b l) (S:l.length+s.size<=1000000000):
  Calls Tryz.prog 142 #[.pointer (some ⟨b,0,none⟩),.string s] w fun e w'=>e=.returned (.tuple #[.int .i64 s.size,.nilIface])/\Bd w' b (l++bs s)/\Kb b w w':=by
 obtain⟨L,I,y,z,A⟩:=info_parts (show(Tryz.prog.info? 5).map (fun i=>(i.zero,i.size,i.bytes))=some (some (.int .u8 0),1,1)by kernel_rfl);have K:=h.lt
 go_enter Tryz.func142,Tryz.ntmps142
 go_wp2_with fail;refine(qbu b l _ h).mono ?_;rintro e r ⟨rfl,H,n⟩;obtain⟨C,v,m,c,u⟩:=H;have N:r.cell? ⟨b,0,none⟩=some (.pointer (some ⟨b,0,none⟩)):=by rw[Lib.cell_of_heap m];rfl
 have O:r.cell? ⟨b,1,none⟩=some v:=by rw[Lib.cell_of_heap m];rfl
 have D:=n.1.size;have o:(Lib.byteCells l).length=l.length:=Lib.byteCells_length l
 go_wp2_with (at_builtin;refine Lib.wpList_append_own_string _ rfl _ _ 130 9 rfl b 5 L Tryz.underlying130 zdz I y z A _ _ _ rfl c s rfl ?c3 ?c4 ?c5 ?_)
 case c3=>unfold maxLen;omega
 case c4=>omega
 case c5=>omega
 intro M t d a _;have q:b<r.heap.size:=by omega
 have f:t.heap[b]?=some (.cells #[.pointer (some ⟨b,0,none⟩),v] 166 (0,0)):=(a.block b q (fun e=>u e.symm)).trans m;have P:t.cell? ⟨b,0,none⟩=some (.pointer (some ⟨b,0,none⟩)):=by rw[Lib.cell_of_heap f];rfl
 have Q:t.cell? ⟨b,1,none⟩=some v:=by rw[Lib.cell_of_heap f];rfl
 have R:t.frozen? ⟨b,1,none⟩=false:=Lib.frozen_of_heap f 1;obtain⟨B,E,j,rfl⟩:∃B E j,M=.slice B E j:=by
  rcases d.2 with⟨x,_⟩|⟨g,j,F,x,_⟩
  .exact⟨_,_,_,x⟩
  .exact⟨_,_,_,x⟩
 go_wp2
 go_ret2
 refine⟨rfl,.inr ?_,n.trans ⟨((zab b r).grown a (by omega) (fun k J=>(c.lt k J).1)).setCell (p:=⟨b,1,none⟩) C _,((Lib.OthersKept.refl _ _ r).grown a (Lib.ownsRowF_kind (World.ownsRowF_of c))).setCell ⟨b,1,none⟩ rfl _⟩⟩;have G:Lib.byteCells (l++bs s)=Lib.byteCells l++Lib.strCells s:=by rw[Lib.strCells_eq];unfold Lib.byteCells bs;rw[zeo]
 rw[G];exact Lib.BuilderAt.put (T:=166) (e:=5) C f (bs':=Lib.byteCells l++Lib.strCells s) (by rw[zbl,Lib.strCells_length,o];exact d) (by decide)
theorem qin (b:Nat) (l:Bs) (w:World) (h:Bd w b l):
  Calls Tryz.prog 145 #[.pointer (some ⟨b,0,none⟩)] w fun e w'=>e=.returned (.string (mk l))/\Below b w w':=
 Tryz.Builder_String_any b b l w h (Nat.le_of_lt h.lt)
theorem Kb.blk {b g:Nat} {w w':World} {a:TypeId} {cs:Array Value} (h:Kb b w w') (d:Blk w g a cs) (f:g≠b) (i:a≠5):Blk w' g a cs:=
 h.2 g _ d (fun e=>f (by injection e)) (fun c j e=>i (by injection e))
def InD (v:Int):Prop:= -999999<=v/\v<=999999
def isDg (c:UInt8):Prop:=48<=c.toNat/\c.toNat<=57
def valD:Nat->Bs->Nat
 |acc, []=>acc
 |acc,c::r=>valD (acc*10+(c.toNat - 48)) r
theorem qd2:∀(a b:Bs) (acc:Nat),valD acc (a++b)=valD (valD acc a) b
 | [],_,_=>rfl
 |c::a,b,acc=>qd2 a b _
theorem qbw {d:Nat} (h:d<10):(UInt8.ofNat (48+d)).toNat=48+d:=by
 rw[UInt8.toNat_ofNat'];omega
theorem q8p (u:Nat):∀c∈Lib.decDigits u,isDg c:=by
 induction u using Nat.strongRecOn with
 | _ u ih =>
   intro c a
   by_cases h : u < 10
   . rw [Lib.decDigits, dif_pos h] at a
     have a := zcf.1 a;subst a;unfold isDg;rw [qbw h];omega
   . rw [Lib.decDigits, dif_neg h, zat] at a
     rcases a with a | a
     . exact ih (u / 10) (by omega) c a
     . have a := zcf.1 a
       subst a;unfold isDg;rw [qbw (zfk _ (by decide))];omega
theorem q5b (u:Nat):valD 0 (Lib.decDigits u)=u:=by
 induction u using Nat.strongRecOn with
 | _ u ih =>
   by_cases h : u < 10
   . rw [Lib.decDigits, dif_pos h]
     show 0 * 10 + ((UInt8.ofNat (48 + u)).toNat - 48) = u
     rw [qbw h];omega
   . rw [Lib.decDigits, dif_neg h, qd2, ih (u / 10) (by omega)]
     show u / 10 * 10 + ((UInt8.ofNat (48 + u % 10)).toNat - 48) = u
     rw [qbw (zfk _ (by decide))];omega
theorem qgh (u:Nat):Lib.decDigits u≠ []:=fun e=>by
 have h:=Lib.decDigits_length u;rw[e]at h;have:=Lib.nDigits_pos u;simp at h;omega
theorem q3f {v:Int} (h:0<=v):Lib.itoa v=Lib.decDigits v.toNat:=by unfold Lib.itoa;rw[zaj (by omega)]
theorem q3e {v:Int} (h:v<0):Lib.itoa v=45::Lib.decDigits v.natAbs:=by unfold Lib.itoa;rw[zao h]
theorem qo3 {v:Int}:∀c∈Lib.itoa v,c=45\/isDg c:=by
 intro c a
 by_cases h:v<0
 .rw[q3e h]at a
  rcases zbq.1 a with a|a
  .exact .inl a
  .exact .inr (q8p _ c a)
 .rw[q3f (by omega)]at a
  exact .inr (q8p _ c a)
theorem qfd {v:Int} {b:UInt8} (a:b≠45) (c:¬isDg b):b∉Lib.itoa v:=fun h=>(qo3 b h).elim a c
theorem q7t {v u:Int} (h:Lib.itoa v=Lib.itoa u):v=u:=by
 have b:∀(a:Nat),∀l:Bs,Lib.decDigits a≠45::l:=fun a l e=>by
  have:=q8p a 45 (by rw[e];exact za2 ..);unfold isDg at this;simp at this
 by_cases hv:v<0
 .by_cases hu:u<0
  .rw[q3e hv,q3e hu]at h
   injection h with _ h
   have:=zav (valD 0) h;rw[q5b,q5b]at this;omega
  .rw[q3e hv,q3f (by omega)]at h
   exact absurd h.symm (b _ _)
 .by_cases hu:u<0
  .rw[q3e hu,q3f (by omega)]at h
   exact absurd h (b _ _)
  .rw[q3f (by omega),q3f (by omega)]at h
   have:=zav (valD 0) h;rw[q5b,q5b]at this;omega
theorem qla:∀(l:Bs) (acc:Nat),acc<=valD acc l
 | [],acc=>zad _
 |c::r,acc=>zbb (by omega) (qla r (acc*10+(c.toNat - 48)))
theorem qck:∀(l:Bs) (acc:Nat),(∀c∈l,isDg c)->valD acc l<1844674407370955162->Lib.parseUint10 acc l=.ok (valD acc l)
 | [],acc,_,_=>rfl
 | c :: r, acc, h, hv => by
   have hc := h c (za2 ..);have e := qla r (acc * 10 + (c.toNat - 48));have b : valD acc (c :: r) = valD (acc * 10 + (c.toNat - 48)) r := rfl;rw [b] at hv;unfold Lib.parseUint10;rw [zao (show 48 <= c.toNat /\ c.toNat <= 57 from hc), zaj (by omega), zaj (by omega), b];exact qck r _ (fun d a => h d (zaw _ a)) hv
theorem qiy {v:Int} (h:InD v):Lib.atoiAll (Lib.itoa v)=.ok v:=by
 obtain⟨d,f⟩:=h
 by_cases hv:v<0
 .rw[q3e hv]
  have a:Lib.parseUint10 0 (Lib.decDigits v.natAbs)=.ok v.natAbs:=by
   rw[qck _ _ (q8p _) (by rw[q5b];omega),q5b]
  unfold Lib.atoiAll Lib.parseMag;simp only[show((45:UInt8).toNat=43\/(45:UInt8).toNat=45)from .inr (by decide),if_true];rw[zaj (qgh _),a];simp only;rw[zaj (by simp),zaj (by simp;omega)];simp;omega
 .rw[q3f (by omega)]
  obtain⟨u,rfl⟩:∃u:Nat,v=u:=⟨v.toNat,by omega⟩;rw[za1];have a:Lib.parseUint10 0 (Lib.decDigits u)=.ok u:=by
   rw[qck _ _ (q8p _) (by rw[q5b];omega),q5b]
  obtain⟨c,r,e⟩:∃c r,Lib.decDigits u=c::r:=by
   rcases e:Lib.decDigits u with _|⟨c,r⟩
   .exact absurd e (qgh u)
   .exact⟨c,r,rfl⟩
  have b:=q8p u c (by rw[e];exact za2 ..);unfold isDg at b;rw[e]at a⊢;unfold Lib.atoiAll Lib.parseMag;simp only;rw[zaj (show ¬(c.toNat=43\/c.toNat=45)by omega),zaj (by simp),a];simp only;rw[zaj (by omega),zaj (by omega),zaj (by omega)]
theorem q5i {v:Int} (h:InD v):(Lib.itoa v).length<=7:=by
 obtain⟨a,b⟩:=h
 by_cases hv:v<0
 .rw[q3e hv,za0]
  have:=q79 (u:=v.natAbs) (by omega);omega
 .rw[q3f (by omega)]
  have:=q79 (u:=v.toNat) (by omega);omega
open Classical in
noncomputable def q34 (s:ByteArray):Option Int:=if h:∃v,InD v/\s=mk (Lib.itoa v)then some (Classical.choose h)else none
theorem q7y {a b:Bs} (h:mk a=mk b):a=b:=by
 have:=zav bs h
 rwa [q85,q85]at this
theorem q39 {s:ByteArray} {v:Int} (d:InD v) (h:s=mk (Lib.itoa v)):q34 s=some v:=by
 have a:∃v,InD v/\s=mk (Lib.itoa v):=⟨v,d,h⟩;unfold q34;rw[dif_pos a];have b:=(Classical.choose_spec a).2;have c:mk (Lib.itoa v)=mk (Lib.itoa (Classical.choose a)):=h.symm.trans b;rw[<-q7t (q7y c)]
theorem q6w {s:ByteArray} (h:∀v,InD v->s≠mk (Lib.itoa v)):q34 s=none:=by
 unfold q34;rw[dif_neg];rintro⟨v,a,b⟩;exact h v a b
theorem q6e {s:ByteArray} {v:Int}:q34 s=some v↔InD v/\s=mk (Lib.itoa v):=by
 constructor
 .intro h
  by_cases he:∃v,InD v/\s=mk (Lib.itoa v)
  .obtain⟨u,a,b⟩:=he
   rw[q39 a b]at h;injection h with h
   subst h;exact⟨a,b⟩
  .rw[q6w fun v a b=>he ⟨v,a,b⟩]at h
   cases h
 .exact fun⟨a,b⟩=>q39 a b
def tl (l:Bs):Bs:=if 1<l.length/\l[0]?=some 45 then l.drop 1 else l
theorem qcx {v:Int}:tl (Lib.itoa v)=Lib.decDigits v.natAbs/\((tl (Lib.itoa v)).length<(Lib.itoa v).length↔v<0):=by
 by_cases hv:v<0
 .have a:=qgh v.natAbs
  have b:0<(Lib.decDigits v.natAbs).length:=List.length_pos_iff.2 a;have e:tl (Lib.itoa v)=Lib.decDigits v.natAbs:=by
   rw[q3e hv];unfold tl;rw[zao ⟨by rw[za0];omega,rfl⟩];rfl
  rw[e,q3e hv,za0];exact⟨rfl,fun _=>hv,fun _=>by omega⟩
 .have e:tl (Lib.itoa v)=Lib.itoa v:=by
   unfold tl;rw[zaj];rintro⟨-,h⟩;rw[q3f (by omega)]at h;have:=q8p v.toNat 45 (zaf h);unfold isDg at this;simp at this
  rw[e,q3f (by omega)];exact⟨by congr 1;omega,fun h=>absurd h (by omega),fun h=>absurd h hv⟩
theorem qlb:∀(l:Bs) (acc:Nat),(∀c∈l,isDg c)->valD acc l<(acc+1)*10 ^ l.length
 | [], acc, _ => by
   show acc < (acc + 1) * 1
   omega
 | c :: r, acc, h => by
   have hc := h c (za2 ..);have e := qlb r (acc * 10 + (c.toNat - 48)) fun b a => h b (zaw _ a)
   have d : valD acc (c :: r) = valD (acc * 10 + (c.toNat - 48)) r := rfl;unfold isDg at hc;rw [d, za0, zff, zfe (10 ^ r.length) 10, <- Nat.mul_assoc];refine zek e (zdw _ ?_);omega
theorem qn6 {l:Bs} (h:∀c∈l,isDg c) (a:l.length<=6):valD 0 l<=999999:=by
 have b:=qlb l 0 h;have d:10 ^ l.length<=10 ^ 6:=Nat.pow_le_pow_right (by decide) a;omega
def DvAt (t:Bs) (k n:Nat):Prop:=(∀c∈t.take k,isDg c)/\n=valD 0 (t.take k)
theorem DvAt.start (t:Bs):DvAt t 0 0:=⟨by simp,rfl⟩
theorem DvAt.step {t:Bs} {k n:Nat} {c:UInt8} (h:DvAt t k n) (i:t[k]?=some c) (hd:isDg c):DvAt t (k+1) (10*n+(c.toNat - 48)):=by
 obtain⟨f,g⟩:=h;have e:t.take (k+1)=t.take k++ [c]:=by rw[zbj,i];rfl
 refine⟨fun d a=>?_,?_⟩
 .rw[e,zat]at a
  rcases a with b|b
  .exact f d b
  .rw[zcf.1 b];exact hd
 .rw[e,qd2,<-g]
  show _=n*10+(c.toNat - 48)
  omega
theorem DvAt.bd {t:Bs} {k n:Nat} (h:DvAt t k n) (a:t.length<=6):n<=999999:=by
 rw[h.2];exact qn6 h.1 (by rw[za8];omega)
theorem qg3 {s:Bs} (h:∀v,InD v->s=Lib.itoa v->False):q34 (mk s)=none:=q6w fun v a b=>h v a (q7y b)
theorem qkj {s:Bs} (h:¬(1<=(tl s).length/\(tl s).length<=6)):q34 (mk s)=none:=qg3 fun v a e=>h (by
 rw[e,(qcx (v:=v)).1];have b:0<(Lib.decDigits v.natAbs).length:=List.length_pos_iff.2 (qgh _);have c:=q79 (u:=v.natAbs) (by obtain⟨_,_⟩:=a;omega)
 omega)
theorem qkk {s:Bs} {c:UInt8} (a:c∈tl s) (h:¬isDg c):q34 (mk s)=none:=qg3 fun v b e=>h (by
 rw[e,(qcx (v:=v)).1]at a
 exact q8p _ c a)
def sgn (s:Bs) (n:Nat):Int:=if(tl s).length<s.length then -(n:Int)else n
theorem qmr {s:Bs} {n:Nat} (h:DvAt (tl s) (tl s).length n) (b:(tl s).length<=6) (a:Lib.itoa (sgn s n)=s):q34 (mk s)=some (sgn s n):=by
 have c:=h.bd b;exact q39 (by unfold sgn InD;split<;>omega) (by rw[a])
theorem qkl {s:Bs} {n:Nat} (h:DvAt (tl s) (tl s).length n) (f:Lib.itoa (sgn s n)≠s):q34 (mk s)=none:=qg3 fun v i e=>f (by
 obtain⟨g,b⟩:=h;rw[List.take_length]at b;have c:=(qcx (v:=v)).1;have a:=(qcx (v:=v)).2;rw[<-e]at c a;rw[c,q5b]at b;rw[e]
 congr 1
 unfold sgn;rw[<-e]
 split
 .rename_i h5
  have:=a.1 h5;omega
 .rename_i h5
  have:¬v<0:=fun d=>h5 (a.2 d)
  omega)
def q1r (sep:Bs):List Bs->Bs
 | []=> []
 | [t]=>t
 |t::u::l=>t++(sep++q1r sep (u::l))
def sepB (sep:Bs) (l:List Bs):Bs:=(l.map fun t=>sep++t).flatten
theorem q30 (sep t:Bs):∀l:List Bs,q1r sep (t::l)=t++sepB sep l
 | []=>by simp[q1r,sepB]
 | u :: l => by
   rw [q1r, q30 sep u l];simp [sepB]
def splL (b:UInt8):Bs->List Bs
 | []=> [[]]
 | x :: l => if x = b then [] :: splL b l else match splL b l with
   | [] => [[x]]
   | p :: ps => (x :: p) :: ps
theorem qg6 {b:UInt8}:∀ {l:Bs},b∉l->splL b l= [l]
 | [],_=>rfl
 | x :: l, h => by
   rw [splL, zaj (fun e => h (by rw [e]; simp)), qg6 (fun hm => h (zaw _ hm))]
theorem qcr {b:UInt8}:∀ {a x:Bs},b∉a->splL b (a++b::x)=a::splL b x
 | [],x,_=>by rw[zch,splL,zao rfl]
 | d :: a, x, h => by
   rw [List.cons_append, splL, zaj (fun e => h (by rw [e]; simp)), qcr (fun hm => h (zaw _ hm))]
theorem qag {b:UInt8}:∀ {l:List Bs},l≠ []->(∀t∈l,b∉t)->splL b (q1r [b] l)=l
 | [],h,_=>absurd rfl h
 | [t],_,h=>qg6 (h t (za2 ..))
 | t :: u :: l, _, h => by
   rw [q1r, List.singleton_append, qcr (h t (za2 ..)), qag (by simp) fun t' ht => h t' (zaw _ ht)]
theorem qlw {c:UInt8} {r a:Bs} (h:c∉a):Lib.index a (c::r)= -1:=Lib.index_none fun j b=>by
 rcases e:Lib.occAt a (c::r) j with _|_
 .rfl
 .exact absurd (zaf (Lib.occAt_head rfl e)) h
theorem qjb {c:UInt8} {r a x:Bs} (h:c∉a):Lib.index (a++((c::r)++x)) (c::r)=a.length:=by
 refine Lib.index_first (by simp) ?_ fun j b=>?_
 .unfold Lib.occAt
  rw[List.drop_left];exact List.isPrefixOf_iff_prefix.2 ⟨x,rfl⟩
 .rcases e:Lib.occAt (a++((c::r)++x)) (c::r) j with _|_
  .rfl
  .have:=Lib.occAt_head rfl e
   rw[zbw b]at this;exact absurd (zaf this) h
theorem qpf {c:UInt8} {r a:Bs} (h:c∉a):Lib.split a (c::r)= [a]:=by
 unfold Lib.split;rw[Lib.count_miss (qlw h)];rfl
theorem qol {c:UInt8} {r a x:Bs} (h:c∉a):Lib.split (a++((c::r)++x)) (c::r)=a::Lib.split x (c::r):=by
 unfold Lib.split;have b:=qjb (r:=r) (x:=x) h;have hd:(a++((c::r)++x)).drop (a.length+(c::r).length)=x:=by
  rw[<-zec,<-zbl,List.drop_left]
 rw[Lib.count_hit (by simp) b,hd,Nat.add_comm 1,Lib.splitK,b];rw[zaj (by simp),za1,Nat.add_zero,List.take_left,hd]
theorem qcs {c:UInt8} {r:Bs}:∀ {l:List Bs},l≠ []->(∀t∈l,c∉t)->Lib.split (q1r (c::r) l) (c::r)=l
 | [],h,_=>absurd rfl h
 | [t],_,h=>qpf (h t (za2 ..))
 | t :: u :: l, _, h => by
   rw [q1r, qol (h t (za2 ..)), qcs (by simp) fun t' ht => h t' (zaw _ ht)]
theorem qe4 {sep:Bs} {c:UInt8}:∀ {l:List Bs},c∈q1r sep l->c∈sep\/∃t∈l,c∈t
 | [],h=>by simp[q1r]at h
 | [t],h=>.inr ⟨t,za2 ..,h⟩
 | t :: u :: l, h => by
   rw [q1r, zat, zat] at h
   rcases h with h | h | h
   . exact .inr ⟨t, za2 .., h⟩
   . exact .inl h
   . rcases qe4 h with h | ⟨t', h1, h2⟩
     . exact .inl h
     . exact .inr ⟨t', zaw _ h1, h2⟩
def wsT (t:List Int):List Bs:=t.map Lib.itoa
def arL (n len:Nat):Int:=if n ^ 0=len then 0 else if n ^ 1=len then 1 else if n ^ 2=len then 2 else if n ^ 3=len then 3 else -1
def ArP (x:qi):Prop:=∀o∈x.2,o.1=arL x.1.toNat o.2.length
def GoodA (x:qi):Prop:=AlgP x/\ArP x
def txA (x:qi):Bs:=Lib.itoa x.1++sepB [59,32] (x.2.map fun o=>q1r [32] (wsT o.2))
def txR (x:qi):Bs:=Lib.itoa x.1++sepB [59] (x.2.map fun o=>sepB [32] (wsT o.2))
theorem q5x (t:List Int):(wsT t).length=t.length:=by simp[wsT]
theorem qd5:∀ {a b:List Int},wsT a=wsT b->a=b
 | [], [],_=>rfl
 | [],_::_,h=>by simp[wsT]at h
 |_::_, [],h=>by simp[wsT]at h
 | v :: a, u :: b, h => by
   simp only [wsT, zcy] at h;injection h with h1 h2
   rw [q7t h1, qd5 h2]
theorem qos {t:List Int} {b:UInt8} (a:b≠45) (c:¬isDg b):∀w∈wsT t,b∉w:=by
 intro w d;obtain⟨v,-,rfl⟩:=zb6.1 d;exact qfd a c
theorem no32:(32:UInt8)≠45/\¬isDg 32:=by unfold isDg;decide
theorem no59:(59:UInt8)≠45/\¬isDg 59:=by unfold isDg;decide
theorem qel (sep t:Bs) (l:List Bs):sepB sep (t::l)=sep++q1r sep (t::l):=by
 rw[q30];simp[sepB]
theorem qem (sep t:Bs) (l:List Bs):sepB sep (l++ [t])=sepB sep l++(sep++t):=by simp[sepB]
theorem qmy (x:qi):txA x=q1r [59,32] (Lib.itoa x.1::x.2.map fun o=>q1r [32] (wsT o.2)):=by rw[q30];rfl
theorem qn0 (x:qi):txR x=q1r [59] (Lib.itoa x.1::x.2.map fun o=>sepB [32] (wsT o.2)):=by rw[q30];rfl
theorem qnq (t:List Int):(59:UInt8)∉q1r [32] (wsT t):=fun h=>by
 rcases qe4 h with h|⟨w,a,h⟩
 .simp at h
 .exact qos no59.1 no59.2 w a h
theorem qoo (t:List Int):(59:UInt8)∉sepB [32] (wsT t):=fun h=>by
 rcases ht:wsT t with _|⟨w,l⟩
 .rw[ht]at h;simp[sepB]at h
 .rw[ht,qel,<-ht,zat]at h
  rcases h with h|h
  .simp at h
  .exact qnq t h
theorem cutA (x:qi):Lib.split (txA x) [59,32]=Lib.itoa x.1::x.2.map fun o=>q1r [32] (wsT o.2):=by
 rw[qmy];refine qcs (by simp) fun t a=>?_
 rcases zbq.1 a with rfl|a
 .exact qfd no59.1 no59.2
 .obtain⟨o,-,rfl⟩:=zb6.1 a
  exact qnq o.2
theorem cutR (x:qi):splL 59 (txR x)=Lib.itoa x.1::x.2.map fun o=>sepB [32] (wsT o.2):=by
 rw[qn0];refine qag (by simp) fun t a=>?_
 rcases zbq.1 a with rfl|a
 .exact qfd no59.1 no59.2
 .obtain⟨o,-,rfl⟩:=zb6.1 a
  exact qoo o.2
theorem cutW {t:List Int} (h:t≠ []):Lib.split (q1r [32] (wsT t)) [32]=wsT t:=
 qcs (by unfold wsT;simpa using h) (qos no32.1 no32.2)
theorem qpm (t:List Int):splL 32 (sepB [32] (wsT t))= []::wsT t:=by
 have e:sepB [32] (wsT t)=q1r [32] ([]::wsT t):=by rw[q30];rfl
 rw[e];refine qag (by simp) fun w a=>?_
 rcases zbq.1 a with rfl|a
 .simp
 .exact qos no32.1 no32.2 w a
theorem AlgP.tab_ne {x:qi} (h:AlgP x):∀o∈x.2,o.2≠ []:=fun o c e=>by
 obtain⟨d,f,g,b⟩:=h;have a:=(b o c).2.2.1;rw[e]at a;have:=Nat.pow_pos (n:=o.1.toNat) (show 0<x.1.toNat by omega);simp at a;omega
theorem qoj {t:List Int} (h:t≠ []):sepB [32] (wsT t)= [32]++q1r [32] (wsT t):=by
 rcases t with _|⟨v,l⟩
 .exact absurd rfl h
 .exact qel _ _ _
theorem qbm {n:Int}:∀ {ops:List OpM},(∀o∈ops,o.2≠ [])->sepB [59] (ops.map fun o=>sepB [32] (wsT o.2))=sepB [59,32] (ops.map fun o=>q1r [32] (wsT o.2))
 | [],_=>rfl
 | o :: l, h => by
   have ih := qbm (n := n) (ops := l) fun c a => h c (zaw _ a)
   have b := qoj (h o (za2 ..));unfold sepB at ih ⊢;rw [zcy, zcy, zc5, zcy, zcy, zc5, ih];unfold sepB at b;rw [b];rfl
theorem ql7 {x:qi} (h:AlgP x):txR x=txA x:=by
 unfold txR txA;rw[qbm (n:=x.1) h.tab_ne]
theorem qhf:∀ {a b:List OpM},(∀o∈a,o.2≠ [])->(∀o∈b,o.2≠ [])->(a.map fun o=>q1r [32] (wsT o.2))=(b.map fun o=>q1r [32] (wsT o.2))->a.map (·.2)=b.map (·.2)
 | [], [],_,_,_=>rfl
 | [],_::_,_,_,h=>by simp at h
 |_::_, [],_,_,h=>by simp at h
 | o :: a, p :: b, ha, hb, h => by
   simp only [zcy] at h;injection h with h1 h2
   have e1 := cutW (ha o (za2 ..));rw [h1, cutW (hb p (za2 ..))] at e1;rw [zcy, zcy, qd5 e1.symm, qhf (fun o c => ha o (zaw _ c)) (fun o c => hb o (zaw _ c)) h2]
theorem qa8 {n:Nat}:∀ {a b:List OpM},(∀o∈a,o.1=arL n o.2.length)->(∀o∈b,o.1=arL n o.2.length)->a.map (·.2)=b.map (·.2)->a=b
 | [], [],_,_,_=>rfl
 | [],_::_,_,_,h=>by simp at h
 |_::_, [],_,_,h=>by simp at h
 | o :: a, p :: b, ha, hb, h => by
   simp only [zcy] at h;injection h with h1 h2
   have e1 := ha o (za2 ..);have d := hb p (za2 ..);rw [h1, <- d] at e1;rw [qa8 (fun o c => ha o (zaw _ c)) (fun o c => hb o (zaw _ c)) h2, Prod.ext e1 h1]
theorem qop {x y:qi} (d:GoodA x) (e:GoodA y) (h:txA x=txA y):x=y:=by
 have b:=cutA x;rw[h,cutA y]at b;injection b with b h2
 have c:=(q7t b).symm;have f:=qhf e.1.tab_ne d.1.tab_ne h2;have a:=e.2;unfold ArP at a;rw[<-c]at a;exact Prod.ext c (qa8 d.2 a f.symm)
open Classical in
noncomputable def parA (s:ByteArray):Option qi:=if h:∃x,GoodA x/\s=mk (txA x)then some (Classical.choose h)else none
theorem qab {s:ByteArray} {x:qi} (c:GoodA x) (h:s=mk (txA x)):parA s=some x:=by
 have a:∃x,GoodA x/\s=mk (txA x):=⟨x,c,h⟩;unfold parA;rw[dif_pos a];have b:=Classical.choose_spec a;have d:mk (txA x)=mk (txA (Classical.choose a)):=h.symm.trans b.2;rw[<-qop c b.1 (q7y d)]
theorem qec {s:ByteArray} (h:∀x,GoodA x->s≠mk (txA x)):parA s=none:=by
 unfold parA;rw[dif_neg];rintro⟨x,a,b⟩;exact h x a b
theorem qkg {s:ByteArray} {x:qi} (h:parA s=some x):GoodA x/\s=mk (txA x):=by
 by_cases he:∃x,GoodA x/\s=mk (txA x)
 .obtain⟨u,a,b⟩:=he
  rw[qab a b]at h;injection h with h
  subst h;exact⟨a,b⟩
 .rw[qec fun v a b=>he ⟨v,a,b⟩]at h
  cases h
theorem GoodA.inD {x:qi} (h:GoodA x):∀o∈x.2,∀v∈o.2,InD v:=fun o b v c=>by
 obtain⟨d,e,f,a⟩:=h.1;have:=(a o b).2.2.2 v c;unfold InD;omega
def WsIs (ws:List Bs) (t:List Int):Prop:=ws=wsT t/\∀v∈t,InD v
def OpsIs (n:Nat) (ps:List Bs) (ops:List OpM):Prop:=ps.length=ops.length/\∀(k:Nat) (p:Bs) (o:OpM),ps[k]?=some p->ops[k]?=some o->WsIs (Lib.split p [32]) o.2/\o.1=arL n o.2.length
def OpsIsR (n:Nat) (ps:List Bs) (ops:List OpM):Prop:=ps.length=ops.length/\∀(k:Nat) (p:Bs) (o:OpM),ps[k]?=some p->ops[k]?=some o->(∃ws,splL 32 p= []::ws/\WsIs ws o.2)/\o.1=arL n o.2.length
theorem qhu {x:qi} (h:GoodA x):Lib.split (txA x) [59,32]=Lib.itoa x.1::(x.2.map fun o=>q1r [32] (wsT o.2))/\InD x.1/\OpsIs x.1.toNat (x.2.map fun o=>q1r [32] (wsT o.2)) x.2:=by
 refine⟨cutA x,by have:=h.1.1;have:=h.1.2.1;unfold InD;omega,by simp,fun k p o a c=>?_⟩;rw[za6,c]at a;injection a with a
 subst a;have b:=zaf c;exact⟨⟨cutW (h.1.tab_ne o b),h.inD o b⟩,h.2 o b⟩
theorem qf7 {x:qi} (h:GoodA x):splL 59 (txA x)=Lib.itoa x.1::(x.2.map fun o=>sepB [32] (wsT o.2))/\InD x.1/\OpsIsR x.1.toNat (x.2.map fun o=>sepB [32] (wsT o.2)) x.2:=by
 rw[<-ql7 h.1];refine⟨cutR x,by have:=h.1.1;have:=h.1.2.1;unfold InD;omega,by simp,fun k p o a b=>?_⟩;rw[za6,b]at a;injection a with a
 subst a;have c:=zaf b;exact⟨⟨_,qpm _,rfl,h.inD o c⟩,h.2 o c⟩
def TabP (w:World):Prop:=Tab w/\(∃m:Int,w.cell? ⟨0,0,none⟩=some (.int .i64 m))/\(∃tp p,w.var? Tryz.prog "strconv.ErrSyntax"=some #[.iface tp p])/\(∃tp p,w.var? Tryz.prog "strconv.ErrRange"=some #[.iface tp p])
theorem qhk {w w':World} {n:String} {cs:Array Value} (c:Below w.heap.size w w') (h:w.var? Tryz.prog n=some cs):w'.var? Tryz.prog n=some cs:=by
 unfold World.var? at h⊢;cases hg:Tryz.prog.globalNamed n with
 |none=>rw[hg]at h;cases h
 | some g =>
   rw [hg] at h;simp only [Option.bind_some] at h ⊢;have b : g < w.heap.size := by
     rcases zco g w.heap.size with a | a
     . exact a
     . rw [Array.getElem?_eq_none a] at h; cases h
   rw [c.block g b];exact h
theorem TabP.next {w w':World} (h:TabP w) (a:Below w.heap.size w w'):TabP w':=by
 obtain⟨b,⟨m,c⟩,⟨tp,p,d⟩,⟨f,q,e⟩⟩:=h;exact⟨b.next a,⟨m,qe a c⟩,⟨tp,p,qhk a d⟩,⟨f,q,qhk a e⟩⟩
theorem q9t (v:Int) (c:InD v) (w:World) (b:Tab w):Calls Tryz.prog 143 #[.int .i64 v] w (Bl w (.string (mk (Lib.itoa v)))):=by
 obtain⟨e,f⟩:=c;refine(Tryz.strconv_Itoa v (by omega) (by omega) w b).mono fun _ _ ⟨a,k,g,d⟩=>⟨a,?_⟩
 rw[d];exact qb1 _ _ _
theorem qc1 (v:Int) (w:World) (f: -9223372036854775808<=v/\v<=9223372036854775807) (d:Tab w):
  Calls Tryz.prog 140 #[.int .i64 v] w (fun e w'=>Below w.heap.size w w'/\((InD v/\e=.returned (.tuple #[.string (mk (Lib.itoa v)),.bool true]))\/(¬InD v/\e=.returned (.tuple #[.string ⟨#[]⟩,.bool false])))):=by
 by_cases h1:v< -999999
 .go_enter Tryz.func140,Tryz.ntmps140
  go_wp2_with fail
  go_ret2
  exact⟨zab _ _,.inr ⟨fun h=>by have:=h.1;omega,rfl⟩⟩
 .by_cases h2:999999<v
  .go_enter Tryz.func140,Tryz.ntmps140
   go_wp2_with fail
   go_ret2
   exact⟨zab _ _,.inr ⟨fun h=>by have:=h.2;omega,rfl⟩⟩
  .have hd:InD v:=⟨by omega,by omega⟩
   have b:=zaa (q9t v hd w d);have a:=zaa hd;clear hd
   go_enter Tryz.func140,Tryz.ntmps140
   go_wp2_with fail;refine b.out.mono ?_;rintro e g ⟨rfl,c⟩;go_wp2_with fail
   go_ret2
   exact⟨c,.inl ⟨a.out,rfl⟩⟩
noncomputable def rdN (s:ByteArray):Int:=(q34 s).getD 0
noncomputable def rdB (s:ByteArray):Bool:=(q34 s).isSome
theorem q7g {s:ByteArray} {v:Int} (h:q34 s=some v):rdN s=v/\rdB s=true:=by unfold rdN rdB;rw[h];exact⟨rfl,rfl⟩
theorem q3k {s:ByteArray} (h:q34 s=none):rdN s=0/\rdB s=false:=by unfold rdN rdB;rw[h];exact⟨rfl,rfl⟩
theorem q3l {s:ByteArray} {v:Int} {b:Bool} (h:rdN s=v/\rdB s=b):Ending.returned (.tuple #[.int .i64 v,.bool b])=.returned (.tuple #[.int .i64 (rdN s),.bool (rdB s)]):=by rw[h.1,h.2]
theorem qkm {s:ByteArray} {v:Int} (a:InD v) (h:s=mk (Lib.itoa v)):Lib.atoiAll s.data.toList=.ok v:=by rw[h];exact qiy a
theorem qei {s:ByteArray} (h:∀v,Lib.atoiAll s.data.toList≠ .ok v):q34 s=none:=q6w fun v a e=>h v (qkm a e)
theorem qoh {s:ByteArray} {v:Int} (h:Lib.atoiAll s.data.toList=.ok v):(InD v->s=mk (Lib.itoa v)->q34 s=some v)/\((¬InD v\/s≠mk (Lib.itoa v))->q34 s=none):=by
 refine⟨fun a c=>q39 a c,fun a=>q6w fun u b e=>?_⟩;have:=qkm b e;rw[h]at this;injection this with this
 subst this
 rcases a with a|a
 .exact a b
 .exact a e
theorem qnt:∀ {l:Bs} {v:Int},Lib.atoiAll l=.ok v-> -9223372036854775808<=v/\v<=9223372036854775807
 | [],v,h=>by cases h
 | c :: r, v, h => by
   unfold Lib.atoiAll at h;simp only at h
   split at h
   . cases h
   . cases h
   . split at h
     . cases h
     . split at h
       . cases h
       . injection h with h
         subst h
         rename_i h1 h2
         split
         . rename_i h3
           have : ¬ 9223372036854775808 < (_ : Nat) := fun a => h2 ⟨h3, a⟩
           omega
         . rename_i h3
           have : ¬ 9223372036854775808 <= (_ : Nat) := fun a => h1 ⟨h3, a⟩
           omega
theorem q8x (s:ByteArray) (w:World) (B:s.size<=1099511627776) (z:TabP w):
  Calls Tryz.prog 81 #[.string s] w (Bl w (.tuple #[.int .i64 (rdN s),.bool (rdB s)])):=by
 obtain⟨f,m,⟨tp,p,g⟩,⟨A,q,i⟩⟩:=z;cases h:Lib.atoiAll s.data.toList with
 | ok v =>
   have d := zaa (Tryz.strconv_Atoi_ok s (by omega) v h w);have k := zaa (qoh h);have r := zaa (qnt h);have x := zaa f;clear h f m g i
   go_enter Tryz.func81, Tryz.ntmps81
   go_wp2_with fail;refine d.out.mono ?_;rintro e j ⟨rfl, o⟩;have a : Below w.heap.size w j := by
     rcases o with rfl | ⟨t, rfl⟩
     . exact zab _ _
     . exact Lib.bytesWorld_below _ _ _
   clear o;go_wp2_with fail;refine (qc1 v j r.out (x.out.next a)).mono ?_;rintro e C ⟨n, y⟩;have l := q9 a n rfl
   rcases y with ⟨hd, rfl⟩ | ⟨hd, rfl⟩
   rotate_left
   . have b : Hid (q34 s = none) := k.out.2 (.inl hd)
     clear hd;go_wp2_with fail
     go_ret2
     exact ⟨q3l (q3k b.out), l⟩
   . have u := zaa hd
     clear hd;obtain ⟨t, c⟩ : ∃ t, Hid (mk (Lib.itoa v) = t) := ⟨_, rfl⟩;rw [c.out]
     by_cases he : t = s
     . have b : Hid (q34 s = some v) := k.out.1 u.out (by rw [<- he, c.out])
       have hd : (t.toList == s.toList) = true := q36 (q2e.2 he);clear he;go_wp2_with fail
       go_ret2
       exact ⟨q3l (q7g b.out), l⟩
     . have b : Hid (q34 s = none) := k.out.2 (.inr (fun e => he (by rw [e, c.out])))
       have hd : (t.toList == s.toList) = false := q36 (q72.2 he);clear he;go_wp2_with fail
       go_ret2
       exact ⟨q3l (q3k b.out), l⟩
 | «syntax» =>
   have d := zaa (Tryz.strconv_Atoi_syntax_var s (by omega) h tp p w g);have b : Hid (q34 s = none) := qei fun v e => by rw [h] at e; cases e
   clear h f m g i
   go_enter Tryz.func81, Tryz.ntmps81
   go_wp2_with fail;refine d.out.mono ?_;rintro e j ⟨N, rfl, -, -, a⟩;go_wp2_with fail
   go_ret2
   exact ⟨q3l (q3k b.out), a⟩
 | range =>
   have d := zaa (Tryz.strconv_Atoi_range_var s (by omega) h A q w i);have b : Hid (q34 s = none) := qei fun v e => by rw [h] at e; cases e
   clear h f m g i
   go_enter Tryz.func81, Tryz.ntmps81
   go_wp2_with fail;refine d.out.mono ?_;rintro e j ⟨N, rfl, -, -, a⟩;go_wp2_with fail
   go_ret2
   exact ⟨q3l (q3k b.out), a⟩
theorem q8d (v:Int) (f:InD v) (w:World):Calls Tryz.prog 156 #[.int .i64 v] w (Qt w (.string (mk (Lib.itoa v)))):=by
 obtain⟨g,i⟩:=f
 by_cases h:v<0
 .obtain⟨u,rfl⟩:∃u:Nat,v= -(u:Int):=⟨v.natAbs,by omega⟩
  have b:=q9u u (by omega);have l:1<=u:=by omega
  have c:Hid ((⟨#[45]⟩:ByteArray)++mk (Lib.decDigits u)=mk (Lib.itoa (-(u:Int)))):=by
   show _=_
   apply qau;rw[q9k,q3e h,q85,show(-(u:Int)).natAbs=u by omega];rfl
  have a:IntKind.i64.wrap (-(-(u:Int)))=(u:Int):=by rw[Int.neg_neg];exact zcg _ (by omega)
  have m:=cat (⟨#[45]⟩:ByteArray) (mk (Lib.decDigits u)) (by
   have j:=q79 (u:=u) (by omega);rw[q4b];show 1+_<=_
   omega)
  have k: -(u:Int)<0:=by omega
  have d:=zaa b;clear b
  go_enter Tryz.func156,Tryz.ntmps156
  go_wp2_with fail
  (try rw[a])
  refine(d.out w).mono ?_;rintro e n ⟨rfl,hd⟩;go_wp2_with fail;go_ret;exact⟨q8i c.out,hd⟩
 .obtain⟨u,rfl⟩:∃u:Nat,v=(u:Int):=⟨v.toNat,by omega⟩
  rw[q3f (by omega),za1];exact q9u u (by omega) w
theorem q8c:(Tryz.prog.info? 9).map (fun i=>(i.zero,i.size,i.bytes))=some (some (.string ⟨#[]⟩),1,16):=by kernel_rfl
def strs (l:List Bs):List Value:=l.map fun s=>.string (mk s)
theorem q6g (l:List Bs) (s:Bs):strs (l++ [s])=strs l++ [.string (mk s)]:=by simp[strs]
def RSb (_:World) (v:Value) (x:Bs):Prop:=v=.string (mk x)
theorem q82:Stab RSb:=fun _ _ _ _ _ h=>h
def SplAt (b:UInt8) (l:Bs) (out:List Bs) (q i:Nat):Prop:=out++splL b (l.drop q)=splL b l/\∀j,q<=j->j<i->l[j]?≠some b
theorem SplAt.start (b:UInt8) (l:Bs):SplAt b l [] 0 0:=⟨by simp,fun j _ h=>by omega⟩
theorem SplAt.skip {b:UInt8} {l:Bs} {a:List Bs} {q i:Nat} (h:SplAt b l a q i) (hi:l[i]?≠some b):SplAt b l a q (i+1):=by
 refine⟨h.1,fun j d e=>?_⟩
 rcases zco j i with c|c
 .exact h.2 j d c
 .have:j=i:=by omega
  subst this;exact hi
theorem q5m {b:UInt8} {l:Bs} {q i:Nat} (h:∀j,q<=j->j<i->l[j]?≠some b):b∉(l.drop q).take (i - q):=fun c=>by
 obtain⟨j,a⟩:=zbh c;rw[zdx]at a
 split at a
 .rw[zda]at a
  exact h (q+j) (by omega) (by omega) a
 .cases a
theorem SplAt.cut {b:UInt8} {l:Bs} {a:List Bs} {q i:Nat} (h:SplAt b l a q i) (m:q<=i) (hi:l[i]?=some b):SplAt b l (a++ [(l.drop q).take (i - q)]) (i+1) (i+1):=by
 refine⟨?_,fun j c f=>by omega⟩;have d:=(zag.1 hi).1;have e:l.drop q=(l.drop q).take (i - q)++b::l.drop (i+1):=by
  have c:=zcw (i - q) (l.drop q);rw[List.drop_drop,show q+(i - q)=i by omega,zbd d]at c;have f:l[i]=b:=(zag.1 hi).2;rw[f]at c;exact c.symm
 have g:=q5m h.2;obtain⟨X,k⟩:∃X,X=(l.drop q).take (i - q):=⟨_,rfl⟩;rw[<-k]at e g⊢;rw[<-h.1,e,qcr g];simp
theorem SplAt.done {b:UInt8} {l:Bs} {a:List Bs} {q i:Nat} (h:SplAt b l a q i) (hi:l.length<=i):splL b l=a++ [l.drop q]:=by
 rw[<-h.1,qg6];intro d;obtain⟨j,c⟩:=zbh d;rw[zda]at c;have:=(zag.1 c).1;exact h.2 (q+j) (by omega) (by omega) c
theorem qoi {A:Option Addr} {n m c:Nat} (h:n=m):Ending.returned (.slice A n c)=.returned (.slice A m c):=by rw[h]
def qd6 (w:World) (l:List Bs) (e:Ending) (w':World):Prop:=∃A c,e=.returned (.slice A l.length c)/\RdL RSb w' A l.length l/\Below w.heap.size w w'
def qiq (w:World) (l:List Bs) (e:Ending) (w':World):Prop:=∃A c,e=.returned (.slice A l.length c)/\w'.ownsRow w.heap.size 9 1 (.slice A l.length c) l.length (strs l)/\Below w.heap.size w w'/\l.length<=maxLen
theorem qbe {w w':World} {j t e m p B o A:Nat} {q r:Value} {s C:List Value} (n:w.ownsRow j e p q o s) (u:w.ownsRow t m B r A C) (x:e≠m) (y:w.grownBy w' r.ownBlock):w'.ownsRow j e p q o s:=by
 refine⟨n.1,?_⟩
 rcases n.2 with h|⟨g,c,d,z,v,f,b⟩
 .exact .inl h
 .refine .inr ⟨g,c,d,z,v,?_,b⟩
  rw[y.block g (zd8.1 f).1 ?_]
  .exact f
  .intro i
   rcases u.2 with⟨rfl,-⟩|⟨D,k,l,rfl,-,a,-⟩
   .simp[Value.ownBlock]at i
   .simp only[Value.ownBlock,zdh]at i
    subst i;rw[f]at a;injection a with a
    injection a with _ h3 _
    exact x h3
theorem qad {w:World} {base n c:Nat} {A:Option Addr} {l:List Bs} (d:n<=maxLen) (h:w.ownsRow base 9 1 (.slice A n c) n (strs l)) (b:l.length=n):RdL RSb w A n l:=by
 obtain⟨g,i,e,f⟩:=RdL.ofOwn (R:=RSb) d h b (fun k x a=>⟨.string (mk x),by simp[strs,a],rfl⟩);injection e with e1 e2 e3
 subst e1;exact f
theorem q5j (s:ByteArray) (b:UInt8) (c:Int) (u:(b.toNat:Int)=c) (w:World) (M:s.size<=1073741824):
  Calls Tryz.prog 94 #[.string s,.int .u8 c] w (qiq w (splL b (bs s))):=by
 subst u
 go_enter Tryz.func94,Tryz.ntmps94
 go_wp2
 go_loopw [5,6,7] (fun v f i wr=>∃(k q m:Nat) (out:List Bs) (A:Option Addr) (c:Nat),k<=s.size/\q<=k/\m<=k/\i=.int .i64 k/\f=.int .i64 q/\v=.slice A m c/\out.length=m/\wr.ownsRow w.heap.size 9 1 (.slice A m c) m (strs out)/\SplAt b (bs s) out q k/\Below w.heap.size w wr) (fun _ _ i _=>s.size - (intOf i).toNat)
 case atStart=>exact⟨0,0,0, [],_,_,zah _,zad _,zad _,rfl,rfl,rfl,rfl,zby _ _ _ (zad _) (zah _) rfl,SplAt.start _ _,qm _ _⟩
 case round=>
  obtain⟨k,q,m,out,A,c,L,z,J,rfl,rfl,rfl,l,e,H,o⟩:=hrel;have g:=zaa l;clear l;have d:=o.size
  by_cases hlt:k<s.size
  .have C:Hid ((bs s)[k]?=some s[k]):=by
    show(s.data.toList)[k]?=_;rw[zae (by exact hlt)];rfl
   rcases hb:((s[k].toNat:Int)==(b.toNat:Int))with _|_
   .have E:Hid ((bs s)[k]?≠some b):=by
     show ¬_
     rw[C.out];rintro h;injection h with h
     rw[h]at hb;simp at hb
    go_wp2
    go_roundw
    case rel=>exact⟨k+1,q,m,out,A,c,by omega,by omega,by omega,by go_num,rfl,rfl,g.out,e,H.skip E.out,o⟩
    case measure=>simp[intOf];omega
   .have F:Hid ((bs s)[k]?=some b):=by
     show _=_
     rw[C.out];have:s[k].toNat=b.toNat:=by have:=zdp.1 hb;omega
     rw[UInt8.toNat_inj.1 this]
    have r:Hid (s.extract q k=mk (((bs s).drop q).take (k - q))):=by
     show _=_
     apply qau;rw[q5z]
    have y:(0:Int)<=(q:Int):=by omega
    have n:(q:Int)<=(k:Int):=by omega
    have G:(0:Int)<=(k:Int):=by omega
    have I:(k:Int)<=(s.size:Int):=by omega
    go_wp2_with (at_builtin;refine app1 wr rfl _ _ 117 9 rfl (.string ⟨#[]⟩) 16 zfd q8c rfl (by decide) w.heap.size m c A (strs out) rfl e (.string (s.extract q k)) rfl rfl (by omega) d ?_;intro p t K a x j)
    go_roundw
    case rel=>exact⟨k+1,k+1,m+1,out++ [((bs s).drop q).take (k - q)],p,t,by omega,by omega,by omega,by go_num,by go_num,rfl,by rw[zbl,g.out];rfl,by rw[q6g,<-r.out];exact a,H.cut z F.out,o.trans j⟩
    case measure=>simp[intOf];omega
  .obtain rfl:k=s.size:=by omega
   have r:Hid (s.extract q s.size=mk ((bs s).drop q)):=by
    show _=_
    apply qau;rw[q5z,zaq (by rw[zcq,q7i];omega)]
   have B:=zaa (H.done (zad _));have y:(0:Int)<=(q:Int):=by omega
   have n:(q:Int)<=(s.size:Int):=by omega
   go_wp2_with (at_builtin;refine app1 wr rfl _ _ 117 9 rfl (.string ⟨#[]⟩) 16 zfd q8c rfl (by decide) w.heap.size m c A (strs out) rfl e (.string (s.extract q s.size)) rfl rfl (by omega) d ?_;intro p t K a x j)
   go_ret;have D:(splL b (bs s)).length=m+1:=by rw[B.out,zbl,g.out];rfl
   refine⟨p,t,qoi D.symm,?_,o.trans j,by unfold maxLen;omega⟩;rw[D];rw[B.out,q6g,<-r.out];exact a
theorem q9v (s:ByteArray) (b:UInt8) (c:Int) (a:(b.toNat:Int)=c) (w:World) (h:s.size<=1073741824):
  Calls Tryz.prog 94 #[.string s,.int .u8 c] w (qd6 w (splL b (bs s))):=by
 refine(q5j s b c a w h).mono ?_;rintro e w' ⟨A,c,rfl,g,d,f⟩;exact⟨A,c,rfl,qad f g rfl,d⟩
theorem q6z (s sep:ByteArray):(Lib.splitB sep 0 (Lib.countB s sep) s).map bs=Lib.split (bs s) (bs sep):=Lib.splitB_data sep 0 _ s
theorem q86 (s sep:ByteArray) (c:1<=sep.size):(Lib.splitB sep 0 (Lib.countB s sep) s).length=Lib.countB s sep+1:=by
 have b:∀(k:Nat) (t:ByteArray),Lib.countB t sep=k->(Lib.splitB sep 0 k t).length=k+1:=by
  intro k
  induction k with
  |zero=>intro t _;rfl
  | succ k ih =>
    intro t a
    rcases Lib.indexB_cases t sep with h | ⟨i, h, -⟩
    . rw [Lib.countB_miss _ _ h] at a
      cases a
    . rw [Lib.countB_hit _ _ i c h] at a
      rw [Lib.splitB_hit _ _ _ _ i h, za0, ih _ (by omega)]
 exact b _ s rfl
theorem q81 (s sep:ByteArray) (w:World) (l:s.size<=1073741824) (d:1<=sep.size) (i:TabP w):
  Calls Tryz.prog 80 #[.string s,.string sep] w fun e w'=>e=.returned (.slice (some ⟨w.heap.size,0,none⟩) (Lib.split (bs s) (bs sep)).length (Lib.split (bs s) (bs sep)).length)/\RdL RSb w' (some ⟨w.heap.size,0,none⟩) (Lib.split (bs s) (bs sep)).length (Lib.split (bs s) (bs sep))/\Below w.heap.size w w':=by
 obtain⟨-,⟨m,h⟩,-⟩:=i;have a:(Lib.split (bs s) (bs sep)).length=Lib.countB s sep+1:=by rw[<-q6z,zcv,q86 _ _ d]
 have j:Lib.countB s sep<=s.size+1:=Lib.count_le _ _;refine(Tryz.strings_Split s sep m w (by omega) h d).mono ?_;rintro e w' ⟨rfl,rfl⟩;rw[a];have g:=qm w (.cells ((Lib.splitB sep 0 (Lib.countB s sep) s).map Value.string).toArray 9);refine⟨rfl,?_,g⟩;have f:=Blk.new w 9 ((Lib.splitB sep 0 (Lib.countB s sep) s).map Value.string).toArray;refine⟨a,by unfold maxLen;omega,fun k x b=>⟨w.heap.size,0,.string (mk x),rfl,?_,rfl⟩⟩;have c:=f.cell k;rw[zcm,c];rw[<-q6z,za6]at b;rw[List.getElem?_toArray,za6];cases hq:(Lib.splitB sep 0 (Lib.countB s sep) s)[k]? with
 |none=>rw[hq]at b;cases b
 | some t =>
   rw [hq] at b;injection b with b
   rw [<- b, qmi];rfl
theorem qpj (l:Bs):(tl l).length<=l.length:=by
 unfold tl
 split
 .rw[zcq];omega
 .exact zad _
theorem q8f (s:ByteArray) (w:World) (hs:s.size<=1099511627776):Calls Tryz.prog 95 #[.string s] w (Qt w (.tuple #[.int .i64 (rdN s),.bool (rdB s)])):=by
 obtain⟨T,l⟩:∃T,Hid (bs T=tl (bs s)):=⟨mk (tl (bs s)),rfl⟩;have I:T.size<=s.size:=by
  have:=qpj (bs s);rw[<-l.out]at this;exact this
 have Q:=zaa I;have d:Hid (mk (bs s)=s):=qmi s;have x:(bs T).length=T.size:=rfl;have z:(bs s).length=s.size:=rfl;have o:=zaa (zap x z);clear x z
 go_enter Tryz.func95,Tryz.ntmps95
 go_upto_region 2 with fail;obtain⟨p,g⟩:∃p,Hid ((decide (1<s.size) &&decide ((bs s)[0]?=some 45))=p):=⟨_,zaa rfl⟩
 go_cut [15]from 8 to 15 (fun u15 wx=>u15=.bool p/\w=wx)
 case first=>
  by_cases h1:(1:Int)<(s.size:Int)
  .have R:0<s.size:=by omega
   have B:(bs s)[0]?=some s[0]:=by
    show(s.data.toList)[0]?=_;rw[zae (by exact R)];rfl
   rcases hb:((s[0].toNat:Int)==45)with _|_
   .have e:p=false:=by
     rw[<-g.out,B];have:¬(some s[0]=some (45:UInt8)):=fun v=>by
      injection v with v
      rw[v]at hb;simp at hb
     rw[zbn this,zd9]
    clear B;go_wp2_with fail;go_meet;exact⟨by rw[e],rfl⟩
   .have e:p=true:=by
     rw[<-g.out,B];have v:s[0].toNat=45:=by have:=zdp.1 hb;omega
     have S:s[0]=45:=UInt8.toNat_inj.1 v;rw[S];simp;omega
    clear B;go_wp2_with fail;go_meet;exact⟨by rw[e],rfl⟩
  .have e:p=false:=by rw[<-g.out,zbn (show ¬ 1<s.size by omega)];rfl
   go_wp2_with fail;go_meet;exact⟨by rw[e],rfl⟩
 case rest=>
 obtain⟨rfl,rfl⟩:=hcut
 go_upto_if 15 with fail
 go_cut [4]from 16 to 17 (fun u4 wx=>u4=.string T/\w=wx)
 case first=>
  rcases p with _|_
  .have E:Hid (¬(1<(bs s).length/\(bs s)[0]?=some 45)):=fun h=>by
    have:=g.out;rw[zbm (show 1<s.size from h.1),zbm h.2]at this;cases this
   go_wp2_with fail;go_meet;refine⟨?_,rfl⟩;have e:tl (bs s)=bs s:=by unfold tl;rw[zaj E.out]
   rw[q8o (l.out.trans e)]
  .have L:Hid (1<(bs s).length/\(bs s)[0]?=some 45):=by
    have:=g.out;rw[za4,zbt,zbt]at this;exact this
   have V:(1:Int)<=(s.size:Int):=by have:=L.out.1;have:=o.out.2;omega
   go_wp2_with fail;go_meet;refine⟨?_,rfl⟩;have e:tl (bs s)=(bs s).drop 1:=by unfold tl;rw[zao L.out]
   have A:s.extract 1 s.size=T:=by
    apply q8o;rw[q5z,l.out,e,zaq (by rw[zcq];show s.size - 1<=_;omega)]
   rw[A]
 case rest=>
  obtain⟨rfl,rfl⟩:=hcut
  by_cases hin:1<=T.size/\T.size<=6
  .have D:Hid (inB (T.size:Int) 1 6=true):=by show _=_;unfold inB;simp;omega
   have U:T.size<=6:=hin.2;go_upto_region 4 with fail
   go_wp2_with (go_at_call 68;refine(q1w _ _ _ _).mono ?_;rintro e w' ⟨rfl,rfl⟩;rw[D.out])
   go_loop [5,6] (fun n i=>∃(k q:Nat),k<=T.size/\i=.int .i64 k/\n=.int .i64 q/\q<=999999/\Hid (DvAt (bs T) k q)) (fun _ i=>T.size - (intOf i).toNat)
   case atStart=>exact⟨0,0,zah _,rfl,rfl,by omega,zaa (DvAt.start _)⟩
   case round=>
    obtain⟨k,q,Z,rfl,rfl,hq,H⟩:=hrel
    by_cases hlt:k<T.size
    .have C:Hid ((bs T)[k]?=some T[k]):=by
      show(T.data.toList)[k]?=_;rw[zae (by exact hlt)];rfl
     by_cases hd:isDg T[k]
     .have F:¬(T[k].toNat:Int)<48:=by unfold isDg at hd;omega
      have G:¬(57:Int)<(T[k].toNat:Int):=by unfold isDg at hd;omega
      have E:=zaa (H.out.step C.out hd);have y:=H.out.step C.out hd;have J:=y.bd (by have:=o.out.1;omega);have M:IntKind.u8.wrap ((T[k].toNat:Int) - 48)=(T[k].toNat:Int) - 48:=by have:=T[k].toNat_lt;unfold IntKind.wrap;simp[IntKind.bits,IntKind.signed];omega
      have A:IntKind.i64.wrap ((T[k].toNat:Int) - 48)=(T[k].toNat:Int) - 48:=zcg _ (by have:=T[k].toNat_lt;omega);have N:IntKind.i64.wrap (10*(q:Int))=10*(q:Int):=zcg _ (by omega);have O:IntKind.i64.wrap (10*(q:Int)+((T[k].toNat:Int) - 48))=((10*q+(T[k].toNat - 48):Nat):Int):=by
       rw[zcg _ (by have:=T[k].toNat_lt;omega)];push_cast;omega
      clear y;go_wp2_with fail
      go_round
      case rel=>exact⟨k+1,_,by omega,by go_num,by first|rfl|rw[M,A,N,O]|simp[M,A,N,O],J,E⟩
      case measure=>simp[intOf];omega
     .have f:Hid (rdN s=0/\rdB s=false):=q3k (by
       rw[<-d.out]
       exact qkk (c:=T[k]) (by rw[<-l.out];exact zaf C.out) hd)
      by_cases F:(T[k].toNat:Int)<48
      .go_wp2_with fail
       go_ret2
       exact⟨q3l f.out,(by first|exact Drawn.zero _|exact Drawn.at_ _ _|exact(Drawn.at_ _ _).more _|exact((Drawn.at_ _ _).more _).more _)⟩
      .have G:(57:Int)<(T[k].toNat:Int):=by unfold isDg at hd;omega
       go_wp2_with fail
       go_ret2
       exact⟨q3l f.out,(by first|exact Drawn.zero _|exact Drawn.at_ _ _|exact(Drawn.at_ _ _).more _|exact((Drawn.at_ _ _).more _).more _)⟩
    .obtain rfl:k=T.size:=by omega
     have K:Hid (DvAt (tl (bs s)) (tl (bs s)).length q):=by
      show DvAt _ _ _
      rw[<-l.out];have:=H.out;rw[<-o.out.1]at this;exact this
     obtain⟨m,u⟩:∃m,Hid (sgn (bs s) q=m):=⟨_,zaa rfl⟩;have P:InD m:=by rw[<-u.out];unfold sgn InD;split<;>omega
     have b:=zaa (q8d m P);obtain⟨X,t⟩:∃X,Hid (mk (Lib.itoa m)=X):=⟨_,zaa rfl⟩;have a:Hid ((X=s->rdN s=m/\rdB s=true)/\(X≠s->rdN s=0/\rdB s=false)):=by
      refine⟨fun e=>q7g ?_,fun e=>q3k ?_⟩
      .have h:=qmr K.out (by rw[<-l.out];have:=o.out.1;omega) (by rw[u.out];apply q7y;rw[t.out,d.out];exact e)
       rw[d.out,u.out]at h;exact h
      .have h:=qkl K.out (by rw[u.out];intro h;apply e;rw[<-t.out,h,d.out])
       rw[d.out]at h;exact h
     have j:Hid (m=if T.size<s.size then -(q:Int)else q):=by
      show _=_
      rw[<-u.out];unfold sgn;rw[<-l.out,o.out.1,o.out.2]
     clear P
     by_cases hl:(T.size:Int)<(s.size:Int)
     .have e:m= -(q:Int):=by rw[j.out,zao (by omega)]
      have W:IntKind.i64.wrap (-(q:Int))= -(q:Int):=zcg _ (by omega);rw[e]at b a t;clear e j;go_wp2_with fail
      (try rw[W])
      refine(b.out w).mono ?_;rintro e Y ⟨rfl,hd⟩;rw[t.out]
      by_cases he:X=s
      .have r:(X.toList==s.toList)=true:=q36 (q2e.2 he)
       have f:=zaa (a.out.1 he);clear he;go_wp2_with fail
       go_ret2
       exact⟨q3l f.out,hd⟩
      .have r:(X.toList==s.toList)=false:=q36 (q72.2 he)
       have f:=zaa (a.out.2 he);clear he;go_wp2_with fail
       go_ret2
       exact⟨q3l f.out,hd⟩
     .have e:m=(q:Int):=by rw[j.out,zaj (by omega)]
      rw[e]at b a t;clear e j;go_wp2_with fail;refine(b.out w).mono ?_;rintro e Y ⟨rfl,hd⟩;rw[t.out]
      by_cases he:X=s
      .have r:(X.toList==s.toList)=true:=q36 (q2e.2 he)
       have f:=zaa (a.out.1 he);clear he;go_wp2_with fail
       go_ret2
       exact⟨q3l f.out,hd⟩
      .have r:(X.toList==s.toList)=false:=q36 (q72.2 he)
       have f:=zaa (a.out.2 he);clear he;go_wp2_with fail
       go_ret2
       exact⟨q3l f.out,hd⟩
  .have D:Hid (inB (T.size:Int) 1 6=false):=by
    show _=_
    unfold inB;rw[Bool.and_eq_false_iff,zd5,zd5];omega
   have f:Hid (rdN s=0/\rdB s=false):=q3k (by
    rw[<-d.out]
    exact qkj (by rw[<-l.out,o.out.1];exact hin))
   go_upto_region 4 with fail
   go_wp2_with (go_at_call 68;refine(q1w _ _ _ _).mono ?_;rintro e w' ⟨rfl,rfl⟩;rw[D.out])
   go_ret2
   exact⟨q3l f.out,(by first|exact Drawn.zero _|exact Drawn.at_ _ _|exact(Drawn.at_ _ _).more _|exact((Drawn.at_ _ _).more _).more _)⟩
theorem qey (m n:Nat) (w:World) (p:n<=8):Calls Tryz.prog 82 #[.int .i64 m,.int .i64 n] w (fun e w'=>e=.returned (.int .i64 (arL n m))/\w=w'):=by
 go_enter Tryz.func82,Tryz.ntmps82
 go_wp2_with fail
 go_loop [5] (fun i=>∃k:Nat,k<=4/\i=.int .i64 k/\Hid (∀j,j<k->n ^ j≠m)) (fun i=>4 - (intOf i).toNat)
 case atStart=>exact⟨0,zah _,rfl,zaa (fun j f=>absurd f (Nat.not_lt_zero _))⟩
 case round=>
  obtain⟨k,s,rfl,H⟩:=hrel
  by_cases h4:k<4
  .have q:(k:Int)<=3:=by omega
   obtain⟨r,c⟩:∃r,Hid (n ^ k=r):=⟨_,zaa rfl⟩;have g:=c.out;have d:=zaa (qeh n k r w g p (by omega));clear g
   by_cases he:r=m
   .have b:Hid (((k:Nat):Int)=arL n m):=by
     show _=_
     have a:=H.out;have e:=c.out.trans he;unfold arL;obtain rfl|rfl|rfl|rfl:k=0\/k=1\/k=2\/k=3:=by omega
     .rw[zao e];rfl
     .rw[zaj (a 0 (by omega)),zao e];rfl
     .rw[zaj (a 0 (by omega)),zaj (a 1 (by omega)),zao e];rfl
     .rw[zaj (a 0 (by omega)),zaj (a 1 (by omega)),zaj (a 2 (by omega)),zao e];rfl
    have o:((r:Int)==(m:Int))=true:=by rw[zdp];omega
    clear he
    go_wp2_with (go_at_call 141;refine d.out.mono ?_;rintro e w' ⟨rfl,rfl⟩)
    go_ret;exact⟨q11 b.out,rfl⟩
   .have l:Hid (∀j,j<k+1->n ^ j≠m):=fun j f=>by
     rcases zco j k with h|h
     .exact H.out j h
     .obtain rfl:j=k:=by omega
      rw[c.out];exact he
    have o:((r:Int)==(m:Int))=false:=by rw[zbi];omega
    clear he
    go_wp2_with (go_at_call 141;refine d.out.mono ?_;rintro e w' ⟨rfl,rfl⟩)
    go_round
    case rel=>exact⟨k+1,by omega,by go_num,l⟩
    case measure=>simp[intOf];omega
  .obtain rfl:k=4:=by omega
   have b:Hid ((-1:Int)=arL n m):=by
    show _=_
    have a:=H.out;unfold arL;rw[zaj (a 0 (by omega)),zaj (a 1 (by omega)),zaj (a 2 (by omega)),zaj (a 3 (by omega))]
   go_wp2_with fail;go_ret;exact⟨q11 b.out,rfl⟩
theorem qhy (sep t:Bs) {l:List Bs} (h:l≠ []):q1r sep (l++ [t])=q1r sep l++(sep++t):=by
 rcases l with _|⟨u,l⟩
 .exact absurd rfl h
 .rw[List.cons_append,q30,q30,qem,zec]
theorem qhn {V:List Int} {k:Nat} {v:Int} (h:V[k]?=some v):wsT (V.take (k+1))=wsT (V.take k)++ [Lib.itoa v]:=by
 rw[zbj,h];simp[wsT]
theorem q6x {sep:Bs} {m:Nat}:∀ {l:List Bs},(∀t∈l,t.length<=m)->(sepB sep l).length<=l.length*(sep.length+m)
 | [],_=>by simp[sepB]
 | t :: l, h => by
   have ih := q6x (sep := sep) fun b a => h b (zaw _ a)
   have c := h t (za2 ..);have e : sepB sep (t :: l) = (sep ++ t) ++ sepB sep l := by simp [sepB]
   rw [e, zbl, zbl, za0, zel];omega
theorem qdl {sep:Bs} {m:Nat} {l:List Bs} (h:∀t∈l,t.length<=m):(q1r sep l).length<=l.length*(sep.length+m):=by
 rcases l with _|⟨t,l⟩
 .simp[q1r]
 .have c:=h t (za2 ..)
  have d:=q6x (sep:=sep) fun b a=>h b (zaw _ a)
  rw[q30,zbl,za0,zel];omega
theorem qhm {V:List Int} (h:∀v∈V,InD v):∀t∈wsT V,t.length<=7:=fun t a=>by
 obtain⟨v,b,rfl⟩:=zb6.1 a;exact q5i (h v b)
theorem qd4 (b:Nat) (l:Bs) (A:Option Addr) (n c:Nat) (V:List Int) (sep:ByteArray) (w:World) (h:Bd w b l) (S:∀wz,Below b w wz->RdL RI wz A n V) (Q:∀v∈V,InD v) (ht:∀wz,Below b w wz->Tab wz) (hn:n<=1000) (hs:sep.size<=10) (hl:l.length<=900000000):
  Calls Tryz.prog 144 #[.pointer (some ⟨b,0,none⟩),.slice A n c,.string sep] w fun e w'=>e=.returned (.tuple #[])/\Bd w' b (l++q1r (bs sep) (wsT V))/\Kb b w w':=by
 have HV:=zaa S;have HD:=zaa Q;have M:=zaa ht;have m:V.length=n:=(S w (zab _ _)).len;have D:=zaa m;have B:Hid (Bd w b (l++q1r (bs sep) (wsT (V.take 0)))):=by show Bd _ _ _;rw[zc4];simpa[wsT,q1r]using h
 have L:Hid (∀k,k<=n->(l++q1r (bs sep) (wsT (V.take k))).length<=900017000):=fun k hk=>by
  have h1:=qdl (sep:=bs sep) (qhm (V:=V.take k) fun v hv=>Q v (zbu hv));rw[q5x,za8]at h1;have h2:min k V.length*((bs sep).length+7)<=1000*17:=zcj (by omega) (by show sep.size+7<=17;omega);rw[zbl];omega
 clear S Q ht m h
 go_enter Tryz.func144,Tryz.ntmps144
 go_wp2_with fail
 go_loopw [10] (fun i wr=>∃k:Nat,k<=n/\i=.int .i64 (k:Int)/\Bd wr b (l++q1r (bs sep) (wsT (V.take k)))/\Kb b w wr) (fun i _=>n - (intOf i).toNat)
 case atStart=>exact⟨0,zah _,rfl,B.out,Kb.refl _ _⟩
 case round=>
  clear B;obtain⟨k,hk,rfl,a,d⟩:=hrel
  by_cases hlt:k<n
  .have hk0:(0:Int)<=(k:Int):=by omega
   have hk1:(k:Int)<(n:Int):=by omega
   obtain⟨bb,o,u,v,rfl,hc,⟨rfl,hv0,hv1⟩,-,g⟩:=(HV.out wr d.1).at hlt;have G:=HD.out v (zaf g);have E:=zaa (qhn g);obtain⟨q,J⟩:∃s,Hid (mk (Lib.itoa v)=s):=⟨_,rfl⟩;have zN:q.size<=7:=by rw[<-J.out];exact q5i G
   have x:bs q=Lib.itoa v:=by rw[<-J.out];rfl
   have C:=zaa x;have Z:Hid (∀wz,Below b w wz->Calls Tryz.prog 143 #[.int .i64 v] wz (Bl wz (.string q))):=fun wz H=>by
    have:=q9t v G wz (M.out wz H)
    rwa [J.out]at this
   obtain⟨P,K⟩:∃P,Hid (l++q1r (bs sep) (wsT (V.take k))=P):=⟨_,rfl⟩;have U:=L.out k hk;rw[K.out]at a U
   by_cases H:k=0
   .have p:Hid (l++q1r (bs sep) (wsT (V.take (k+1)))=P++bs q):=by
     show _=_
     rw[E.out,C.out,<-K.out,H];simp[wsT,q1r]
    have X:¬(0:Int)<(k:Int):=by omega
    clear x H g;go_wp2_with fail;refine(Z.out wr d.1).mono ?_;rintro e Y ⟨rfl,f⟩;have r:=a.next f;have y:=d.trans (qji a.lt f);have N:=zaa (q2r b P q Y r (by omega));go_wp2_with fail;refine N.out.mono ?_;rintro e w2 ⟨rfl,t,z⟩;go_wp2_with fail
    go_roundw
    case rel=>exact⟨k+1,by omega,by go_num,by rw[p.out];exact t,y.trans z⟩
    case measure=>simp[intOf];omega
   .have p:Hid (l++q1r (bs sep) (wsT (V.take (k+1)))=(P++bs sep)++bs q):=by
     show _=_
     have T:wsT (V.take k)≠ []:=fun e=>by
      have:=zav List.length e;rw[q5x,za8,D.out]at this;simp at this;omega
     rw[E.out,C.out,<-K.out,qhy _ _ T];simp[zec]
    have X:(0:Int)<(k:Int):=by omega
    have O:=zaa (q2r b P sep wr a (by omega));have W:(bs sep).length=sep.size:=rfl;clear x H g;go_wp2_with fail;refine O.out.mono ?_;rintro e w0 ⟨rfl,F,R⟩;have j:=d.trans R;go_wp2_with fail;refine(Z.out w0 j.1).mono ?_;rintro e Y ⟨rfl,f⟩;have r:=F.next f;have y:=j.trans (qji F.lt f);have N:=zaa (q2r b (P++bs sep) q Y r (by rw[zbl,W];omega));go_wp2_with fail;refine N.out.mono ?_;rintro e w2 ⟨rfl,t,z⟩;go_wp2_with fail
    go_roundw
    case rel=>exact⟨k+1,by omega,by go_num,by rw[p.out];exact t,y.trans z⟩
    case measure=>simp[intOf];omega
  .obtain rfl:k=n:=by omega
   have HE:Hid (V.take k=V):=zaq (by rw[D.out];exact zad _);rw[HE.out]at a;have I:=zaa a;clear a;go_wp2_with fail
   go_end0
   exact⟨rfl,I.out,d⟩
theorem qmz {x:qi} {k:Nat} {o:OpM} (h:x.2[k]?=some o):Lib.itoa x.1++sepB [59,32] ((x.2.take (k+1)).map fun o=>q1r [32] (wsT o.2))=(Lib.itoa x.1++sepB [59,32] ((x.2.take k).map fun o=>q1r [32] (wsT o.2))++ [59,32])++q1r [32] (wsT o.2):=by
 rw[zbj,h];simp[sepB,zec]
theorem AlgP.inD {x:qi} (h:AlgP x):InD x.1/\∀o∈x.2,o.2.length<=512/\∀v∈o.2,InD v:=by
 obtain⟨j,k,l,a⟩:=h;refine⟨by unfold InD;omega,fun o b=>⟨?_,fun v d=>?_⟩⟩
 .obtain⟨e,f,c,-⟩:=a o b
  rw[c];have g:x.1.toNat ^ o.1.toNat<=8 ^ o.1.toNat:=Nat.pow_le_pow_left (by omega) _;have i:8 ^ o.1.toNat<=8 ^ 3:=Nat.pow_le_pow_right (by decide) (by omega);omega
 .have:=(a o b).2.2.2 v d
  unfold InD;omega
theorem qoq {x:qi} (h:AlgP x) (k:Nat):(Lib.itoa x.1++sepB [59,32] ((x.2.take k).map fun o=>q1r [32] (wsT o.2))).length<=100000:=by
 have hd:=h.inD;have f:=q5i hd.1;have c:∀t∈(x.2.take k).map fun o=>q1r [32] (wsT o.2),t.length<=4096:=fun t e=>by
  obtain⟨o,d,rfl⟩:=zb6.1 e;have a:=hd.2 o (zbu d);have b:=qdl (sep:= [32]) (qhm a.2);rw[q5x]at b;have g:o.2.length*(([32]:Bs).length+7)<=512*8:=zcj a.1 (zad _);omega
 have a:=q6x (sep:= [59,32]) c;rw[zcv,za8]at a;have b:min k x.2.length*(([59,32]:Bs).length+4096)<=4*4098:=zcj (by have:=h.2.2.1;omega) (zad _);rw[zbl];omega
theorem q9j (cs:List Value) (x:qi) (w:World) (h:qf.rd w cs x) (Z:AlgP x) (ht:Tab w):Calls Tryz.prog 83 #[.agg cs.toArray] w (Bl w (.string (mk (txA x)))):=by
 have hrd:=h;obtain⟨B,n,d,rfl,-,qo⟩:=qv h;have hle:=qo.le;have HLN:=zaa qo.len;have HD:=zaa Z.inD;obtain⟨H,X,L,u,BP⟩:=q16 w #[.int .i64 x.1,.slice B n d] 24;obtain⟨g,r⟩:∃wb,wb=H.alloc (.cells #[.pointer none,.slice none 0 0] 166):=⟨_,rfl⟩;have b:Below H.heap.size H g:=by rw[r];exact qm _ _
 have T1:=q9 L b rfl;have C:Bd g H.heap.size []:=by rw[r];exact Bd.new _
 have D:H.heap.size=w.heap.size+1:=u;rw[D]at C;have cP0:=(BP.next b).cell 0;have A:=(BP.next b).cell 1;simp at cP0 A;have HW:Hid (g=(w.alloc (.cells #[.int .i64 x.1,.slice B n d] 24)).alloc (.cells #[.pointer none,.slice none 0 0] 166)):=by show _=_;rw[r,X]
 have j:Hid (∀a,Below (w.heap.size+1) g a->Below H.heap.size H a):=fun a f=>by rw[<-D]at f;exact b.trans f
 have HQ0:=zaa (qo.next L);have K:Hid (∀a,Below (w.heap.size+1) g a->Tab a):=fun a f=>(ht.next L).next (j.out a f)
 have hbw:w.heap.size+1<=g.heap.size:=by have:=C.lt;omega
 have W:w.heap.size<w.heap.size+1:=by omega
 have J:Hid (∀a,Below (w.heap.size+1) g a->Below w.heap.size w a):=fun a f=>q9 L (j.out a f) rfl
 obtain⟨S,HS⟩:∃s,Hid (mk (Lib.itoa x.1)=s):=⟨_,rfl⟩;have zS:S.size<=7:=by rw[<-HS.out];exact q5i Z.inD.1
 have HI:Hid (Calls Tryz.prog 143 #[.int .i64 x.1] g (Bl g (.string S))):=by
  have:=q9t x.1 Z.inD.1 g (K.out g (zab _ _))
  rwa [HS.out]at this
 have HPX:Hid (bs S=Lib.itoa x.1):=by show _=_;rw[<-HS.out];rfl
 have v:Hid (∀k,(Lib.itoa x.1++sepB [59,32] ((x.2.take k).map fun o=>q1r [32] (wsT o.2))).length<=100000):=qoq Z;have HE:Hid (∀k,x.2.length<=k->Lib.itoa x.1++sepB [59,32] ((x.2.take k).map fun o=>q1r [32] (wsT o.2))=txA x):=fun k hk=>by rw[zaq hk];rfl
 have z:Hid (∀k o,x.2[k]?=some o->Lib.itoa x.1++sepB [59,32] ((x.2.take (k+1)).map fun o=>q1r [32] (wsT o.2))=(Lib.itoa x.1++sepB [59,32] ((x.2.take k).map fun o=>q1r [32] (wsT o.2))++ [59,32])++q1r [32] (wsT o.2)):=fun k o h=>qmz h
 obtain⟨F,I⟩:∃F:Nat->Bs,Hid (∀k,Lib.itoa x.1++sepB [59,32] ((x.2.take k).map fun o=>q1r [32] (wsT o.2))=F k):=⟨fun k=>_,zaa fun k=>rfl⟩;replace v:Hid (∀k,(F k).length<=100000):=fun k=>by rw[<-I.out];exact v.out k
 replace HE:Hid (∀k,x.2.length<=k->F k=txA x):=fun k hk=>by rw[<-I.out];exact HE.out k hk
 replace z:Hid (∀k o,x.2[k]?=some o->F (k+1)=(F k++ [59,32])++q1r [32] (wsT o.2)):=fun k o h=>by rw[<-I.out,<-I.out];exact z.out k o h
 have HF0:Hid (F 0=bs S):=by show _=_;rw[<-I.out,HPX.out,zc4];simp[sepB]
 clear X r u hrd h qo ht L b T1 D BP Z
 go_enter Tryz.func83,Tryz.ntmps83
 go_upto_region 2 with fail;rw[<-HW.out];go_wp2_with fail;refine HI.out.mono ?_;rintro e w2 ⟨rfl,T⟩;have hB2:=C.next T;have T2:=q77 (zab _ _) T hbw;have l:=zaa (q2r _ _ S w2 hB2 (by simp;omega));go_wp2_with fail;refine l.out.mono ?_;rintro e w3 ⟨rfl,O,hk3⟩;have T3:=T2.trans hk3.1;have t:Bd w3 (w.heap.size+1) (F 0):=by rw[HF0.out];simpa using O
 have N:=qp1 T3 W A;clear l O;go_wp2_with fail
 go_loopw [13] (fun i wr=>∃q:Nat,q<=n/\i=.int .i64 (q:Int)/\Bd wr (w.heap.size+1) (F q)/\Below (w.heap.size+1) g wr) (fun i _=>n - (intOf i).toNat)
 case atStart=>exact⟨0,zah _,rfl,t,T3⟩
 case round=>
  clear t T3 N;obtain⟨q,hq,rfl,p,c⟩:=hrel;have U:=p.lt;have hlf:=v.out q
  by_cases hlt:q<n
  .have hq0:(0:Int)<=(q:Int):=by omega
   have hq1:(q:Int)<(n:Int):=by omega
   obtain⟨bb,o,vs,y,rfl,-,hc,hr,-,E⟩:=HQ0.out.at hlt;obtain⟨Bm,m,dm,rfl,qa,qt⟩:=rdOp hr;have cc0:wr.cell? ⟨bb,o+q*2,none⟩=some (.int .i64 y.1):=qe (j.out wr c) (hc 0 _ rfl);have cc1:wr.cell? ⟨bb,o+q*2+1,none⟩=some (.slice Bm m dm):=qe (j.out wr c) (hc 1 _ rfl);have HN:=zaa (z.out q y E);have G:=HD.out.2 y (zaf E);have hm:m<=512:=by rw[<-qt.len];exact G.1
   have HYD:=zaa G.2;have HRT:Hid (∀a,Below (w.heap.size+1) wr a->RdL RI a Bm m y.2):=fun a f=>qt.next qd (j.out a (c.trans f))
   obtain⟨w5,Y,T5,hsz5,BX⟩:=q16 wr #[.int .i64 y.1,.slice Bm m dm] 122;have HW5:=zaa Y;have T25:=q77 c T5 (Nat.le_of_lt U);have P:=p.next T5;have l:=zaa (q2r _ _ ⟨#[59,32]⟩ w5 P (by show _+2<=_;omega));have hX0:wr.heap.size≠w.heap.size+1:=by omega
   have N:=qp1 T25 W A;clear hc hr E Y G qt;go_upto_region 6 with fail;rw[<-HW5.out];go_wp2_with fail;refine l.out.mono ?_;rintro e w6 ⟨rfl,Q,V⟩;have BX6:=V.blk BX hX0 (by decide);have cX1:=BX6.cell 1;simp at cX1;have T6:=(q77 (zab _ _) T5 (Nat.le_of_lt U)).trans V.1;have M:=c.trans T6;have R:Bd w6 (w.heap.size+1) (F q++ [59,32]):=Q;have HWL:=zaa (qd4 _ _ Bm m dm y.2 ⟨#[32]⟩ w6 R (fun a f=>HRT.out a (T6.trans f)) HYD.out (fun a f=>K.out a (M.trans f)) (by omega) (by decide) (by rw[zbl];show _+2<=_;omega));clear l Q P;go_wp2_with fail;refine HWL.out.mono ?_;rintro e w7 ⟨rfl,hB7,hk7⟩;go_wp2_with fail
   go_roundw
   case rel=>exact⟨q+1,by omega,by go_num,by rw[HN.out];exact hB7,M.trans hk7.1⟩
   case measure=>simp[intOf];try omega
  .obtain rfl:q=n:=by omega
   have hq1:¬(q:Int)<(q:Int):=by omega
   rw[HE.out q (by rw[HLN.out];exact zad _)]at p;have HSX:=zaa (qin _ _ wr p);go_wp2_with fail;refine HSX.out.mono ?_;rintro e w8 ⟨rfl,hb8⟩;go_wp2_with fail;go_ret;exact⟨rfl,J.out _ (c.trans hb8)⟩
theorem qn1 {x:qi} {k:Nat} {o:OpM} (h:x.2[k]?=some o):Lib.itoa x.1++sepB [59] ((x.2.take (k+1)).map fun o=>sepB [32] (wsT o.2))=(Lib.itoa x.1++sepB [59] ((x.2.take k).map fun o=>sepB [32] (wsT o.2))++ [59])++sepB [32] (wsT o.2):=by
 rw[zbj,h];simp[sepB,zec]
theorem qor {x:qi} (h:AlgP x) (k:Nat):(Lib.itoa x.1++sepB [59] ((x.2.take k).map fun o=>sepB [32] (wsT o.2))).length<=100000:=by
 have hd:=h.inD;have f:=q5i hd.1;have c:∀t∈(x.2.take k).map fun o=>sepB [32] (wsT o.2),t.length<=4096:=fun t e=>by
  obtain⟨o,d,rfl⟩:=zb6.1 e;have a:=hd.2 o (zbu d);have b:=q6x (sep:= [32]) (qhm a.2);rw[q5x]at b;have g:o.2.length*(([32]:Bs).length+7)<=512*8:=zcj a.1 (zad _);omega
 have a:=q6x (sep:= [59]) c;rw[zcv,za8]at a;have b:min k x.2.length*(([59]:Bs).length+4096)<=4*4097:=zcj (by have:=h.2.2.1;omega) (zad _);rw[zbl];omega
theorem catb {a b:ByteArray} {n m:Nat} (c:a.size<=n) (d:b.size<=m) (h:n+m<=1000000):∃s,bs s=bs a++bs b/\Hid (a++b=s)/\(∀w,(Op.stringOp .add a b).run Tryz.prog w=.ok (.string s) w)/\s.size<=n+m:=
 ⟨a++b,q9k a b,rfl,cat a b (by omega),by rw[qha];omega⟩
theorem qi2 (cs:List Value) (x:qi) (w:World) (h:qf.rd w cs x) (D:AlgP x):Calls Tryz.prog 97 #[.agg cs.toArray] w (Bl w (.string (mk (txA x)))):=by
 have hrd:=h;obtain⟨B,n,d,rfl,-,X⟩:=qv h;have hle:=X.le;have af:=zaa X.len;have HD:=zaa D.inD;have HTX:=zaa (ql7 D);obtain⟨a,W,T0,R,BP⟩:=q16 w #[.int .i64 x.1,.slice B n d] 24;have HW:=zaa W;obtain⟨cP0,K⟩:=cl2 BP;have ah:=zaa (X.next T0);have HT0:=zaa T0;have H:Hid (∀v,InD v->∀f,Calls Tryz.prog 156 #[.int .i64 v] f (Qt f (.string (mk (Lib.itoa v))))):=fun v hv f=>q8d v hv f
 obtain⟨S,HS⟩:∃s,Hid (mk (Lib.itoa x.1)=s):=⟨_,rfl⟩;have zS:S.size<=7:=by rw[<-HS.out];exact q5i D.inD.1
 have ag:Hid (bs S=Lib.itoa x.1):=by show _=_;rw[<-HS.out];rfl
 obtain⟨F,E⟩:∃F:Nat->Bs,Hid (∀k,Lib.itoa x.1++sepB [59] ((x.2.take k).map fun o=>sepB [32] (wsT o.2))=F k):=⟨fun k=>_,zaa fun k=>rfl⟩;have G:Hid (∀k,(F k).length<=100000):=fun k=>by rw[<-E.out];exact qor D k
 have HE:Hid (∀k,x.2.length<=k->F k=txR x):=fun k hk=>by rw[<-E.out,zaq hk];rfl
 have HST:Hid (∀k o,x.2[k]?=some o->F (k+1)=(F k++ [59])++sepB [32] (wsT o.2)):=fun k o h=>by rw[<-E.out,<-E.out];exact qn1 h
 have ad:Hid (bs S=F 0):=by show _=_;rw[<-E.out,ag.out,zc4];simp[sepB]
 have HI:Hid (Calls Tryz.prog 156 #[.int .i64 x.1] a (Qt a (.string S))):=by
  have:=q8d x.1 D.inD.1 a
  rwa [HS.out]at this
 rw[<-HTX.out];clear W R hrd h X T0 BP D
 go_enter Tryz.func97,Tryz.ntmps97
 go_upto_region 1 with fail;rw[<-HW.out];go_wp2_with fail;refine HI.out.mono ?_;rintro e w1 ⟨rfl,hd1⟩;have hb1:Below a.heap.size a w1:=by obtain⟨z,rfl⟩:=hd1;exact qc (zab _ _) _
 go_wp2_with fail
 go_loopw [3,4] (fun t i wr=>∃(q:Nat) (T:ByteArray),q<=n/\i=.int .i64 (q:Int)/\t=.string T/\Hid (bs T=F q)/\Below a.heap.size a wr) (fun _ i _=>n - (intOf i).toNat)
 case atStart=>exact⟨0,S,zah _,rfl,rfl,ad,hb1⟩
 case round=>
  obtain⟨q,T,hq,rfl,rfl,l,p⟩:=hrel;have cP1q:=qe p K;have zT:T.size<=100000:=by have:=G.out q;rw[<-l.out]at this;exact this
  by_cases hlt:q<n
  .have hq0:(0:Int)<=(q:Int):=by omega
   have hq1:(q:Int)<(n:Int):=by omega
   obtain⟨bb,o,vs,y,rfl,-,hc,hr,-,r⟩:=ah.out.at hlt;obtain⟨Bm,m,dm,rfl,qa,Y⟩:=rdOp hr;have c0:a.cell? ⟨bb,o+q*2+1,none⟩=some (.slice Bm m dm):=hc 1 _ rfl;have HN:=zaa (HST.out q y r);have C:=HD.out.2 y (zaf r);have hm:m<=512:=by rw[<-Y.len];exact C.1
   have HYL:=zaa Y.len;have J:=zaa C.2;have ai:Hid (∀f,Below a.heap.size a f->RdL RI f Bm m y.2):=fun f hz=>Y.next qd hz
   obtain⟨T1,M,HT1,k1,z1⟩:=catb (b:=⟨#[59]⟩) zT (show _<=1 by decide) (by decide);have Z:Hid (bs T1=F q++ [59]++sepB [32] (wsT (y.2.take 0))):=by show _=_;rw[M,l.out,zc4];simp[wsT,sepB];rfl
   clear hc hr r C Y M;go_wp2_with fail;obtain⟨wo,rfl⟩:∃x:World,x=wr:=⟨_,rfl⟩
   go_loopw [3,5] (fun t i f=>∃(j:Nat) (U:ByteArray),j<=m/\i=.int .i64 (j:Int)/\t=.string U/\Hid (bs U=F q++ [59]++sepB [32] (wsT (y.2.take j)))/\U.size<=200000/\Below a.heap.size a f) (fun _ i _=>m - (intOf i).toNat)
   case atStart=>exact⟨0,T1,zah _,rfl,rfl,Z,by omega,p⟩
   case round=>
    obtain⟨j,U,hj,rfl,rfl,HU,zU,c⟩:=hrel;have cP1j:=qe c K;have c1:=qe c c0
    by_cases hjl:j<m
    .have hj0:(0:Int)<=(j:Int):=by omega
     have hj1:(j:Int)<(m:Int):=by omega
     obtain⟨b2,o2,u,v,rfl,hcv,⟨rfl,hv0,hv1⟩,-,A⟩:=(ai.out wr c).at hjl;have Q:=J.out v (zaf A);have I:=zaa (qhn A);obtain⟨Nm,g⟩:∃s,Hid (mk (Lib.itoa v)=s):=⟨_,rfl⟩;have zN:Nm.size<=7:=by rw[<-g.out];exact q5i Q
     have L:bs Nm=Lib.itoa v:=by rw[<-g.out];rfl
     have ae:Hid (Calls Tryz.prog 156 #[.int .i64 v] wr (Qt wr (.string Nm))):=by
      have:=H.out v Q wr
      rwa [g.out]at this
     have P:(bs U).length<=105000:=by
      rw[HU.out,zbl,zbl];have h1:=G.out q;have h2:=q6x (sep:= [32]) (qhm (V:=y.2.take j) fun v' hv'=>J.out v' (zbu hv'));rw[q5x,za8]at h2;have h3:min j y.2.length*(([32]:Bs).length+7)<=512*8:=zcj (by omega) (zad _);simp only[List.length_singleton];omega
     have zU':U.size<=105000:=P;obtain⟨U1,N,HU1,k2,z2⟩:=catb (b:=⟨#[32]⟩) zU' (show _<=1 by decide) (by decide);obtain⟨U2,O,HU2,k3,z3⟩:=catb z2 zN (by decide);have aa:Hid (bs U2=F q++ [59]++sepB [32] (wsT (y.2.take (j+1)))):=by
      show _=_
      rw[O,N,HU.out,L,I.out,qem];simp[zec];rfl
     clear N O L A P;go_wp2_with fail;refine ae.out.mono ?_;rintro e w3 ⟨rfl,hd3⟩;have hb3:Below wr.heap.size wr w3:=by obtain⟨z,rfl⟩:=hd3;exact qc (zab _ _) _
     have hT3:=q9 c hb3 rfl;go_wp2_with fail
     go_roundw
     case rel=>exact⟨j+1,_,by omega,by go_num,rfl,aa,by omega,hT3⟩
     case measure=>simp[intOf];omega
    .obtain rfl:j=m:=by omega
     have hj1:¬(j:Int)<(j:Int):=by omega
     have ab:Hid (bs U=F (q+1)):=by show _=_;rw[HU.out,HN.out,zaq (by rw[HYL.out];exact zad _)]
     obtain⟨wi,rfl⟩:∃x:World,x=wr:=⟨_,rfl⟩;go_wp2_with fail
     go_roundw
     case rel=>exact⟨q+1,U,by omega,by go_num,rfl,ab,c⟩
     case measure=>simp[intOf];omega
  .obtain rfl:q=n:=by omega
   have hq1:¬(q:Int)<(q:Int):=by omega
   have ac:Hid (T=mk (txR x)):=by show _=_;rw[<-HE.out q (by rw[af.out];exact zad _),<-l.out];exact(qmi T).symm
   go_wp2_with fail;go_ret;exact⟨q8i ac.out,q9 HT0.out p rfl⟩
theorem qlf {P:Program} (w0:World) {o:Oper} {a:Act} {K:Act->World->Prop} {Q:Exit->Act->World->Prop} (s x:Operand) (t e:TypeId)
  (G:o.op=.call { callee:=.builtin .append,args:= #[s,x],argTypes:= #[t,t] }) (z:Value) (bytes:Nat)
  (I:P.underlying t=some (.slice e)) (hi:(P.info? e).map (fun i=>(i.zero,i.size,i.bytes))=some (some z,2,bytes)) (B:z.cells.size=2) (p:bytes<=64)
  (base n c:Nat) (A:Option Addr) (xs:List Value) (H:a.eval s=.slice A n c) (g:w0.ownsRow base e 2 (.slice A n c) n xs) (u v:Value) (E:u.oneCell'=true) (F:v.oneCell'=true) (J:a.eval x=.slice (some ⟨w0.heap.size,0,none⟩) 1 1)
  (M:n<=1099511627776) (h:base<=w0.heap.size)
  (hK:∀A' c' w',w'.ownsRow base e 2 (.slice A' (n+1) c') (n+1) (xs++ [u,v])->w0.grownBy w' (Value.slice A n c).ownBlock->Below base w0 w'->K (a.put o.dst (.slice A' (n+1) c')) w'):
  o.wp P a (w0.alloc (.cells #[u,v] e)) K Q:=by
 obtain⟨i,hi,L,m,q⟩:=info_parts hi;have f:(n+1)*bytes<=140737488355328:=zbb (zep (n+1) p) (by omega);refine wp_append_own (w0.alloc (.cells #[u,v] e)) s x t G base e i z 2 bytes I hi L m q B (by omega) (.slice A n c) n xs H (g.alloc _) ⟨w0.heap.size,0,none⟩ 1 1 [u,v] J rfl ?_ ?_ (by unfold maxLen;omega) f (by simp;omega) ?_
 .intro j y l
  match j,l with
  |0,l=>simp at l;subst l;simp[Addr.add]
  |1,l=>simp at l;subst l;simp[Addr.add]
 .intro y D
  simp at D
  rcases D with rfl|rfl
  .exact E
  .exact F
 .intro N w' d b _
  obtain⟨A',c',rfl⟩:=qq d;have C:w0.grownBy w' (Value.slice A n c).ownBlock:=
   ⟨b.os,b.tape,b.output,zbb (by simp) b.size,fun k r w=>(b.block k (by simp;omega) w).trans (Below.heap_alloc w0 _ k r)⟩
  exact hK A' c' w' d C ((zab base w0).grown C h (fun k r=>(g.lt k r).1))
theorem app2 {P:Program} (w0:World) {ops:Array Oper} {b:List Oper} {o:Oper} {a:Act} {Q:Exit->Act->World->Prop} (k:o.guard=none) (s x:Operand) (t e:TypeId)
  (w:o.op=.call { callee:=.builtin .append,args:= #[s,x],argTypes:= #[t,t] }) (z:Value) (bytes:Nat)
  (B:P.underlying t=some (.slice e)) (hi:(P.info? e).map (fun i=>(i.zero,i.size,i.bytes))=some (some z,2,bytes)) (l:z.cells.size=2) (j:bytes<=64)
  (base n c:Nat) (A:Option Addr) (xs:List Value) (y:a.eval s=.slice A n c) (f:w0.ownsRow base e 2 (.slice A n c) n xs) (u v:Value) (m:u.oneCell'=true) (g:v.oneCell'=true) (C:a.eval x=.slice (some ⟨w0.heap.size,0,none⟩) 1 1)
  (r:n<=1099511627776) (d:base<=w0.heap.size)
  (hK:∀A' c' w',w'.ownsRow base e 2 (.slice A' (n+1) c') (n+1) (xs++ [u,v])->w0.grownBy w' (Value.slice A n c).ownBlock->Below base w0 w'->wpList P ops Q b (a.put o.dst (.slice A' (n+1) c')) w'):
  wpList P ops Q (o::b) a (w0.alloc (.cells #[u,v] e)):=
 wpList_plain k fun _ h=>qlf w0 s x t e w z bytes B hi l j base n c A xs y f u v m g C r d fun A' c' w' g p q=>h _ _ (hK A' c' w' g p q)
theorem qer {P:Program} (w0:World) {ops:Array Oper} {o:Oper} {a:Act} {K:Act->World->Prop} {Q:Exit->Act->World->Prop} {E:Prop} (g:o.guard=none) (s x:Operand) (t e:TypeId)
  (m:o.op=.call { callee:=.builtin .append,args:= #[s,x],argTypes:= #[t,t] }) (z:Value) (bytes:Nat)
  (q:P.underlying t=some (.slice e)) (hi:(P.info? e).map (fun i=>(i.zero,i.size,i.bytes))=some (some z,2,bytes)) (h:z.cells.size=2) (f:bytes<=64)
  (base n c:Nat) (A:Option Addr) (xs:List Value) (p:a.eval s=.slice A n c) (d:w0.ownsRow base e 2 (.slice A n c) n xs) (u v:Value) (j:u.oneCell'=true) (k:v.oneCell'=true) (w:a.eval x=.slice (some ⟨w0.heap.size,0,none⟩) 1 1)
  (l:n<=1099511627776) (b:base<=w0.heap.size)
  (hK:∀A' c' w',w'.ownsRow base e 2 (.slice A' (n+1) c') (n+1) (xs++ [u,v])->w0.grownBy w' (Value.slice A n c).ownBlock->Below base w0 w'->K (a.put o.dst (.slice A' (n+1) c')) w'):
  if Region.wanted o (yielded ops a.tmps)=true then Oper.wp P o a (w0.alloc (.cells #[u,v] e)) K Q else E:=by
 have r:Region.wanted o (yielded ops a.tmps)=true:=by simp[Region.wanted,g]
 rw[zao r];exact qlf w0 s x t e m z bytes q hi h f base n c A xs p d u v j k w l b hK
theorem q6q:(Tryz.prog.info? 122).map (fun i=>(i.zero,i.size,i.bytes))=some (some (.agg #[.int .i64 0,.slice none 0 0]),2,32):=by kernel_rfl
def PO (lo:Nat) (w:World) (v:Value) (xs:List OpM) (css:List (List Value)) (bls:List (List Nat)):Prop:=
 Parts shOp 122 w v xs css bls/\w.ownsRow lo 122 2 v xs.length css.flatten/\Iv lo w.heap.size (obl v++bls.flatten)
theorem qcn {w:World} {c:List Value} {x:OpM} {d:List Nat} (h:shOp.own w c x d) {b:Nat} (a:b∈d):∃cur fr,w.heap[b]?=some (.cells cur 3 fr):=by
 obtain⟨l,m,j,k,rfl,rfl,⟨_,rfl,-,rfl⟩,⟨v,rfl,i,-,rfl⟩⟩:=h;rw[zch,q1h]at a
 rcases i.2 with⟨rfl,-⟩|⟨g,e,cur,rfl,-,f,-⟩
 .simp[Value.ownBlock]at a
 .simp only[Value.ownBlock,zdh]at a
  subst a;exact⟨_,_,f⟩
theorem q5t {w:World} {base size n:Nat} {e:TypeId} {v:Value} {xs:List Value} (h:w.ownsRow base e size v n xs) {b:Nat} (a:b∈obl v):∃cur fr,w.heap[b]?=some (.cells cur e fr):=by
 rw[q1h]at a
 rcases h.2 with⟨rfl,-⟩|⟨g,c,cur,rfl,-,d,-⟩
 .simp[Value.ownBlock]at a
 .simp only[Value.ownBlock,zdh]at a
  subst a;exact⟨_,_,d⟩
theorem qk7 (v:Value):(obl v).Nodup:=by
 unfold obl;cases v.ownBlock<;>simp
section
variable {lo:Nat} {w:World} {v:Value} {xs:List OpM} {css:List (List Value)} {bls:List (List Nat)}
theorem PO.nil (lo:Nat) (w:World):PO lo w (.slice none 0 0) [] [] []:=
 ⟨⟨⟨rfl,.inl ⟨rfl,rfl⟩⟩,rfl,rfl,fun k c x a h=>by simp at h⟩,⟨rfl,.inl ⟨rfl,rfl⟩⟩,Iv.nil _ _⟩
theorem PO.own (h:PO lo w v xs css bls):(Sh.rows shOp 122).own w [v] xs (obl v++bls.flatten):=⟨v,css,bls,rfl,h.1,rfl⟩
theorem PO.next {w':World} (h:PO lo w v xs css bls) (a:Below w.heap.size w w'):PO lo w' v xs css bls:=
 ⟨h.1.same fun b c=>a.block b (h.1.lt b c),ql h.2.1 a,h.2.2.mono (zad _) a.size⟩
theorem PO.same {w':World} (h:PO lo w v xs css bls) (d:w.heap.size<=w'.heap.size) (a:∀b∈obl v++bls.flatten,w'.heap[b]?=w.heap[b]?):PO lo w' v xs css bls:=
 ⟨h.1.same a,q2f h.2.1 fun b c=>a b (zba _ (q1h.2 c)),h.2.2.mono (zad _) d⟩
theorem PO.mono {lo':Nat} (h:PO lo w v xs css bls) (a:lo'<=lo):PO lo' w v xs css bls:=⟨h.1,qh h.2.1 a,h.2.2.mono a (zad _)⟩
theorem PO.push (h:PO lo w v xs css bls) {j:World} (J:Below w.heap.size w j) (S:lo<=w.heap.size) {c:List Value} {x:OpM} {m:List Nat} (T:shOp.own j c x m) (g:Iv w.heap.size j.heap.size m):
  j.ownsRow lo 122 2 v xs.length css.flatten/\∀ {w2:World} {v':Value},w2.ownsRow lo 122 2 v' (xs.length+1) (css.flatten++c)->j.grownBy w2 v.ownBlock->PO lo w2 v' (xs++ [x]) (css++ [c]) (bls++ [m]):=by
 have z:=h.next J;refine⟨z.2.1,fun {w2 v'} f E=>?_⟩;have s:=zbf.1 h.2.2.1;have y:∀b,b∈bls.flatten->w2.heap[b]?=j.heap[b]?:=fun b d=>E.block b (z.2.2.2 b (zay _ d)).2 fun e=>s.2.2 b (q1h.2 e.symm) b d rfl
 have p:∀b,b∈m->w2.heap[b]?=j.heap[b]?:=fun b d=>E.block b (g.2 b d).2 fun e=>by
  have O:=(h.2.2.2 b (zba _ (q1h.2 e.symm))).2;have P:=(g.2 b d).1;omega
 have q:=h.1.l1;have r:=h.1.l2;have t:Parts shOp 122 w2 v' (xs++ [x]) (css++ [c]) (bls++ [m]):=by
  refine⟨?_,by simp[q],by simp[r],fun k L V u n l o=>?_⟩
  .rw[zbl,zbv,List.flatten_singleton]
   exact qh f (zah _)
  .by_cases F:k<xs.length
   .rw[zbw (by omega)]at n l o
    exact shOp.osame (z.1.el k L V u n l o) fun b d=>y b (zbp.2 ⟨_,zaf o,d⟩)
   .have G:k=xs.length:=by
     have:=(zag.1 l).1;simp at this;omega
    subst G;rw[za9 (by omega)]at n l o;simp[q,r]at n l o;subst n;subst l;subst o;exact shOp.osame T p
 refine⟨t,by rw[zbl,zbv];simpa using f,?_⟩;rw[zbv];have X:j.heap.size<=w2.heap.size:=E.size;have U:=J.size;refine⟨?_,fun b d=>?_⟩
 .rw[zbf]
  refine⟨qk7 _,?_,fun a A b d e=>?_⟩
  .rw[zbf]
   refine⟨s.2.1,by simpa using g.1,fun a A b d e=>?_⟩;simp at d;subst e;have O:=(h.2.2.2 a (zay _ A)).2;have P:=(g.2 a d).1;omega
  .subst e
   obtain⟨M,W,Q⟩:=q5t f A;have C:a∈(bls++ [m]).flatten:=by rw[zbv];exact d
   obtain⟨K,D,B⟩:=zbp.1 C;obtain⟨k,F⟩:=zbh D;have R:=(zag.1 F).1;have n:=t.l1;have l:=t.l2;have H:=t.el k _ _ K (zae (by omega)) (zae (by omega)) F;obtain⟨I,N,i⟩:=qcn H B;rw[Q]at i;injection i with i
   injection i with _ h5
   exact absurd h5 (by decide)
 .rcases zat.1 d with d|d
  .exact f.lt b (q1h.1 d)
  .rcases zat.1 d with d|d
   .have:=h.2.2.2 b (zay _ d)
    omega
   .have:=g.2 b (by simpa using d)
    omega
theorem q8z {α:Type} {l:List α} {i:Nat} {x:α} (h:l[i]?=some x):l.set i x=l:=by
 apply zcp;intro j;rw[zck]
 by_cases hj:i=j
 .subst hj
  rw[zao rfl,zao (zag.1 h).1,h]
 .rw[zaj hj]
theorem PO.tab (h:PO lo w v xs css bls) {k:Nat} {a:Int} {t:List Int} (N:xs[k]?=some (a,t)) (ht:t≠ []):
  ∃ g cap tb d, v = .slice (some ⟨g, 0, none⟩) xs.length cap /\ w.cell? ⟨g, k * 2, none⟩ = some (.int .i64 a) /\ w.cell? ⟨g, k * 2 + 1, none⟩ = some (.slice (some ⟨tb, 0, none⟩) t.length d) /\ lo <= tb /\ tb < w.heap.size /\
    (∀ p, w.frozen? ⟨tb, p, none⟩ = false) /\ (∀ p x, t[p]? = some x -> w.cell? ⟨tb, p, none⟩ = some (.int .i64 x)) /\ tb ∈ bls.flatten /\
    ∀ p u, InR u -> PO lo (w.setCell ⟨tb, p, none⟩ (.int .i64 u)) v (xs.set k (a, t.set p u)) css bls := by
 obtain⟨j,A,n⟩:=h;have J:=(zag.1 N).1;obtain⟨g,cap,K⟩:=j.slice J;have W:=j.l1;have X:=j.l2;have c:css[k]?=some (css[k]'(by omega)):=zae (by omega);have l:bls[k]?=some (bls[k]'(by omega)):=zae (by omega)
 generalize css[k]'(by omega)=cj at c
 generalize bls[k]'(by omega)=bk at l
 have O:=j.el k cj (a,t) bk c N l;have Z:=O;obtain⟨c0,c1,b0,b1,rfl,rfl,⟨_,rfl,⟨rfl,L,I⟩,rfl⟩,⟨tv,rfl,C,U,rfl⟩⟩:=O;obtain⟨tb,d,rfl⟩:∃tb d,tv=.slice (some ⟨tb,0,none⟩) t.length d:=by
  rcases C.2 with⟨-,T⟩|⟨g',M,S,rfl,-⟩
  .exact absurd (zdg.1 T) ht
  .exact⟨_,_,rfl⟩
 have q:tb∈bls.flatten:=zbp.2 ⟨_,zaf l,by simp[obl,Value.ownBlock]⟩;have z:=n.2 tb (zay _ q);have H:tb∉obl v:=fun V=>(zbf.1 n.1).2.2 tb V tb q rfl
 refine⟨g,cap,tb,d,K,j.cell K c (i:=0) rfl,j.cell K c (i:=1) rfl,z.1,z.2,fun p=>C.frozenAt p,fun p x P=>?_,q,fun p u hu=>?_⟩
 .have aa:=(zag.1 P).1
  rw[C.cellAt p (by show p<t.length*1;omega)];show(t.map (Value.int .i64))[p]?=_;rw[za6,P];rfl
 .have o:∀b,b≠tb->(w.setCell ⟨tb,p,none⟩ (.int .i64 u)).heap[b]?=w.heap[b]?:=fun b D=>zal w _ _ b D
  have F:(w.setCell ⟨tb,p,none⟩ (.int .i64 u)).ownsRow 0 3 1 (.slice (some ⟨tb,0,none⟩) t.length d) (t.set p u).length (ints (t.set p u)):=by
   have:=(C.stored p (.int .i64 u)).1;rw[q2a]at this
   simpa using this
  have G:∀y∈t.set p u,InR y:=fun y hy=>by
   rcases zd0 hy with E|E
   .exact U y E
   .rw[E];exact hu
  have f:(w.setCell ⟨tb,p,none⟩ (.int .i64 u)).ownsRow lo 122 2 v xs.length css.flatten:=q2f A fun b D=>o b fun e=>H (by rw[<-e];exact q1h.2 D)
  have B:q3o css.flatten (k*shOp.m) [.int .i64 a,.slice (some ⟨tb,0,none⟩) t.length d]=css.flatten:=by
   have Q:css.flatten[k*2]?=some (.int .i64 a):=by have:=q26 j.all k 0 (by decide);rw[c]at this;exact this
   have R:css.flatten[k*2+1]?=some (.slice (some ⟨tb,0,none⟩) t.length d):=by have:=q26 j.all k 1 (by decide);rw[c]at this;exact this
   show(css.flatten.set (k*2) _).set (k*2+1) _=_;rw[q3v Q,q3v R]
  have s:=j.put (w':=w.setCell ⟨tb,p,none⟩ (.int .i64 u)) n.1 l (c':= [.int .i64 a,.slice (some ⟨tb,0,none⟩) t.length d]) (x':=(a,t.set p u)) (by rw[B];exact qh f (zah _))
   ⟨[.int .i64 a], [.slice (some ⟨tb,0,none⟩) t.length d], [], [tb],rfl,rfl,⟨_,rfl,⟨rfl,L,I⟩,rfl⟩,⟨_,rfl,F,G,rfl⟩⟩
   (fun b D Y=>o b fun e=>Y (by rw[e];simp[obl,Value.ownBlock]))
  have r:css.set k [.int .i64 a,.slice (some ⟨tb,0,none⟩) t.length d]=css:=q8z c;rw[r]at s
  exact⟨s,by rw[zcn];exact f,by
   have:(w.setCell ⟨tb,p,none⟩ (.int .i64 u)).heap.size=w.heap.size:=by simp
   rw[this]
   exact n⟩
end
theorem qf1 (cs:List Value) (x:OpM) (w:World) (h:shOp.rd w cs x) (hn:x.2.length<=1048576):
  Calls Tryz.prog 135 #[.agg cs.toArray] w (ToE shOp w x):=by
 obtain⟨B,m,d,rfl,L,F⟩:=rdOp h;have Y:=F.len;obtain⟨q,k,t,j,H,I⟩:=q1p w #[.int .i64 x.1,.slice B m d] #[.int .i64 0,.slice none 0 0] 122 122;have s:=zaa k;have M:=zaa F.bounds;have n:=F.next qd t;have l:q.heap.size=w.heap.size+2:=j;have N:=zaa l;clear k j l;obtain⟨P,Q⟩:=cl2 H;obtain⟨R,S,T,U⟩:=cf2 I
 go_enter Tryz.func135,Tryz.ntmps135
 go_upto_region 1 with fail;rw[<-s.out]
 go_region_with (go_at_call 137;refine(q43 _ _ _ x.2 _ (by first|exact n|exact n.drew qd) (by omega)).mono ?_;rintro e G ⟨a,c,rfl,K,D⟩;have o:=q9 (zai (zab q.heap.size q)) D rfl;have f:=H.next o;have b:=I.next o;have u:=f.cell 0;have y:=f.cell 1;have z:=b.cell 0;have A:=b.cell 1;have V:=b.frozen 0;have W:=b.frozen 1;simp at u y z A)
 all_goals
  have O:=q9 t o rfl;have Z:=o.size;have i:=q1q K b (by decide);have J:=q5n (q5n K (p:=⟨w.heap.size+1,0,none⟩) i (.int .i64 x.1)) (p:=⟨w.heap.size+1,1,none⟩) i (.slice a m c);have r:Blk ((G.setCell ⟨w.heap.size+1,0,none⟩ (.int .i64 x.1)).setCell ⟨w.heap.size+1,1,none⟩ (.slice a m c)) (w.heap.size+1) 122 #[.int .i64 x.1,.slice a m c]:=by simpa using((b.set_ 0 (.int .i64 x.1)).set_ 1 (.slice a m c))
  have E:=q76 J;have C:((G.setCell ⟨w.heap.size+1,0,none⟩ (.int .i64 x.1)).setCell ⟨w.heap.size+1,1,none⟩ (.slice a m c)).ownsRow 0 3 1 (.slice a m c) x.2.length (ints x.2):=by rw[Y];exact qh J (zah _)
  have X:Below w.heap.size w ((G.setCell ⟨w.heap.size+1,0,none⟩ (.int .i64 x.1)).setCell ⟨w.heap.size+1,1,none⟩ (.slice a m c)):=(O.setCell (by show _<=_;simp) _).setCell (by show _<=_;simp) _;have g:w.heap.size<=q.drew.heap.size:=t.size
  go_wp2
  (try simp only[Exit.inBlock,Exit.then])
  refine zas (v:=.agg #[.int .i64 x.1,.slice a m c]) (zb3 rfl _ _ (w.heap.size+1) 122 #[.int .i64 x.1,.slice a m c] (0,0) _ (by simp) r Tryz.underlying122 rfl (by kernel_rfl)) rfl ?_;exact⟨[.int .i64 x.1,.slice a m c],obl (.slice a m c),rfl,⟨[.int .i64 x.1], [.slice a m c], [],obl (.slice a m c),rfl,rfl,⟨_,rfl,⟨rfl,L.1,L.2⟩,rfl⟩,⟨_,rfl,C,M.out,rfl⟩⟩,E.mono g (zad _),X⟩
def AlgE (w:World) (x:qi) (e:Ending) (w':World):Prop:=∃v css bls,e=.returned (.agg #[.int .i64 x.1,v])/\PO w.heap.size w' v x.2 css bls/\Below w.heap.size w w'
theorem PO.far {lo:Nat} {w:World} {v:Value} {xs:List OpM} {css:List (List Value)} {bls:List (List Nat)} (h:PO lo w v xs css bls) {p:Addr} (c:p.block<lo) (u:Value):PO lo (w.setCell p u) v xs css bls:=
 h.same (by simp) fun b a=>zal w p u b (by have:=(h.2.2.2 b a).1;omega)
theorem PO.algO {lo:Nat} {w:World} {v:Value} {a:Int} {xs:List OpM} {css:List (List Value)} {bls:List (List Nat)} (h:PO lo w v xs css bls) (b:InR a):qf.own w [.int .i64 a,v] (a,xs) (obl v++bls.flatten):=
 ⟨[.int .i64 a], [v], [],obl v++bls.flatten,rfl,rfl,⟨_,rfl,⟨rfl,b.1,b.2⟩,rfl⟩,h.own⟩
theorem q3i {α:Type} {l:List α} {k:Nat} {x:α} (h:l[k]?=some x):l.take (k+1)=l.take k++ [x]:=by rw[zbj,h];rfl
theorem q60 (cs:List Value) (x:qi) (w:World) (h:qf.rd w cs x) (hn:qf.cnt x<=1048576):
  Calls Tryz.prog 78 #[.agg cs.toArray] w (AlgE w x):=by
 obtain⟨B,m,d,rfl,qs,qo⟩:=qv h;have hm:=qo.len;have hcn:0+(x.2.length+cntS shOp.cnt x.2)<=1048576:=hn;have HCN:=zaa hcn;have hle:m<=1048576:=by omega
 obtain⟨r,J,T0,hs0,BP,u,M⟩:=q7k w #[.int .i64 x.1,.slice B m d] #[.int .i64 0,.slice none 0 0] #[.int .i64 x.1,.slice none 0 0] 24 24;have HW0:Hid (_=r):=J.symm;have l:=zaa hs0;have X:=((Blk.new w 24 #[.int .i64 x.1,.slice B m d]).alloc (.cells #[.int .i64 0,.slice none 0 0] 24)).cell 0;have G:=BP.cell 1;simp at X G;rw[J]at G;have hP0:PO r.heap.size r (.slice none 0 0) (x.2.take 0) [] []:=PO.nil _ _;clear J hs0 hcn
 go_enter Tryz.func78,Tryz.ntmps78
 go_wp2_with fail;clear X G
 go_loopw [12] (fun i wr=>∃(k:Nat) (v:Value) (n:List (List Value)) (bls:List (List Nat)),k<=m/\i=.int .i64 k/\Blk wr (w.heap.size+1+1) 24 #[.int .i64 x.1,v]/\Blk wr (w.heap.size+1) 24 #[.int .i64 0,.slice none 0 0]/\PO r.heap.size wr v (x.2.take k) n bls/\Below w.heap.size w wr) (fun i _=>m - (intOf i).toNat)
 case atStart=>
  rw[HW0.out];exact⟨0,_,_,_,zah _,rfl,M,u,hP0,T0⟩
 case round=>
  clear hP0 M u BP;obtain⟨k,v,n,bls,hk,rfl,M,u,a,hT⟩:=hrel
  by_cases hlt:k<m
  .have hk0:(0:Int)<=(k:Int):=by omega
   have hk1:(k:Int)<(m:Int):=by omega
   obtain⟨b,o,vs,y,rfl,-,hc,hr,-,hx⟩:=(qo.next hT).at hlt;obtain⟨B',m',d',rfl,qa,qt⟩:=rdOp hr;have cc0:wr.cell? ⟨b,o+k*2,none⟩=some (.int .i64 y.1):=hc 0 _ rfl;have cc1:wr.cell? ⟨b,o+k*2+1,none⟩=some (.slice B' m' d'):=hc 1 _ rfl;have HTS:Hid (x.2.take (k+1)=x.2.take k++ [y]):=q3i hx;have hcy:y.2.length<=1048576:=by
    have h1:=q4e (f:=shOp.cnt) (zaf hx);have h2:=HCN.out;have h3:shOp.cnt y=0+y.2.length:=rfl;omega
   obtain⟨L,HL⟩:∃L,Hid (x.2.take k=L):=⟨_,rfl⟩;have HLK:Hid (L.length=k):=by show _=_;rw[<-HL.out,za8];omega
   rw[HL.out]at a;have S:Hid (x.2.take (k+1)=L++ [y]):=by show _=_;rw[HTS.out,HL.out]
   obtain⟨A,c,rfl⟩:=qq a.2.1;obtain⟨w5,hw5,U,hs5,BY⟩:=q16 wr #[.int .i64 y.1,.slice B' m' d'] 122;have HW5:=zaa hw5;have H:=a.next U;have hr5:=shOp.stab hr U.block;have s:=M.next U;have BR5:=u.next U;have hT5:=q9 hT U rfl;have cO5:=s.cell 1;have fO5:=s.frozen 1;have cY0:=BY.cell 0;have cY1:=BY.cell 1;simp at cO5 cY0 cY1;have hwz0:r.heap.size<=w5.heap.size:=by
    rcases H.2.1.2 with⟨h1,h2⟩|⟨g9,_,_,h1,h2,_⟩
    .have:=hT5.size
     have h9:=s.lt;have h8:=l.out;omega
    .injection h1 with h1
     have:=H.2.2.2 g9 (zba _ (by rw[h1];simp[obl,Value.ownBlock]));omega
   clear hw5 hs5 hc hx hr a;go_upto_region 5 with fail;rw[<-HW5.out];clear cc0 cc1
   go_region_law (first
    |(refine qer w6 rfl (.tmp 17) (.tmp 20) 22 122 rfl (.agg #[.int .i64 0,.slice none 0 0]) 32 ze4 q6q rfl (by decide) r.heap.size L.length c A n.flatten (by rfl) C (.int .i64 y.1) (.slice B6 m6 d6) rfl rfl (by rfl) (by have:=HLK.out;omega) (by omega) ?_;intro K N w8 q z hb8;have t:=j.grown z (fun e=>q1q C j (by decide) e.symm);have P:=F.grown z (fun e=>q1q C F (by decide) e.symm);have W:=t.cell 1;have fO8:=t.frozen 1;simp at W)
    |(go_simp;go_at_call 135;refine(qf1 [.int .i64 y.1,.slice B' m' d'] y _ (by first|exact hr5|exact shOp.stab hr5 (fun _ _=>rfl)) hcy).mono ?_;rintro e w6 ⟨ds,bk,rfl,I,hiv,hbn⟩;obtain⟨B6,m6,d6,rfl,-,-⟩:=rdOp (shOp.ord I);have E:=q9 (zai (zab w5.heap.size w5)) hbn rfl;have hiv6:Iv w5.heap.size w6.heap.size bk:=hiv;obtain⟨C,R⟩:=H.push E hwz0 I hiv6;have hsz6:=E.size;have j:=s.next E;have F:=BR5.next E;have V:=j.cell 1;have fO6:=j.frozen 1;have Y:=(BY.next E).cell 0;have Z:=(BY.next E).cell 1;have D:=(j.alloc (.cells #[.int .i64 y.1,.slice B6 m6 d6] 122)).cell 1;simp at V Y Z D))
   all_goals
    have T:=(R q z).far (p:=⟨w.heap.size+1+1,1,none⟩) (by have:=l.out;show w.heap.size+1+1<r.heap.size;omega) (.slice K (L.length+1) N);have hT8:=((q9 hT5 E rfl).trans (hb8.mono (by have:=l.out;omega))).setCell (p:=⟨w.heap.size+1+1,1,none⟩) (by show _<=_;simp;try omega) (.slice K (L.length+1) N);have O:Blk (w8.setCell ⟨w.heap.size+1+1,1,none⟩ (.slice K (L.length+1) N)) (w.heap.size+1+1) 24 #[.int .i64 x.1,.slice K (L.length+1) N]:=by simpa using t.set_ 1 (.slice K (L.length+1) N)
    have Q:=P.far (p:=⟨w.heap.size+1+1,1,none⟩) (by simp) (.slice K (L.length+1) N);have g:=zaa (zap O (zap Q (zap T hT8)));clear O Q T hT8 V fO6 D Y Z W fO8 q z hb8 t P j F C R I hbn E;go_wp2_with fail
    go_roundw
    case rel=>exact⟨k+1,_,_,_,by omega,by go_num,g.out.1,g.out.2.1,by rw[S.out];exact g.out.2.2.1,g.out.2.2.2⟩
    case measure=>simp[intOf];omega
  .obtain rfl:k=m:=by omega
   have hlt':¬(k:Int)<(k:Int):=by omega
   have hP:PO r.heap.size wr v x.2 n bls:=by rw[zaq (by omega)]at a;exact a
   obtain⟨A,c,hv⟩:=qq hP.2.1;rw[hm]at hv;subst hv;have hlow:w.heap.size<=r.heap.size:=by have:=l.out;omega
   have hPF:=((hP.far (p:=⟨w.heap.size+1,0,none⟩) (by have:=l.out;show w.heap.size+1<r.heap.size;omega) (.int .i64 x.1)).far (p:=⟨w.heap.size+1,1,none⟩) (by have:=l.out;show w.heap.size+1<r.heap.size;omega) (.slice A k c)).mono hlow;have hTF:=(hT.setCell (p:=⟨w.heap.size+1,0,none⟩) (by show _<=_;simp) (.int .i64 x.1)).setCell (p:=⟨w.heap.size+1,1,none⟩) (by show _<=_;simp) (.slice A k c);have cO0:=M.cell 0;have cO1:=M.cell 1;have cR0:=u.cell 0;have cR1:=u.cell 1;have fR0:=u.frozen 0;have fR1:=u.frozen 1;have BRR:Blk ((wr.setCell ⟨w.heap.size+1,0,none⟩ (.int .i64 x.1)).setCell ⟨w.heap.size+1,1,none⟩ (.slice A k c)) (w.heap.size+1) 24 #[.int .i64 x.1,.slice A k c]:=by simpa using((u.set_ 0 (.int .i64 x.1)).set_ 1 (.slice A k c))
   have HPF:=zaa hPF;simp at cO0 cO1 cR0 cR1;clear hP hPF a;go_wp2_with fail
   (try simp only[Exit.inBlock,Exit.then])
   refine zas (v:=.agg #[.int .i64 x.1,.slice A k c]) (zb3 rfl _ _ (w.heap.size+1) 24 #[.int .i64 x.1,.slice A k c] (0,0) _ (by simp) BRR zb7 rfl (by kernel_rfl)) rfl ?_;exact⟨_,n,bls,rfl,HPF.out,hTF⟩
def q70 (z:Nat) (s:List Int) (ops:List OpM) (k:Nat):List OpM:=(ops.take k).map (q51 z s)++ops.drop k
theorem qkc (z:Nat) (s:List Int) (ops:List OpM) (k:Nat):(q70 z s ops k).length=ops.length:=by unfold q70;simp;omega
theorem qkb {z:Nat} {s:List Int} {ops:List OpM} {k:Nat} {y:OpM} (h:ops[k]?=some y):(q70 z s ops k)[k]?=some y:=by
 have a:=(zag.1 h).1;unfold q70;rw[za9 (by simp;omega)];simp;rw[show k+(k - min k ops.length)=k by omega];exact h
theorem qig {z:Nat} {s:List Int} {ops:List OpM} {k:Nat} {y:OpM} (h:ops[k]?=some y):(q70 z s ops k).set k (q51 z s y)=q70 z s ops (k+1):=by
 have a:=(zag.1 h).1;unfold q70;rw[q3i h,zeo,zd1 _ _ (by simp;omega)];have:ops.drop k=y::ops.drop (k+1):=by
  rw[zbd a]
  congr
  exact(zag.1 h).2
 rw[this];simp;rw[show k - min k ops.length=0 by omega];rfl
theorem qka {z:Nat} {s:List Int} {ops:List OpM} {k:Nat} (h:ops.length<=k):q70 z s ops k=ops.map (q51 z s):=by
 unfold q70;rw[zaq h,zbe h,zc3]
def mixD (s:List Int) (D:List Nat) (j:Nat):List Nat:=(D.take j).map (nmAt s)++D.drop j
theorem qmf {s:List Int} {D:List Nat} {j d:Nat} (h:D[j]?=some d):(mixD s D j)[j]?=some d:=by
 have a:=(zag.1 h).1;unfold mixD;rw[za9 (by simp;omega)];simp;rw[show j+(j - min j D.length)=j by omega];exact h
theorem qjy {s:List Int} {D:List Nat} {j d:Nat} (h:D[j]?=some d):(mixD s D j).set j (nmAt s d)=mixD s D (j+1):=by
 have a:=(zag.1 h).1;unfold mixD;rw[q3i h,zeo,zd1 _ _ (by simp;omega)];have:D.drop j=d::D.drop (j+1):=by
  rw[zbd a]
  congr
  exact(zag.1 h).2
 rw[this];simp;rw[show j - min j D.length=0 by omega];rfl
theorem qme {s:List Int} {D:List Nat} {j:Nat} (h:D.length<=j):mixD s D j=D.map (nmAt s):=by
 unfold mixD;rw[zaq h,zbe h,zc3]
theorem qmj (l:List Nat) (p v:Nat):(nats l).set p (v:Int)=nats (l.set p v):=by simp[nats,List.map_set]
theorem qk3 {l:List Nat} {k d:Nat} (h:l[k]?=some d):(nats l)[k]?=some (d:Int):=by simp[nats,h]
theorem qni {l:List Nat} {b:Nat} (h:∀d∈l,d<=b) (c:b<=1048576) {w:World}:∀v∈nats l,RI w (.int .i64 v) v:=by
 intro v a;unfold nats at a;rw[zb6]at a;obtain⟨d,hd,rfl⟩:=a;have:=h d hd;exact⟨rfl,by omega,by omega⟩
theorem qk9 {n:Nat} {o:OpM} (h:OpP n o) (a:n<=8):o.2.length<=4096:=by
 rw[h.2.2.1];exact q3n a (by have:=h.2.1;omega)
theorem qnv {x:qi} (h:AlgP x):qf.cnt x<=1048576:=by
 have a:∀l:List OpM,(∀o∈l,OpP x.1.toNat o)->cntS shOp.cnt l<=l.length*4096:=by
  intro l
  induction l with
  |nil=>intro _;exact zah _
  | cons o l ih =>
    intro c;rw [q1j, za0, zel];have d := ih fun o f => c o (by simp [f])
    have b := qk9 (c o (by simp)) (by have := h.2.1; omega);have e : shOp.cnt o = 0 + o.2.length := rfl;omega
 have d:=a x.2 h.2.2.2;have b:=h.2.2.1;have e:qf.cnt x=0+(x.2.length+cntS shOp.cnt x.2):=rfl;have g:=zdw 4096 b;omega
theorem q58 {w:World} {p a:Addr} {v u:Value} (h:a.block≠p.block) (b:w.cell? a=some v):(w.setCell p u).cell? a=some v:=(zb9 (zal w p u _ h)).trans b
theorem q24 {w:World} {p a:Addr} {v u:Value} (h:a.block≠p.block) (b:w.cell? a=some v):(w.setCell p u).drew.cell? a=some v:=q58 h b
theorem qg4 (cs:List Value) (x:qi) (N:Option Addr) (n cN:Nat) (s:List Int) (w:World) (h:qf.rd w cs x) (hs:RdL RI w N n s) (hx:AlgP x) (hp:PermL x.1.toNat s):
  Calls Tryz.prog 86 #[.agg cs.toArray,.slice N n cN] w (AlgE w (ren x s)):=by
 have hcnt:=qnv hx;obtain⟨a,c⟩:=x;obtain⟨z,rfl⟩:∃z:Nat,a=(z:Int):=⟨a.toNat,by have h1:1<=a:=hx.1;omega⟩;have hz1:1<=z:=by have h1:(1:Int)<=(z:Int):=hx.1;omega
 have hz5:z<=8:=by have h1:(z:Int)<=8:=hx.2.1;omega
 have hm4:c.length<=4:=hx.2.2.1;have HOP:Hid (∀o∈c,OpP z o):=fun o ho=>by have:=hx.2.2.2 o ho;simpa using this
 have V:Hid (PermL z s):=by show PermL z s;simpa using hp
 have hnz:n=z:=by rw[<-hs.len];exact V.out.1
 subst hnz;have HREN:Hid (ren ((n:Int),c) s=((n:Int),c.map (q51 n s))):=by show _=_;unfold ren;simp
 have hrd:=h;obtain⟨B,m,d,rfl,qs,qo⟩:=qv h;obtain rfl:c.length=m:=qo.len;obtain⟨w0,hw0,T0,hs0,I,G⟩:=q1p w #[.int .i64 (n:Int),.slice B c.length d] #[.int .i64 0,.slice none 0 0] 24 24;have HW0:=zaa hw0;have K:=zaa hs0;have hrd0:=qf.stab hrd T0.block;obtain⟨A,X⟩:=cl2 I;rw[hw0]at A X;rw[HREN.out];clear hw0 hs0 hp hx
 go_enter Tryz.func86,Tryz.ntmps86
 go_wp2_with fail;rw[<-HW0.out];refine(q60 _ _ _ hrd0 hcnt).mono ?_;rintro e P ⟨v,L,bls,rfl,l,Z⟩;replace l:PO w0.heap.size P v c L bls:=l;obtain⟨H,E,rfl⟩:=qq l.2.1;have T1:=q9 T0 Z rfl;replace I:=I.next Z;replace G:=G.next Z;obtain⟨w2,hw2,T2',hs2,T⟩:=q16 P #[.int .i64 (n:Int),.slice H c.length E] 24;have HW2:Hid (_=w2):=hw2.symm;have HGB:Hid (P.heap.size∉obl (.slice H c.length E)++bls.flatten):=fun hh=>by have:=(l.2.2.2 _ hh).2;omega
 have hgl:w0.heap.size<=P.heap.size:=Z.size;have T2:=q9 T1 T2' rfl;replace I:=I.next T2';replace G:=G.next T2';replace l:=l.next T2';have X:=I.cell 1;simp at X;rw[hw2]at X;clear hw2 hs2 A Z;go_wp2_with fail;clear X
 go_loopw [18] (fun i wr=>∃(k:Nat),k<=c.length/\i=.int .i64 k/\Blk wr w.heap.size 24 #[.int .i64 (n:Int),.slice B c.length d]/\Blk wr (w.heap.size+1) 24 #[.int .i64 0,.slice none 0 0]/\Blk wr P.heap.size 24 #[.int .i64 (n:Int),.slice H c.length E]/\PO w0.heap.size wr (.slice H c.length E) (q70 n s c k) L bls/\Below w.heap.size w wr) (fun i _=>c.length - (intOf i).toNat)
 case atStart=>
  rw[HW2.out];exact⟨0,zah _,rfl,I,G,T,l,T2⟩
 case round=>
  clear l I G T T1 T2;obtain⟨k,hk,rfl,I,G,T,l,hT⟩:=hrel
  by_cases hlt:k<c.length
  .obtain⟨wo,hwo⟩:∃wo:World,wo=wr:=⟨_,rfl⟩
   subst hwo;have hk0:(0:Int)<=(k:Int):=by omega
   have hk1:(k:Int)<(c.length:Int):=by omega
   obtain⟨b,o,vs,y,rfl,-,hc,hr,-,hyk⟩:=qo.at hlt;obtain⟨ya,f⟩:=y;have hyp:=HOP.out (ya,f) (zaf hyk);obtain⟨r,rfl⟩:∃r:Nat,ya=(r:Int):=⟨ya.toNat,by have h1:0<=ya:=hyp.1;omega⟩;obtain⟨B',m',d',rfl,qa,qt⟩:=rdOp hr;obtain rfl:f.length=m':=qt.len;have hkk3:r<=3:=by have h1:(r:Int)<=3:=hyp.2.1;omega
   have HYL:Hid (f.length=n ^ r):=by show _=_;have:=hyp.2.2.1;simpa using this
   have HYB:Hid (∀v∈f,0<=v/\v<=(n:Int) - 1):=hyp.2.2.2;have HRO:Hid (q51 n s ((r:Int),f)=((r:Int),q2n n r s f f f.length)):=by show _=_;unfold q51;simp
   have hyl8:f.length<=4096:=by rw[HYL.out];exact q3n (by omega) (by omega)
   have cc0:wo.cell? ⟨b,o+k*2,none⟩=some (.int .i64 (r:Int)):=qe hT (hc 0 _ rfl);have cc1:wo.cell? ⟨b,o+k*2+1,none⟩=some (.slice B' f.length d'):=qe hT (hc 1 _ rfl);obtain⟨w5,hw5,T5,hs5,BQ⟩:=q16 wo #[.int .i64 (r:Int),.slice B' f.length d'] 122;have HW5:Hid (_=w5):=hw5.symm;have HYK:=zaa hyk;have hP5:=l.next T5;have BP5:=I.next T5;have BR5:=G.next T5;have BB5:=T.next T5;have hT5:=q9 hT T5 rfl;have hgq:P.heap.size<wo.heap.size:=T.lt;have hdt:=hT.size;have HST:Hid (PO w0.heap.size w5 (.slice H c.length E) ((q70 n s c k).set k ((r:Int),q2n n r s f f 0)) L bls):=by
    show PO _ _ _ _ _ _
    have e:(q70 n s c k).set k ((r:Int),q2n n r s f f 0)=q70 n s c k:=q8z (qkb hyk);rw[e];exact hP5
   have HQW:Hid (wo.heap.size∉obl (.slice H c.length E)++bls.flatten):=fun hh=>by have:=(l.2.2.2 _ hh).2;omega
   obtain⟨cF0,cF1⟩:=cl2 BQ;rw[hw5]at cF0 cF1;clear hw5 hs5 hc hr hyk hyp l hP5;go_wp2_with fail;clear cF0 cF1
   go_loopw [26] (fun i S=>∃q:Nat,q<=f.length/\i=.int .i64 q/\Blk S w.heap.size 24 #[.int .i64 (n:Int),.slice (some ⟨b,o,none⟩) c.length d]/\Blk S (w.heap.size+1) 24 #[.int .i64 0,.slice none 0 0]/\Blk S P.heap.size 24 #[.int .i64 (n:Int),(.slice H c.length E)]/\Blk S wo.heap.size 122 #[.int .i64 (r:Int),.slice B' f.length d']/\PO w0.heap.size S (.slice H c.length E) ((q70 n s c k).set k ((r:Int),q2n n r s f f q)) L bls/\Below w.heap.size w S) (fun i _=>f.length - (intOf i).toNat)
   case atStart=>
    rw[HW5.out];exact⟨0,zah _,rfl,BP5,BR5,BB5,BQ,HST.out,hT5⟩
   case round=>
    clear BP5 BR5 BB5 BQ HST hT5 I G T;obtain⟨q,hq,rfl,I,G,T,BQ,l,hTi⟩:=hrel
    by_cases hltq:q<f.length
    .obtain⟨S,hwi⟩:∃S:World,S=wr:=⟨_,rfl⟩
     subst hwi;have hq0:(0:Int)<=(q:Int):=by omega
     have hq1:(q:Int)<(f.length:Int):=by omega
     obtain⟨b',o',u0,u,rfl,Q,⟨rfl,-⟩,-,hxu⟩:=(qt.next qd hTi).at hltq;have hub:=HYB.out u (zaf hxu);obtain⟨u,rfl⟩:=zam hub.1;have hun:u<n:=by omega
     obtain⟨J,HJ⟩:∃J,Hid (toI n r s q=J):=⟨_,rfl⟩;have hJ:J<f.length:=by rw[<-HJ.out,HYL.out];exact qnr (by omega) V.out q
     obtain⟨O,ac,hnmn,hnm2⟩:=V.out.at hun;have HSTEP:Hid (q2n n r s f f (q+1)=(q2n n r s f f q).set J (O:Int)):=by
      show _=_
      rw[q2n,HJ.out,zan,hxu];show(q2n n r s f f q).set J (nmI s (u:Int))=_;have:=q49 ac;rw[this]
     have HNM:=zaa ac;have HXU:=zaa hxu;have cQ0:=BQ.cell 0;have cQ1:=BQ.cell 1;have A:=I.cell 0;simp at cQ0 cQ1 A;clear hxu hub ac hnm2;go_wp2_with fail;refine(qaz q r n _ (by omega) (by omega) (by omega) (by omega)).mono ?_;rintro e w6 ⟨g,rfl,Y,hb6⟩;obtain⟨D,HD⟩:∃D,Hid (digs n r q=D):=⟨_,rfl⟩;have HDL:Hid (D.length=r):=by show _=_;rw[<-HD.out,q2d]
     have HDB:Hid (∀x∈D,x<n):=by show ∀x∈D,_;rw[<-HD.out];exact fun x hx=>q2u (by omega) hx
     rw[HD.out]at Y;have HJ2:Hid (idx n (D.map (nmAt s))=J):=by show _=_;rw[<-HD.out];exact HJ.out
     clear cQ0 cQ1 A Q;go_wp2_with fail
     go_loopw [39] (fun i wj=>∃j:Nat,j<=r/\i=.int .i64 j/\wj.ownsRow S.heap.size 3 1 (.slice (some ⟨g,0,none⟩) r r) r (ints (nats (mixD s D j)))/\Below S.heap.size S wj) (fun i _=>r - (intOf i).toNat)
     case atStart=>exact⟨0,zah _,rfl,Y,hb6⟩
     case round=>
      clear Y hb6;obtain⟨j,hj,rfl,Y,M⟩:=hrel;have hTw:=q9 hTi M rfl
      by_cases hltj:j<r
      .have hj0:(0:Int)<=(j:Int):=by omega
       have hj1:(j:Int)<(r:Int):=by omega
       obtain⟨dj,hdj⟩:∃dj,D[j]?=some dj:=⟨_,zae (by rw[HDL.out];exact hltj)⟩;have hdn:=HDB.out dj (zaf hdj);obtain⟨v',hv',hvn,ab⟩:=V.out.at hdn;obtain⟨nb,no,nv,nx,rfl,aa,⟨rfl,-⟩,-,F⟩:=(hs.next qd hTw).at (k:=dj) hdn;rw[hv']at F;injection F with F
       subst F;have hcell:wr.cell? ⟨g,j,none⟩=some (.int .i64 (dj:Int)):=(Y.cellAt j (by omega)).trans (by show(List.map (Value.int .i64) (nats (mixD s D j)))[j]?=_;rw[za6,qk3 (qmf hdj)];rfl);have hfz:wr.frozen? ⟨g,j,none⟩=false:=Y.frozenAt j;have hst:=(Y.stored j (.int .i64 (v':Int))).1;rw[q2a,qmj,<-ab,qjy hdj,ab]at hst;have hgl2:=(Y.lt g rfl).1;have hd0:(0:Int)<=(dj:Int):=by omega
       have hd1:(dj:Int)<(n:Int):=by omega
       have HST2:=zaa hst;clear hst hdj hv' ab;go_wp2_with fail
       go_roundw
       case rel=>exact⟨j+1,by omega,by go_num,HST2.out,M.setCell hgl2 _⟩
       case measure=>simp[intOf];omega
      .obtain rfl:j=r:=by omega
       have hlt':¬(j:Int)<(j:Int):=by omega
       have HMB:Hid (∀d∈D.map (nmAt s),d<n):=by
        intro d hd;rw[zb6]at hd;obtain⟨x,hx,rfl⟩:=hd;obtain⟨v',-,hv,e⟩:=V.out.at (HDB.out x hx);omega
       rw[qme (by rw[HDL.out];exact zad _)]at Y;have RA:RdL RI wr (some ⟨g,0,none⟩) j (nats (D.map (nmAt s))):=q14 (R:=RI) Y (qni (b:=n) (fun d hd=>Nat.le_of_lt (HMB.out d hd)) (by omega));have hPj:=l.next M;have BPj:=I.next M;have BRj:=G.next M;have BBj:=T.next M;have BQj:=BQ.next M;obtain⟨gO,cap,C,dt,hv,-,cT,hlo,hhi,hfz,hcl,htm,hset⟩:=hPj.tab (k:=k) (a:=(j:Int)) (t:=q2n n j s f f q) (by rw[zfc (by rw[qkc];exact hlt)]) (by intro e0;have:=zav List.length e0;rw[q2p]at this;simp at this;rw[this]at hltq;simp at hltq);injection hv with hv1 hv2 hv3
       subst hv1;rw[q2p]at cT;have fJ:=hfz J;obtain⟨x0,hx0⟩:∃x0,(q2n n j s f f q)[J]?=some x0:=⟨_,zae (by rw[q2p];exact hJ)⟩;have cJ:=hcl J x0 hx0;obtain⟨nb,no,nv,nx,rfl,aa,⟨rfl,-⟩,-,F⟩:=(hs.next qd hTw).at (k:=u) hun;rw[HNM.out]at F;injection F with F
       subst F;have n5:nb≠C:=by
        obtain⟨v8,x8,hc8,-⟩:=hs.at' (k:=u) hun;have:=q42 hc8;have:=K.out;have h9:nb<w.heap.size:=by assumption
        omega
       have n6:b'≠C:=by
        obtain⟨v8,x8,hc8,-⟩:=qt.at' hltq;have h9:b'<w.heap.size:=q42 hc8;have:=K.out;omega
       have n7:gO≠C:=fun e=>(zbf.1 hPj.2.2.1).2.2 gO (by simp[obl,Value.ownBlock]) C htm e
       obtain⟨uv,ux,Q,⟨rfl,-⟩,-,hux⟩:=(qt.next qd hTw).at' hltq;rw[HXU.out]at hux;injection hux with hux
       subst hux;have HS2:=hset J (O:Int) ⟨by omega,by omega⟩;rw[List.set_set]at HS2;have HS3:Hid (PO w0.heap.size (wr.setCell ⟨C,J,none⟩ (.int .i64 (O:Int))) (.slice (some ⟨gO,0,none⟩) c.length E) ((q70 n s c k).set k ((j:Int),q2n n j s f f (q+1))) L bls):=by show PO _ _ _ _ _ _;rw[HSTEP.out];exact HS2
       have hz0:=K.out;have n1:w.heap.size≠C:=by omega
       have n2:w.heap.size+1≠C:=by omega
       have n3:P.heap.size≠C:=fun e=>HGB.out (by rw[e];exact zay _ htm)
       have n4:wo.heap.size≠C:=fun e=>HQW.out (by rw[e];exact zay _ htm)
       have U:=zaa (zap (BPj.far (p:=⟨C,J,none⟩) n1 (.int .i64 (O:Int))) (zap (BRj.far (p:=⟨C,J,none⟩) n2 (.int .i64 (O:Int))) (zap (BBj.far (p:=⟨C,J,none⟩) n3 (.int .i64 (O:Int))) (zap (BQj.far (p:=⟨C,J,none⟩) n4 (.int .i64 (O:Int))) (hTw.setCell (p:=⟨C,J,none⟩) (show w.heap.size<=C by omega) (.int .i64 (O:Int)))))));have W:=BBj.cell 1;have A:=BPj.cell 0;simp at W A;have hJ0:(0:Int)<=(J:Int):=by omega
       have hJ1:(J:Int)<(f.length:Int):=by omega
       have hu0:(0:Int)<=(u:Int):=by omega
       have hu1:(u:Int)<(n:Int):=by omega
       clear hfz hcl hset HS2 hx0 hPj BPj BRj BBj BQj hz0 hv2 hv3 Y htm;go_upto_region 14 with fail;have Tk:Below wr.heap.size wr wr:=zab _ _;have HKD:(wr.setCell ⟨C,J,none⟩ (.int .i64 (O:Int))).drew.cell? ⟨w.heap.size,0,none⟩=some (.int .i64 (n:Int))/\(wr.setCell ⟨C,J,none⟩ (.int .i64 (O:Int))).drew.cell? ⟨P.heap.size,1,none⟩=some (.slice (some ⟨gO,0,none⟩) c.length E)/\(wr.setCell ⟨C,J,none⟩ (.int .i64 (O:Int))).drew.cell? ⟨gO,k*2+1,none⟩=some (.slice (some ⟨C,0,none⟩) f.length dt)/\(wr.setCell ⟨C,J,none⟩ (.int .i64 (O:Int))).drew.cell? ⟨nb,no+u,none⟩=some (.int .i64 (O:Int))/\(wr.setCell ⟨C,J,none⟩ (.int .i64 (O:Int))).drew.cell? ⟨b',o'+q,none⟩=some (.int .i64 (u:Int)):=⟨q24 n1 A,q24 n3 W,q24 n7 cT,q24 n5 aa,q24 n6 Q⟩
       go_region_held3 (fun w'=>w'.cell? ⟨w.heap.size,0,none⟩=some (.int .i64 (n:Int))/\w'.cell? ⟨P.heap.size,1,none⟩=some (.slice (some ⟨gO,0,none⟩) c.length E)/\w'.cell? ⟨gO,k*2+1,none⟩=some (.slice (some ⟨C,0,none⟩) f.length dt)/\w'.cell? ⟨nb,no+u,none⟩=some (.int .i64 (O:Int))/\w'.cell? ⟨b',o'+q,none⟩=some (.int .i64 (u:Int))) (first|go_keep|exact⟨qe Tk A,qe Tk W,qe Tk cT,qe Tk aa,qe Tk Q⟩|exact HKD|exact⟨q24 n1 A,q24 n3 W,q24 n7 cT,q24 n5 aa,q24 n6 Q⟩|exact⟨q58 n1 A,q58 n3 W,q58 n7 cT,q58 n5 aa,q58 n6 Q⟩) (first
        |(go_at_call 150;refine(qfa _ j j n (D.map (nmAt s)) _ (by first|exact RA|exact RA.drew qd) (by omega) (by omega) HMB.out).mono ?_;rintro e w' ⟨rfl,rfl⟩;rw[HJ2.out]))
       all_goals
        go_wp2_with fail
        go_roundw
        case rel=>exact⟨q+1,by omega,by go_num,U.out.1.drew,U.out.2.1.drew,U.out.2.2.1.drew,U.out.2.2.2.1.drew,HS3.out.next (zai (zab _ _)),zai U.out.2.2.2.2⟩
        case measure=>simp[intOf];omega
    .have hqe:q=f.length:=by omega
     have hlt':¬(q:Int)<(f.length:Int):=by omega
     have HPN:Hid (PO w0.heap.size wr (.slice H c.length E) (q70 n s c (k+1)) L bls):=by
      show PO _ _ _ _ _ _
      rw[<-qig HYK.out,HRO.out,<-hqe];exact l
     clear hqe;go_wp2_with fail
     go_roundw
     case rel=>exact⟨k+1,by omega,by go_num,I,G,T,HPN.out,hTi⟩
     case measure=>simp[intOf];omega
  .have hlt':¬(k:Int)<(c.length:Int):=by omega
   rw[qka (by omega)]at l;have hlow:w.heap.size<=w0.heap.size:=by have:=K.out;omega
   have hPF:=((l.far (p:=⟨w.heap.size+1,0,none⟩) (by have:=K.out;show w.heap.size+1<w0.heap.size;omega) (.int .i64 (n:Int))).far (p:=⟨w.heap.size+1,1,none⟩) (by have:=K.out;show w.heap.size+1<w0.heap.size;omega) (.slice H c.length E)).mono hlow;have hTF:=(hT.setCell (p:=⟨w.heap.size+1,0,none⟩) (by show _<=_;simp) (.int .i64 (n:Int))).setCell (p:=⟨w.heap.size+1,1,none⟩) (by show _<=_;simp) (.slice H c.length E);have cO0:=T.cell 0;have cO1:=T.cell 1;have cR0:=G.cell 0;have cR1:=G.cell 1;have fR0:=G.frozen 0;have fR1:=G.frozen 1;have BRR:Blk ((wr.setCell ⟨w.heap.size+1,0,none⟩ (.int .i64 (n:Int))).setCell ⟨w.heap.size+1,1,none⟩ (.slice H c.length E)) (w.heap.size+1) 24 #[.int .i64 (n:Int),.slice H c.length E]:=by simpa using((G.set_ 0 (.int .i64 (n:Int))).set_ 1 (.slice H c.length E))
   have HPF:=zaa hPF;have n8:¬w.heap.size+1=P.heap.size:=by have:=K.out;omega
   have n9:¬P.heap.size=w.heap.size+1:=fun e=>n8 e.symm
   have cO1':(wr.setCell ⟨w.heap.size+1,0,none⟩ (.int .i64 (n:Int))).cell? ⟨P.heap.size,1,none⟩=some (.slice H c.length E):=q58 (p:=⟨w.heap.size+1,0,none⟩) (a:=⟨P.heap.size,1,none⟩) n9 (by simpa using cO1);simp at cO0 cO1 cR0 cR1;clear hPF l;go_wp2_with fail
   (try simp only[Exit.inBlock,Exit.then])
   refine zas (v:=.agg #[.int .i64 (n:Int),.slice H c.length E]) (zb3 rfl _ _ (w.heap.size+1) 24 #[.int .i64 (n:Int),.slice H c.length E] (0,0) _ (by simp) BRR zb7 rfl (by kernel_rfl)) rfl ?_;exact⟨_,L,bls,rfl,HPF.out,hTF⟩
theorem qpc (L:Nat) (b:L<=1048576):∃M:Array Value,M.toList=ints (List.replicate L 0)/\∀w:World,(Instr.makeSlice 43 (.int .i64 (L:Int)) (.int .i64 (L:Int))).run Tryz.prog w=.ok (.slice (some ⟨w.heap.size,0,none⟩) L L) (w.alloc (.cells M 3)):=by
 obtain⟨g,f,c,d,e⟩:=info_parts q15;refine⟨madeCells (Value.int .i64 0).cells (L*1),?_,fun w=>?_⟩
 .rw[Nat.mul_one,q7s]
  exact toList_madeCells_one (.int .i64 0) L
 .have a:=run_make (P:=Tryz.prog) w 43 3 g (.int .i64 0) zax f c .i64 .i64 L L (by omega) (Int.le_refl _) (by rw[e];omega) (by omega)
  simp only[za1]at a;rw[d]at a;exact a
theorem qnh {w:World} {M:Array Value} {L:Nat} (b:M.toList=ints (List.replicate L 0)) (d:L<=1048576) {lo:Nat} (a:lo<=w.heap.size):(w.alloc (.cells M 3)).ownsRow lo 3 1 (.slice (some ⟨w.heap.size,0,none⟩) L L) L (ints (List.replicate L 0)):=by
 have c:M.size=L*1:=by rw[<-Array.length_toList,b];simp[ints]
 have:=zby (e:=3) (size:=1) w M L a (by unfold maxLen;omega) c;rw[b]at this;exact this
theorem qc8 (cs:List Value) (x:qi) (N:Option Addr) (n cN:Nat) (s:List Int) (w:World) (h:qf.rd w cs x) (hs:RdL RI w N n s) (hx:AlgP x) (hp:PermL x.1.toNat s):
  Calls Tryz.prog 64 #[.agg cs.toArray,.slice N n cN] w (AlgE w (ren x s)):=by
 obtain⟨a,c⟩:=x;obtain⟨z,rfl⟩:∃z:Nat,a=(z:Int):=⟨a.toNat,by have h1:1<=a:=hx.1;omega⟩;have hz1:1<=z:=by have h1:(1:Int)<=(z:Int):=hx.1;omega
 have hz5:z<=8:=by have h1:(z:Int)<=8:=hx.2.1;omega
 have hm4:c.length<=4:=hx.2.2.1;have HOP:Hid (∀o∈c,OpP z o):=fun o ho=>by have:=hx.2.2.2 o ho;simpa using this
 have Q:Hid (PermL z s):=by show PermL z s;simpa using hp
 have hnz:n=z:=by rw[<-hs.len];exact Q.out.1
 subst hnz;have HREN:Hid (ren ((n:Int),c) s=((n:Int),c.map (q51 n s))):=by show _=_;unfold ren;simp
 obtain⟨B,m,d,rfl,qs,qo⟩:=qv h;obtain rfl:c.length=m:=qo.len;obtain⟨w0,hw0,T0,hs0,BP,BR,BO⟩:=q7k w #[.int .i64 (n:Int),.slice B c.length d] #[.int .i64 0,.slice none 0 0] #[.int .i64 (n:Int),.slice none 0 0] 24 24;have HW0:Hid (_=w0):=hw0.symm;have W:=zaa hs0;have hPO0:PO w0.heap.size w0 (.slice none 0 0) ((c.take 0).map (q51 n s)) [] []:=PO.nil _ _;obtain⟨S,A⟩:=cl2 BP;rw[hw0]at S A;have cP0':=((Blk.new w 24 #[.int .i64 (n:Int),.slice B c.length d]).alloc (.cells #[.int .i64 0,.slice none 0 0] 24)).cell 0;simp at cP0';rw[HREN.out];clear hw0 hs0 hp hx h
 go_enter Tryz.func64,Tryz.ntmps64
 go_wp2_with fail;clear S A cP0'
 go_loopw [6] (fun i wr=>∃(k:Nat) (v:Value) (css:List (List Value)) (bls:List (List Nat)),k<=c.length/\i=.int .i64 k/\Blk wr w.heap.size 24 #[.int .i64 (n:Int),.slice B c.length d]/\Blk wr (w.heap.size+1) 24 #[.int .i64 0,.slice none 0 0]/\Blk wr (w.heap.size+1+1) 24 #[.int .i64 (n:Int),v]/\PO w0.heap.size wr v ((c.take k).map (q51 n s)) css bls/\Below w.heap.size w wr) (fun i _=>c.length - (intOf i).toNat)
 case atStart=>
  rw[HW0.out];exact⟨0,_,_,_,zah _,rfl,BP,BR,BO,hPO0,T0⟩
 case round=>
  clear hPO0 BP BR BO T0;obtain⟨k,v,css,bls,hk,rfl,BP,BR,BO,K,hT⟩:=hrel;have A:=BP.cell 1;simp at A
  by_cases hlt:k<c.length
  .obtain⟨r,hwo⟩:∃r:World,r=wr:=⟨_,rfl⟩
   subst hwo;have hk0:(0:Int)<=(k:Int):=by omega
   have hk1:(k:Int)<(c.length:Int):=by omega
   obtain⟨b,o,vs,y,rfl,-,hc,hr,-,hyk⟩:=qo.at hlt;obtain⟨ya,G⟩:=y;have ae:=HOP.out (ya,G) (zaf hyk);obtain⟨f,rfl⟩:∃f:Nat,ya=(f:Int):=⟨ya.toNat,by have h1:0<=ya:=ae.1;omega⟩;obtain⟨B',m',d',rfl,qa,qt⟩:=rdOp hr;obtain rfl:G.length=m':=qt.len;have hkk3:f<=3:=by have h1:(f:Int)<=3:=ae.2.1;omega
   have HYL:Hid (G.length=n ^ f):=by show _=_;have:=ae.2.2.1;simpa using this
   have HYB:Hid (∀v∈G,0<=v/\v<=(n:Int) - 1):=ae.2.2.2;obtain⟨L,hL⟩:∃L,G.length=L:=⟨_,rfl⟩;have HLT:=zaa hL;have hyl8:L<=4096:=by rw[<-hL,HYL.out];exact q3n (by omega) (by omega)
   have HLP:Hid (L=n ^ f):=by show _=_;rw[<-hL];exact HYL.out
   have HRO:Hid (q51 n s ((f:Int),G)=((f:Int),q2n n f s G (List.replicate L 0) L)):=by
    show _=_
    unfold q51;simp only[za1];rw[HYL.out,HLP.out,qkn (T:=G) (T':=List.replicate (n ^ f) 0) (by omega) Q.out HYL.out (by simp)]
   rw[hL]at hc qt;have aa:w.cell? ⟨b,o+k*2,none⟩=some (.int .i64 (f:Int)):=hc 0 _ rfl;have ab:w.cell? ⟨b,o+k*2+1,none⟩=some (.slice B' L d'):=hc 1 _ rfl;have Z:=qe hT aa;have I:=qe hT ab;have HYK:=zaa hyk;clear hc hr hyk ae hL;go_upto_region 5 with fail
   go_cut [7] (fun v7 wx=>∃g gq,v7=.pointer (some ⟨gq,0,none⟩)/\Blk wx gq 122 #[.int .i64 (f:Int),.slice (some ⟨g,0,none⟩) L L]/\wx.ownsRow r.heap.size 3 1 (.slice (some ⟨g,0,none⟩) L L) L (ints (List.replicate L 0))/\r.heap.size<=gq/\Below r.heap.size r wx)
   case first=>
    obtain⟨M,hM,HMK⟩:=qpc L (by omega);have HM:=zaa hM;clear hM;have cP1a:=qe (qm r (.cells #[.int .i64 0,.slice none 0 0] 122)) (A);have cc0a:=qe (qm r (.cells #[.int .i64 0,.slice none 0 0] 122)) (Z);have cc1a:=qe (qm r (.cells #[.int .i64 0,.slice none 0 0] 122)) (I);have cP1b:=qe (qm r (.cells M 3)) (A);have cc0b:=qe (qm r (.cells M 3)) (Z);have cc1b:=qe (qm r (.cells M 3)) (I);have cP1c:=qe (qm (r.alloc (.cells #[.int .i64 0,.slice none 0 0] 122)) (.cells M 3)) (qe (qm r (.cells #[.int .i64 0,.slice none 0 0] 122)) (A));have cc0c:=qe (qm (r.alloc (.cells #[.int .i64 0,.slice none 0 0] 122)) (.cells M 3)) (qe (qm r (.cells #[.int .i64 0,.slice none 0 0] 122)) (Z));have cc1c:=qe (qm (r.alloc (.cells #[.int .i64 0,.slice none 0 0] 122)) (.cells M 3)) (qe (qm r (.cells #[.int .i64 0,.slice none 0 0] 122)) (I));have cP1d:=qe (qm (r.alloc (.cells M 3)) (.cells #[.int .i64 0,.slice none 0 0] 122)) (qe (qm r (.cells M 3)) (A));have cc0d:=qe (qm (r.alloc (.cells M 3)) (.cells #[.int .i64 0,.slice none 0 0] 122)) (qe (qm r (.cells M 3)) (Z));have cc1d:=qe (qm (r.alloc (.cells M 3)) (.cells #[.int .i64 0,.slice none 0 0] 122)) (qe (qm r (.cells M 3)) (I))
    go_region
    all_goals
     go_wp2_with fail;go_meet
    .refine⟨r.heap.size,r.heap.size+1,rfl,?_,?_,by omega,zai (q6l _ _ _)⟩
     .have:=Blk.new (r.alloc (.cells M 3)) 122 #[.int .i64 (f:Int),.slice (some ⟨r.heap.size,0,none⟩) L L]
      rw[ze9]at this;exact this.drew
     .exact q2f ((qnh HM.out (by omega) (zad _)).alloc _) fun _ _=>rfl
    .refine⟨r.heap.size+1,r.heap.size,rfl,?_,?_,zad _,zai (q6l _ _ _)⟩
     .exact((Blk.new r 122 #[.int .i64 (f:Int),.slice (some ⟨r.heap.size+1,0,none⟩) L L]).alloc _).drew
     .have:=qnh (w:=r.alloc (.cells #[.int .i64 (f:Int),.slice (some ⟨r.heap.size+1,0,none⟩) L L] 122)) HM.out (by omega) (lo:=r.heap.size) (by simp)
      rw[ze9]at this;exact q2f this fun _ _=>rfl
   case rest=>
    obtain⟨g,gq,rfl,BQ,E,hgq,hTc⟩:=hcut;obtain⟨w5,HWC⟩:∃wq:World,wq=wc:=⟨_,rfl⟩;subst HWC;have hdt:=hT.size;have hbw:b<w.heap.size:=q42 aa;clear Z I A;have H:=BQ.cell 1;simp at H;go_wp2_with fail;clear H
    go_loopw [8] (fun i wi=>∃q:Nat,q<=L/\i=.int .i64 q/\Blk wi gq 122 #[.int .i64 (f:Int),.slice (some ⟨g,0,none⟩) L L]/\wi.ownsRow r.heap.size 3 1 (.slice (some ⟨g,0,none⟩) L L) L (ints (q2n n f s G (List.replicate L 0) q))/\Below r.heap.size r wi) (fun i _=>L - (intOf i).toNat)
    case atStart=>exact⟨0,zah _,rfl,BQ,E,hTc⟩
    case round=>
     clear BQ E hTc;obtain⟨q,hq,rfl,BQ,E,O⟩:=hrel;have hTwi:=q9 hT O rfl;obtain⟨cQ0,H⟩:=cl2 BQ
     by_cases hltq:q<L
     .obtain⟨wi,hwi⟩:∃wi:World,wi=wr:=⟨_,rfl⟩
      subst hwi;have hq0:(0:Int)<=(q:Int):=by omega
      have hq1:(q:Int)<(L:Int):=by omega
      obtain⟨b',o',u0,u,rfl,hcu,⟨rfl,-⟩,-,hxu⟩:=qt.at hltq;have hub:=HYB.out u (zaf hxu);obtain⟨u,rfl⟩:=zam hub.1;have hun:u<n:=by omega
      obtain⟨J,HJ⟩:∃J,Hid (toI n f s q=J):=⟨_,rfl⟩;have hJ:J<L:=by rw[<-HJ.out,HLP.out];exact qnr (by omega) Q.out q
      obtain⟨nm,ad,hnmn,hnm2⟩:=Q.out.at hun;have HSTEP:Hid (q2n n f s G (List.replicate L 0) (q+1)=(q2n n f s G (List.replicate L 0) q).set J (nm:Int)):=by
       show _=_
       rw[q2n,HJ.out,zan,hxu];show(q2n n f s G (List.replicate L 0) q).set J (nmI s (u:Int))=_;have:=q49 ad;rw[this]
      obtain⟨nb,no,nv,nx,rfl,hcn,⟨rfl,-⟩,-,F⟩:=hs.at (k:=u) hun;rw[ad]at F;injection F with F
      subst F;have hbw2:b'<w.heap.size:=q42 hcu;have hbw3:nb<w.heap.size:=q42 hcn;have BPi:=BP.next O;have S:=BPi.cell 0;simp at S;clear hxu hub ad hnm2;go_wp2_with fail;refine(q4w q f n _ (by omega) (by omega) (by omega) (by omega)).mono ?_;rintro e w6 ⟨ga,rfl,hA,hb6⟩;obtain⟨D,HD⟩:∃D,Hid (digs n f q=D):=⟨_,rfl⟩;have HDL:Hid (D.length=f):=by show _=_;rw[<-HD.out,q2d]
      have HDB:Hid (∀x∈D,x<n):=by show ∀x∈D,_;rw[<-HD.out];exact fun x hx=>q2u (by omega) hx
      rw[HD.out]at hA;have HJ2:Hid (idx n (D.map (nmAt s))=J):=by show _=_;rw[<-HD.out];exact HJ.out
      have HMB:Hid (∀d∈D.map (nmAt s),d<n):=by
       intro d hd;rw[zb6]at hd;obtain⟨x,hx,rfl⟩:=hd;obtain⟨v',-,hv,e⟩:=Q.out.at (HDB.out x hx);omega
      have hT6:=q9 hTwi hb6 rfl;have BP6:=BPi.next hb6;have RA:RdL RI w6 (some ⟨ga,0,none⟩) f (nats D):=q14 (R:=RI) hA (qni (b:=n) (fun d hd=>Nat.le_of_lt (HDB.out d hd)) (by omega));clear cQ0 H S hA;go_wp2_with fail
      go_loopw [10,11] (fun v i wj=>∃j:Nat,j<=f/\i=.int .i64 j/\v=.int .i64 (idx n ((D.map (nmAt s)).take j):Nat)/\Below w6.heap.size w6 wj) (fun _ i _=>f - (intOf i).toNat)
      case atStart=>exact⟨0,zah _,rfl,rfl,zab _ _⟩
      case round=>
       obtain⟨j,hj,rfl,rfl,U⟩:=hrel;obtain⟨P,HP⟩:∃P,Hid (idx n ((D.map (nmAt s)).take j)=P):=⟨_,rfl⟩;have hP:P<=4096:=by
        rw[<-HP.out];have:=q9r (n:=n) (by omega) (l:=(D.map (nmAt s)).take j) (by rw[za8,zcv,HDL.out];omega) fun d hd=>HMB.out d (zbu hd)
        omega
       rw[HP.out];have V:=q9 hT6 U rfl
       by_cases hltj:j<f
       .have hj0:(0:Int)<=(j:Int):=by omega
        have hj1:(j:Int)<(f:Int):=by omega
        obtain⟨dj,hdj⟩:∃dj,D[j]?=some dj:=⟨_,zae (by rw[HDL.out];exact hltj)⟩;have hdn:=HDB.out dj (zaf hdj);obtain⟨v',hv',hvn,hnm'⟩:=Q.out.at hdn;obtain⟨nv,nx,hcn',⟨rfl,-⟩,-,F⟩:=(hs.next qd V).at' (k:=dj) hdn;rw[hv']at F;injection F with F
        subst F;obtain⟨av,ax,hca,⟨rfl,-⟩,-,hxa⟩:=(RA.next qd U).at' hltj;rw[zcm]at hca;rw[qk3 hdj]at hxa;injection hxa with hxa
        subst hxa;have S:=(BP6.next U).cell 0;simp at S;have HT:Hid (idx n ((D.map (nmAt s)).take (j+1))=P*n+v'):=by
         show _=_
         rw[q9b (d:=v') (by rw[za6,hdj];simp[hnm']),HP.out]
        have hM:P*n<=4096*8:=zcj hP (by omega);have hm0:(0:Int)<=(P:Int)*(n:Int):=by rw[<-zbx];omega
        have hm1:(P:Int)*(n:Int)<=32768:=by rw[<-zbx];omega
        have HE:Hid ((P:Int)*(n:Int)=((P*n:Nat):Int)):=(zbx _ _).symm;have hd0:(0:Int)<=(dj:Int):=by omega
        have hd1:(dj:Int)<(n:Int):=by omega
        have HVN:=zaa hvn;have hvm:(v':Int)<=8:=by omega
        clear hM hdj hv' hnm' hvn;go_upto_region 14 with fail
        go_quiet (fail)
        go_wp2_with fail
        go_roundw
        case rel=>exact⟨j+1,by omega,by go_num,by rw[HT.out,HE.out];simp,by first|exact U|exact qc U _⟩
        case measure=>simp[intOf];omega
       .have hlt':¬(j:Int)<(f:Int):=by omega
        have hPJ:P=J:=by rw[<-HP.out,<-HJ2.out,zaq (by rw[zcv,HDL.out];omega)]
        subst hPJ;have ac:=q9 hb6 U rfl;have C:=ql E ac;have BQr:=BQ.next ac;have Y:=BP6.next U;have H:=BQr.cell 1;have A:=Y.cell 1;simp at H A;have I:=qe V ab;have hcu2:=qe V hcu;have hcn2:=qe V hcn;obtain⟨x0,hx0⟩:∃x0,(ints (q2n n f s G (List.replicate L 0) q))[P]?=some x0:=⟨_,zae (by rw[q3d,q2p];simp;exact hJ)⟩;have cJ:wr.cell? ⟨g,P,none⟩=some x0:=(C.cellAt P (by omega)).trans hx0;have fJ:=C.frozenAt P;have hgo:=(C.lt g rfl).1;have hst:=(C.stored P (.int .i64 (nm:Int))).1;rw[q2a,<-HSTEP.out]at hst;have hwl:=BP.lt;have n1:w.heap.size≠g:=by omega
        have n2:gq≠g:=fun e=>q1q C BQr (by decide) (by rw[e];rfl)
        have n3:b≠g:=by omega
        have n4:b'≠g:=by omega
        have n5:nb≠g:=by omega
        have t:=zaa (zap (BQr.far (p:=⟨g,P,none⟩) n2 (.int .i64 (nm:Int))) (zap hst ((q9 O ac rfl).setCell (p:=⟨g,P,none⟩) hgo (.int .i64 (nm:Int)))));have hP0:(0:Int)<=(P:Int):=by omega
        have hP1:(P:Int)<(L:Int):=by omega
        have hu0:(0:Int)<=(u:Int):=by omega
        have hu1:(u:Int)<(n:Int):=by omega
        clear hst C hx0 E hcu hcn ab aa BQr Y;go_upto_region 15 with fail;have Tk:Below wr.heap.size wr wr:=zab _ _;have HKD:(wr.setCell ⟨g,P,none⟩ (.int .i64 (nm:Int))).drew.cell? ⟨gq,1,none⟩=some (.slice (some ⟨g,0,none⟩) L L)/\(wr.setCell ⟨g,P,none⟩ (.int .i64 (nm:Int))).drew.cell? ⟨w.heap.size,1,none⟩=some (.slice (some ⟨b,o,none⟩) c.length d)/\(wr.setCell ⟨g,P,none⟩ (.int .i64 (nm:Int))).drew.cell? ⟨b,o+k*2+1,none⟩=some (.slice (some ⟨b',o',none⟩) L d')/\(wr.setCell ⟨g,P,none⟩ (.int .i64 (nm:Int))).drew.cell? ⟨b',o'+q,none⟩=some (.int .i64 (u:Int))/\(wr.setCell ⟨g,P,none⟩ (.int .i64 (nm:Int))).drew.cell? ⟨nb,no+u,none⟩=some (.int .i64 (nm:Int)):=⟨q24 n2 H,q24 n1 A,q24 n3 I,q24 n4 hcu2,q24 n5 hcn2⟩
        go_region_held3 (fun w'=>w'.cell? ⟨gq,1,none⟩=some (.slice (some ⟨g,0,none⟩) L L)/\w'.cell? ⟨w.heap.size,1,none⟩=some (.slice (some ⟨b,o,none⟩) c.length d)/\w'.cell? ⟨b,o+k*2+1,none⟩=some (.slice (some ⟨b',o',none⟩) L d')/\w'.cell? ⟨b',o'+q,none⟩=some (.int .i64 (u:Int))/\w'.cell? ⟨nb,no+u,none⟩=some (.int .i64 (nm:Int))) (first|go_keep|exact⟨qe Tk H,qe Tk A,qe Tk I,qe Tk hcu2,qe Tk hcn2⟩|exact HKD) (fail)
        all_goals
         go_wp2_with fail
         go_roundw
         case rel=>exact⟨q+1,by omega,by go_num,t.out.1.drew,q2f t.out.2.1 (fun _ _=>rfl),zai t.out.2.2⟩
         case measure=>simp[intOf];omega
     .have hqe:q=L:=by omega
      subst hqe;have hlt':¬(q:Int)<(q:Int):=by omega
      obtain⟨X,HLL⟩:∃X,Hid ((c.take k).map (q51 n s)=X):=⟨_,rfl⟩;have HLK:Hid (X.length=k):=by show _=_;rw[<-HLL.out,zcv,za8];omega
      rw[HLL.out]at K;have HNX:Hid ((c.take (k+1)).map (q51 n s)=X++ [((f:Int),q2n n f s G (List.replicate q 0) q)]):=by
       show _=_
       rw[q3i HYK.out,zeo,HLL.out,<-HRO.out];rfl
      obtain⟨VA,vc,rfl⟩:=qq K.2.1;have hTl:(q2n n f s G (List.replicate q 0) q).length=q:=by rw[q2p,zej]
      have hTb:∀y∈q2n n f s G (List.replicate q 0) q,InR y:=fun y hy=>by
       have:=qh3 Q.out (fun v hv=>by rw[List.mem_replicate]at hv;omega) HYB.out q (by rw[HLT.out];exact zad _) y hy;exact⟨by omega,by omega⟩
      have hO0:wr.ownsRow 0 3 1 (.slice (some ⟨g,0,none⟩) q q) (q2n n f s G (List.replicate q 0) q).length (ints (q2n n f s G (List.replicate q 0) q)):=by rw[hTl];exact qh E (zah _)
      have how:shOp.own wr [.int .i64 (f:Int),.slice (some ⟨g,0,none⟩) q q] ((f:Int),q2n n f s G (List.replicate q 0) q) [g]:=⟨[.int .i64 (f:Int)], [.slice (some ⟨g,0,none⟩) q q], [], [g],rfl,rfl,⟨_,rfl,⟨rfl,by omega,by omega⟩,rfl⟩,⟨_,rfl,hO0,hTb,rfl⟩⟩;have hgl:=E.lt g rfl;have hwz0:w0.heap.size<=r.heap.size:=by have h1:=BO.lt;have h2:=W.out;omega
      obtain⟨hvs,HPU⟩:=K.push O hwz0 how ⟨by simp,fun b hb=>by simp at hb;subst hb;exact hgl⟩;have BOr:=BO.next O;have Y:=BP.next O;have BRr:=BR.next O;have cO1:=BOr.cell 1;simp at cO1;have hsz:=O.size;clear how hO0 hTb hTl K
      go_wp2_with (at_builtin;refine app2 wr rfl _ _ 22 122 rfl (.agg #[.int .i64 0,.slice none 0 0]) 32 ze4 q6q rfl (by decide) w0.heap.size X.length vc VA css.flatten rfl hvs (.int .i64 (f:Int)) (.slice (some ⟨g,0,none⟩) q q) rfl rfl rfl (by have:=HLK.out;omega) (by omega) ?_;intro A8 c8 w8 hown8 hg8 hb8;have BO8:=BOr.grown hg8 (fun e=>q1q hvs BOr (by decide) e.symm);have BR8:=BRr.grown hg8 (fun e=>q1q hvs BRr (by decide) e.symm);have BP8:=Y.grown hg8 (fun e=>q1q hvs Y (by decide) e.symm);have cO8:=BO8.cell 1;have fO8:=BO8.frozen 1;simp at cO8)
      have PN2:=(HPU hown8 hg8).far (p:=⟨w.heap.size+1+1,1,none⟩) (by have:=W.out;show w.heap.size+1+1<w0.heap.size;omega) (.slice A8 (X.length+1) c8);have hT8:=(hTwi.trans (hb8.mono (by have:=W.out;omega))).setCell (p:=⟨w.heap.size+1+1,1,none⟩) (by show _<=_;simp;try omega) (.slice A8 (X.length+1) c8);have BO9:Blk (w8.setCell ⟨w.heap.size+1+1,1,none⟩ (.slice A8 (X.length+1) c8)) (w.heap.size+1+1) 24 #[.int .i64 (n:Int),.slice A8 (X.length+1) c8]:=by simpa using BO8.set_ 1 (.slice A8 (X.length+1) c8)
      have BR9:=BR8.far (p:=⟨w.heap.size+1+1,1,none⟩) (by simp) (.slice A8 (X.length+1) c8);have BP9:=BP8.far (p:=⟨w.heap.size+1+1,1,none⟩) (by simp;try omega) (.slice A8 (X.length+1) c8);have t:=zaa (zap BP9 (zap BR9 (zap BO9 (zap PN2 hT8))));clear BO9 BR9 BP9 PN2 hT8
      go_roundw
      case rel=>exact⟨k+1,_,_,_,by omega,by go_num,t.out.1,t.out.2.1,t.out.2.2.1,by rw[HNX.out];exact t.out.2.2.2.1,t.out.2.2.2.2⟩
      case measure=>simp[intOf];omega
  .have hke:k=c.length:=by omega
   have hlt':¬(k:Int)<(c.length:Int):=by omega
   rw[zaq (by omega)]at K;obtain⟨VA,vc,hv⟩:=qq K.2.1;rw[zcv]at hv;subst hv;have hlow:w.heap.size<=w0.heap.size:=by have:=W.out;omega
   have hPF:=((K.far (p:=⟨w.heap.size+1,0,none⟩) (by have:=W.out;show w.heap.size+1<w0.heap.size;omega) (.int .i64 (n:Int))).far (p:=⟨w.heap.size+1,1,none⟩) (by have:=W.out;show w.heap.size+1<w0.heap.size;omega) (.slice VA c.length vc)).mono hlow;have hTF:=(hT.setCell (p:=⟨w.heap.size+1,0,none⟩) (by show _<=_;simp) (.int .i64 (n:Int))).setCell (p:=⟨w.heap.size+1,1,none⟩) (by show _<=_;simp) (.slice VA c.length vc);have cO0:=BO.cell 0;have cO1:=BO.cell 1;have cR0:=BR.cell 0;have cR1:=BR.cell 1;have fR0:=BR.frozen 0;have fR1:=BR.frozen 1;have BRR:Blk ((wr.setCell ⟨w.heap.size+1,0,none⟩ (.int .i64 (n:Int))).setCell ⟨w.heap.size+1,1,none⟩ (.slice VA c.length vc)) (w.heap.size+1) 24 #[.int .i64 (n:Int),.slice VA c.length vc]:=by simpa using((BR.set_ 0 (.int .i64 (n:Int))).set_ 1 (.slice VA c.length vc))
   have HPF:=zaa hPF;simp at cO0 cO1 cR0 cR1;clear hPF K hke;go_wp2_with fail
   (try simp only[Exit.inBlock,Exit.then])
   refine zas (v:=.agg #[.int .i64 (n:Int),.slice VA c.length vc]) (zb3 rfl _ _ (w.heap.size+1) 24 #[.int .i64 (n:Int),.slice VA c.length vc] (0,0) _ (by simp) BRR zb7 rfl (by kernel_rfl)) rfl ?_;exact⟨_,css,bls,rfl,HPF.out,hTF⟩
theorem qp {P:Program} {fn:Func} {p u:Tmp} {c:TypeId} (h:fn.results= #[.cell p c,.tmp u]) (a:Array Value) (w:World) (g:Nat) (t:TypeId) (cs:Array Value) (e:Nat×Nat) (d:TypeDesc) (b:Value)
  (j:a.getD p undef=.pointer (some ⟨g,0,none⟩)) (i:w.heap[g]?=some (.cells cs t e))
  (k:P.underlying c=some d) (hd:(match d with| .struct _| .array _ _=>true|_=>false)=true) (hi:(P.info? c).map (·.size)=some cs.size) (f:a.getD u undef=b):
  (results fn a).run P w=.ok (.tuple #[.agg cs,b]) w:=by
 rw[results_cell_tmp h,j,f];simp[asAddr,Result.andThen,run_loadVar_row w g t c cs e d i k hd hi]
theorem q41 (w:World) (a b d:Array Value) (tp c e:TypeId):∃w3,w3=((w.alloc (.cells a tp)).alloc (.cells b c)).alloc (.cells d e)/\Below w.heap.size w w3/\w3.heap.size=w.heap.size+3/\Blk w3 w.heap.size tp a/\Blk w3 (w.heap.size+1) c b/\Blk w3 (w.heap.size+1+1) e d:=by
 refine⟨_,rfl,qb0 w _ _ _,by simp,((Blk.new w tp a).alloc _).alloc _,?_,?_⟩
 .have:=((Blk.new (w.alloc (.cells a tp)) c b).alloc (.cells d e))
  rwa [show(w.alloc (.cells a tp)).heap.size=w.heap.size+1 by simp]at this
 .have:=Blk.new ((w.alloc (.cells a tp)).alloc (.cells b c)) e d
  rwa [show((w.alloc (.cells a tp)).alloc (.cells b c)).heap.size=w.heap.size+1+1 by simp]at this
theorem q7j {α:Type} {S:Sh α} {w w0:World} {cs:List Value} {x:α} {a:List Nat} (h:S.own w cs x a) (c:w.heap.size=w0.heap.size):w0.heap.size∉a:=fun b=>by
 have:=S.olt h _ b;omega
theorem Blk.chgB {w w':World} {g:Nat} {t:TypeId} {cs:Array Value} {a:List Nat} (h:Blk w g t cs) (b:ChgB a w w') (c:g∉a):Blk w' g t cs:=(b.block g h.lt c).trans h
noncomputable def q7f (n:Nat) (L:List Int):Bool:=tt (PermL n L)
theorem qee {n:Nat} {L:List Int} (h:L.length≠n):false=q7f n L:=q2g fun a=>h a.1
theorem qef {n:Nat} {L:List Int} (h:q1v 0 ((n:Int) - 1) L=false):false=q7f n L:=q2g fun a=>by
 have:=q31.2 a.2.1;rw[this]at h;cases h
theorem qed {n k:Nat} {L:List Int} {y:Int} (d:L[k]?=some y) (h:hasI y (L.take k)=true):false=q7f n L:=q2g fun c=>by
 have b:=q3s.1 h;obtain⟨i,a⟩:=zbh b;rw[zdx]at a
 split at a
 .have:=q9d c.2.2 a d
  omega
 .cases a
theorem qeg {n:Nat} {L:List Int} (a:L.length=n) (b:q1v 0 ((n:Int) - 1) L=true) (c:L.Nodup):true=q7f n L:=q6i ⟨a,q31.1 b,c⟩
theorem qbk {k:Nat} {L:List Int} {y:Int} (h:(L.take k).Nodup) (g:L[k]?=some y) (d:hasI y (L.take k)=false):(L.take (k+1)).Nodup:=by
 rw[zbj,g];show(L.take k++ [y]).Nodup;rw[zbf];refine⟨h,by simp,fun a f b c=>?_⟩;rw[zcf]at c;subst c;intro e;subst e;rw[q3s.2 f]at d;cases d
theorem qja (n:Nat) (L:List Int):inL n (L.take 0)=List.replicate n false:=by
 unfold inL;rw[zc4];exact List.eq_replicate_iff.2 ⟨by simp,fun b a=>by obtain⟨y,-,rfl⟩:=zb6.1 a;rfl⟩
theorem qnc {n x:Nat} {L:List Int} (a:x<n):gB (inL n L) x=hasI (x:Int) L:=by
 unfold gB inL;rw[zan,za6,zeq a];rfl
theorem qfc (A:Option Addr) (m c n:Nat) (L:List Int) (w:World) (h:RdL RI w A m L) (Y:n<=1000):
  Calls Tryz.prog 85 #[.slice A m c,.int .i64 n] w (Bl w (.bool (q7f n L))):=by
 have R:=h.le;have D:=zaa h.len
 by_cases hmn:m=n
 case neg=>
  have S:((m:Int) !=(n:Int))=true:=by simp;omega
  have l:Hid (false=q7f n L):=qee (by rw[D.out];exact hmn)
  go_enter Tryz.func85,Tryz.ntmps85
  go_wp2_with fail;go_ret;exact⟨qg l.out,zab _ _⟩
 subst hmn;have S:((m:Int) !=(m:Int))=false:=by simp
 obtain⟨O,g⟩:∃b,Hid (q1v 0 ((m:Int) - 1) L=b):=⟨_,rfl⟩;have C:=zaa (q3y A m c L m w h);rw[g.out]at C
 rcases O with _|_
 .have l:=zaa (qef g.out)
  go_enter Tryz.func85,Tryz.ntmps85
  go_wp2_with fail;refine C.out.mono ?_;rintro e w' ⟨rfl,rfl⟩;go_wp2_with fail;go_ret;exact⟨qg l.out,zab _ _⟩
 have N:Hid (∀v∈L,0<=v/\v<=(m:Int) - 1):=q31.1 g.out
 go_enter Tryz.func85,Tryz.ntmps85
 go_wp2_with fail;refine C.out.mono ?_;rintro e w' ⟨rfl,rfl⟩;obtain⟨f,F⟩:∃f:World,f=w:=⟨_,rfl⟩;subst F
 go_wp2_with (at_make;refine qa1 f rfl _ _ rfl m rfl rfl (by omega) ?_;intro Z d y)
 have t:=(zab f.heap.size f).grown y (zad _) (by simp);clear y
 go_loopw [22] (fun i wr=>∃k:Nat,k<=m/\i=.int .i64 k/\wr.ownsRow f.heap.size 4 1 (.slice (some ⟨f.heap.size,0,none⟩) m m) m (bls (inL m (L.take k)))/\Hid ((L.take k).Nodup)/\Below f.heap.size f wr) (fun i _=>m - (intOf i).toNat)
 case atStart=>
  refine⟨0,zah _,rfl,?_,(by show(L.take 0).Nodup;simp),t⟩;rw[qja];exact d
 case round=>
  clear d t;obtain⟨k,X,rfl,a,r,j⟩:=hrel
  by_cases hlt:k<m
  .have Q:(0:Int)<=(k:Int):=by omega
   have H:(k:Int)<(m:Int):=by omega
   obtain⟨b,o,u,v,rfl,K,⟨rfl,T,U⟩,-,B⟩:=h.at hlt;have I:=N.out v (zaf B);obtain⟨x,rfl⟩:=zam I.1;have q:x<m:=by omega
   have s:=zaa (qc5 B q);have J:=zaa B;replace K:=qe j K;obtain⟨M,p⟩:∃b,Hid (hasI (x:Int) (L.take k)=b):=⟨_,rfl⟩;have G:wr.cell? ⟨f.heap.size,x,none⟩=some (.bool M):=by rw[a.cellAt x (by omega),q64 (by rw[q5f];exact q),qnc q,p.out]
   have P:=a.frozenAt x;have z:=(a.stored x (.bool true)).1;rw[q78,s.out]at z;have V:(0:Int)<=(x:Int):=by omega
   have W:(x:Int)<(m:Int):=by omega
   clear B a
   rcases M with _|_
   .have E:=zaa (qbk r.out J.out p.out)
    go_wp2_with fail
    go_roundw
    case rel=>exact⟨k+1,by omega,by go_num,z,E,j.setCell (zad _) _⟩
    case measure=>simp[intOf];try omega
   .have l:Hid (false=q7f m L):=qed J.out p.out
    go_wp2_with fail;go_ret;exact⟨qg l.out,j⟩
  .have H:¬(k:Int)<(m:Int):=by omega
   have l:Hid (true=q7f m L):=qeg D.out g.out (by have:=r.out;rwa [zaq (by rw[D.out];omega)]at this);go_wp2_with fail;go_ret;exact⟨qg l.out,j⟩
theorem qfg (A:Option Addr) (m c n:Nat) (L:List Int) (w:World) (h:RdL RI w A m L) (Y:n<=1000):
  Calls Tryz.prog 63 #[.slice A m c,.int .i64 n] w (Bl w (.bool (q7f n L))):=by
 have R:=h.le;have D:=zaa h.len
 by_cases hmn:m=n
 case neg=>
  have S:((m:Int) !=(n:Int))=true:=by simp;omega
  have l:Hid (false=q7f n L):=qee (by rw[D.out];exact hmn)
  go_enter Tryz.func63,Tryz.ntmps63
  go_wp2_with fail;go_ret;exact⟨qg l.out,zab _ _⟩
 subst hmn;have S:((m:Int) !=(m:Int))=false:=by simp
 obtain⟨O,g⟩:∃b,Hid (q1v 0 ((m:Int) - 1) L=b):=⟨_,rfl⟩;have C:=zaa (q4q A m c L m w h (by omega) (by omega));rw[g.out]at C
 rcases O with _|_
 .have l:=zaa (qef g.out)
  go_enter Tryz.func63,Tryz.ntmps63
  go_wp2_with fail;refine C.out.mono ?_;rintro e w' ⟨rfl,rfl⟩;go_wp2_with fail;go_ret;exact⟨qg l.out,zab _ _⟩
 have N:Hid (∀v∈L,0<=v/\v<=(m:Int) - 1):=q31.1 g.out
 go_enter Tryz.func63,Tryz.ntmps63
 go_wp2_with fail;refine C.out.mono ?_;rintro e w' ⟨rfl,rfl⟩;obtain⟨f,F⟩:∃f:World,f=w:=⟨_,rfl⟩;subst F
 go_wp2_with (at_make;refine qa1 f rfl _ _ rfl m rfl rfl (by omega) ?_;intro Z d y)
 have t:=(zab f.heap.size f).grown y (zad _) (by simp);clear y
 go_loopw [6] (fun i wr=>∃k:Nat,k<=m/\i=.int .i64 k/\wr.ownsRow f.heap.size 4 1 (.slice (some ⟨f.heap.size,0,none⟩) m m) m (bls (inL m (L.take k)))/\Hid ((L.take k).Nodup)/\Below f.heap.size f wr) (fun i _=>m - (intOf i).toNat)
 case atStart=>
  refine⟨0,zah _,rfl,?_,(by show(L.take 0).Nodup;simp),t⟩;rw[qja];exact d
 case round=>
  clear d t;obtain⟨k,X,rfl,a,r,j⟩:=hrel
  by_cases hlt:k<m
  .have Q:(0:Int)<=(k:Int):=by omega
   have H:(k:Int)<(m:Int):=by omega
   obtain⟨b,o,u,v,rfl,K,⟨rfl,T,U⟩,-,B⟩:=h.at hlt;have I:=N.out v (zaf B);obtain⟨x,rfl⟩:=zam I.1;have q:x<m:=by omega
   have s:=zaa (qc5 B q);have J:=zaa B;replace K:=qe j K;obtain⟨M,p⟩:∃b,Hid (hasI (x:Int) (L.take k)=b):=⟨_,rfl⟩;have G:wr.cell? ⟨f.heap.size,x,none⟩=some (.bool M):=by rw[a.cellAt x (by omega),q64 (by rw[q5f];exact q),qnc q,p.out]
   have P:=a.frozenAt x;have z:=(a.stored x (.bool true)).1;rw[q78,s.out]at z;have V:(0:Int)<=(x:Int):=by omega
   have W:(x:Int)<(m:Int):=by omega
   clear B a
   rcases M with _|_
   .have E:=zaa (qbk r.out J.out p.out)
    go_wp2_with fail
    go_roundw
    case rel=>exact⟨k+1,by omega,by go_num,z,E,j.setCell (zad _) _⟩
    case measure=>simp[intOf];try omega
   .have l:Hid (false=q7f m L):=qed J.out p.out
    go_wp2_with fail;go_ret;exact⟨qg l.out,j⟩
  .have H:¬(k:Int)<(m:Int):=by omega
   have l:Hid (true=q7f m L):=qeg D.out g.out (by have:=r.out;rwa [zaq (by rw[D.out];omega)]at this);go_wp2_with fail;go_ret;exact⟨qg l.out,j⟩
end Go.Proofs.YtfnmkbpogbekpaaGreatDoor
