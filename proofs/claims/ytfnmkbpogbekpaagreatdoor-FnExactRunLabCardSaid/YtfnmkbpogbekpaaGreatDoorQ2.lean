import Derived.Test.YtfnmkbpogbekpaaGreatDoorQ1
import Derived.Deep.RegionLaw
import Derived.StillTailTactics
set_option linter.unusedVariables false
set_option linter.unusedSimpArgs false
set_option maxRecDepth 100000
set_option maxHeartbeats 32000000
namespace Go.Proofs.YtfnmkbpogbekpaaGreatDoor
open Go.RowKit
def inB (x a b:Int):Bool:=decide (a<=x) &&decide (x<=b)
theorem q26 (x a b:Int) (w:World):
  Calls Tryz.prog 68 #[.int .i64 x,.int .i64 a,.int .i64 b] w fun e w'=>e=.returned (.bool (inB x a b))/\w=w':=by
 unfold inB
 by_cases h:a<=x
 all_goals
  go_enter Tryz.func68,Tryz.ntmps68
  go_wp2
  go_ret;exact⟨qg (by simp;omega),rfl⟩
def hasI (x:Int):List Int->Bool
 | []=>false
 |y::l=>y==x||hasI x l
theorem ql8 (A:Option Addr) (n c:Nat) (xs:List Int) (y:Int) (w:World) (h:RdL RI w A n xs):
  Calls Tryz.prog 170 #[.slice A n c,.int .i64 y] w fun e w'=>e=.returned (.bool (hasI y xs))/\w=w':=by
 have d:=h.le
 go_enter Tryz.func170,Tryz.ntmps170
 go_wp2
 go_loop [5] (fun i=>∃k:Nat,k<=n/\i=.int .i64 k/\At (hasI y) xs k) (fun i=>n - (intOf i).toNat)
 case atStart=>exact⟨0,zah _,rfl,At.start _ _⟩
 case round=>
  obtain⟨k,g,rfl,H⟩:=hrel
  by_cases hlt:k<n
  .obtain⟨b,o,v,x,rfl,f,⟨rfl,-⟩,hd,-⟩:=h.at hlt
   have a:=zaa hd;clear hd
   go_wp2
   all_goals first
    | (go_ret
       exact ⟨qg (H.stop a.out (by rw [hasI, ‹(x == y) = true›]; rfl)), rfl⟩)
    | (go_round
       case rel => exact ⟨k + 1, by omega, by go_num, H.step a.out (by rw [hasI, ‹(x == y) = false›]; rfl)⟩
       case measure => simp [intOf]; omega)
  .go_wp2
   go_ret;exact⟨qg (H.done (h.drop_end hlt) rfl),rfl⟩
theorem qj3 (A:Option Addr) (n c:Nat) (xs:List Int) (y:Int) (w:World) (h:RdL RI w A n xs):
  Calls Tryz.prog 192 #[.slice A n c,.int .i64 y] w fun e w'=>e=.returned (.bool (!hasI y xs))/\w=w':=by
 have d:=h.le
 go_enter Tryz.func192,Tryz.ntmps192
 go_wp2
 go_loop [9] (fun i=>∃k:Nat,k<=n/\i=.int .i64 k/\At (hasI y) xs k) (fun i=>n - (intOf i).toNat)
 case atStart=>exact⟨0,zah _,rfl,At.start _ _⟩
 case round=>
  obtain⟨k,g,rfl,H⟩:=hrel
  by_cases hlt:k<n
  .obtain⟨b,o,v,x,rfl,f,⟨rfl,-⟩,hd,-⟩:=h.at hlt
   have a:=zaa hd;clear hd
   go_wp2
   all_goals first
    | (go_ret
       exact ⟨qg (by rw [<- H.stop a.out (r := true) (by rw [hasI, show (x == y) = true from (by first | assumption | exact bt2 (by assumption) | exact net (by assumption) | exact netc (by assumption) | exact eqc (by assumption))]; rfl)]; rfl), rfl⟩)
    | (go_round
       case rel => exact ⟨k + 1, by omega, by go_num, H.step a.out (by rw [hasI, show (x == y) = false from (by first | assumption | exact bf1 (by assumption) | exact bf2 (by assumption) | exact nef (by assumption) | exact nefc (by assumption) | exact eqc (by assumption))]; rfl)⟩
       case measure => simp [intOf]; omega)
  .go_wp2
   go_ret;exact⟨qg (by rw[<-H.done (h.drop_end hlt) (r:=false) rfl];rfl),rfl⟩
theorem q4g (A B:Option Addr) (n m c d:Nat) (xs f:List Int) (w:World) (h:RdL RI w A n xs) (e:RdL RI w B m f):
  Calls Tryz.prog 162 #[.slice A n c,.slice B m d] w (Qt w (.bool (eqL xs f))):=by
 have q:=h.le;have l:=e.le
 by_cases hnm:n=m
 .subst hnm
  go_enter Tryz.func162,Tryz.ntmps162
  go_wp2
  go_loopw [5] (fun i wr=>∃k:Nat,k<=n/\i=.int .i64 k/\At2 eqL xs f k/\Drawn w wr) (fun i _=>n - (intOf i).toNat)
  case atStart=>exact⟨0,zah _,rfl,rfl,Drawn.zero _⟩
  case round=>
   obtain⟨k,u,rfl,H,z,rfl⟩:=hrel
   by_cases hlt:k<n
   .obtain⟨b,o,v,x,rfl,t,⟨rfl,-⟩,hd,-⟩:=h.at hlt
    obtain⟨s,C,D,y,rfl,p,⟨rfl,-⟩,a,-⟩:=e.at hlt;have g:=zaa hd;have j:=zaa a;clear hd a
    go_wp2
    go_quiet (fail)
    go_wp2
    all_goals first
     | (go_ret
        exact ⟨qg (H.stop g.out j.out (by rw [eqL, show (x == y) = false from (by first | assumption | exact bf1 (by assumption) | exact bf2 (by assumption) | exact nef (by assumption) | exact nefc (by assumption) | exact eqc (by assumption))]; rfl)), (by first | exact Drawn.zero _ | exact Drawn.at_ _ _ | exact (Drawn.at_ _ _).more _ | exact ((Drawn.at_ _ _).more _).more _)⟩)
     | (go_roundw
        case rel => exact ⟨k + 1, by omega, by go_num, H.step g.out j.out (by rw [eqL, show (x == y) = true from (by first | assumption | exact bt2 (by assumption) | exact net (by assumption) | exact netc (by assumption) | exact eqc (by assumption))]; rfl), (by first | exact Drawn.zero _ | exact Drawn.at_ _ _ | exact (Drawn.at_ _ _).more _ | exact ((Drawn.at_ _ _).more _).more _)⟩
        case measure => simp [intOf]; omega)
   .go_wp2
    go_ret;exact⟨qg (H.done (h.drop_end hlt) (e.drop_end hlt) rfl),(by first|exact Drawn.zero _|exact Drawn.at_ _ _|exact(Drawn.at_ _ _).more _|exact((Drawn.at_ _ _).more _).more _)⟩
 .have r:((n:Int) !=(m:Int))=true:=by rw[bne_iff_ne];omega
  go_enter Tryz.func162,Tryz.ntmps162
  go_wp2
  go_ret;exact⟨qg (qfq (by rw[h.len,e.len];omega)),(by first|exact Drawn.zero _|exact Drawn.at_ _ _|exact(Drawn.at_ _ _).more _|exact((Drawn.at_ _ _).more _).more _)⟩
theorem q4w (A B:Option Addr) (n m c d:Nat) (xs g:List Int) (w:World) (h:RdL RI w A n xs) (f:RdL RI w B m g):
  Calls Tryz.prog 184 #[.slice A n c,.slice B m d] w fun e w'=>e=.returned (.bool (eqL xs g))/\w=w':=by
 have r:=h.le;have p:=f.le
 by_cases hnm:n=m
 .subst hnm
  go_enter Tryz.func184,Tryz.ntmps184
  go_wp2
  go_loop [14] (fun i=>∃k:Nat,k<=n/\i=.int .i64 k/\At2 eqL xs g k) (fun i=>n - (intOf i).toNat)
  case atStart=>exact⟨0,zah _,rfl,rfl⟩
  case round=>
   obtain⟨k,z,rfl,H⟩:=hrel
   by_cases hlt:k<n
   .obtain⟨b,o,v,x,rfl,u,⟨rfl,-⟩,hd,-⟩:=h.at hlt
    obtain⟨t,C,D,y,rfl,q,⟨rfl,-⟩,a,-⟩:=f.at hlt;have j:=zaa hd;have l:=zaa a;clear hd a
    go_wp2
    all_goals first
     | (go_ret
        exact ⟨qg (H.stop j.out l.out (by rw [eqL, show (x == y) = false from (by first | assumption | exact bf1 (by assumption) | exact bf2 (by assumption) | exact nef (by assumption) | exact nefc (by assumption) | exact eqc (by assumption))]; rfl)), rfl⟩)
     | (go_round
        case rel => exact ⟨k + 1, by omega, by go_num, H.step j.out l.out (by rw [eqL, show (x == y) = true from (by first | assumption | exact bt2 (by assumption) | exact net (by assumption) | exact netc (by assumption) | exact eqc (by assumption))]; rfl)⟩
        case measure => simp [intOf]; omega)
   .go_wp2
    go_ret;exact⟨qg (H.done (h.drop_end hlt) (f.drop_end hlt) rfl),rfl⟩
 .have s:((n:Int) !=(m:Int))=true:=by rw[bne_iff_ne];omega
  go_enter Tryz.func184,Tryz.ntmps184
  go_wp2
  go_ret;exact⟨qg (qfq (by rw[h.len,f.len];omega)),rfl⟩
def q1z (a b:Int):List Int->Bool
 | []=>true
 |x::l=>inB x a b &&q1z a b l
theorem q52 (A:Option Addr) (n c:Nat) (xs:List Int) (m:Int) (w:World) (h:RdL RI w A n xs) (f: -1<=m) (g:m<=4611686018427387904):
  Calls Tryz.prog 115 #[.int .i64 m,.slice A n c] w fun e w'=>e=.returned (.bool (q1z 0 (m - 1) xs))/\w=w':=by
 have d:=h.le
 go_enter Tryz.func115,Tryz.ntmps115
 go_wp2
 go_loop [5] (fun i=>∃k:Nat,k<=n/\i=.int .i64 k/\At (q1z 0 (m - 1)) xs k) (fun i=>n - (intOf i).toNat)
 case atStart=>exact⟨0,zah _,rfl,rfl⟩
 case round=>
  obtain⟨k,l,rfl,H⟩:=hrel
  by_cases hlt:k<n
  .obtain⟨b,o,v,x,rfl,j,⟨rfl,-⟩,hd,-⟩:=h.at hlt
   have a:=zaa hd;clear hd
   go_wp2_with (go_at_call 68;refine(q26 _ _ _ _).mono ?_;rintro e w' ⟨rfl,rfl⟩)
   all_goals first
    | (go_ret
       exact ⟨qg (H.stop a.out (by rw [q1z, show inB x 0 (m - 1) = false from (by first | assumption | exact bf1 (by assumption) | exact bf2 (by assumption) | exact nef (by assumption) | exact nefc (by assumption) | exact eqc (by assumption))]; rfl)), rfl⟩)
    | (go_round
       case rel => exact ⟨k + 1, by omega, by go_num, H.step a.out (by rw [q1z, show inB x 0 (m - 1) = true from (by first | assumption | exact bt2 (by assumption) | exact net (by assumption) | exact netc (by assumption) | exact eqc (by assumption))]; rfl)⟩
       case measure => simp [intOf]; omega)
  .go_wp2
   go_ret;exact⟨qg (H.done (h.drop_end hlt) rfl),rfl⟩
theorem q4e (A:Option Addr) (n c:Nat) (xs:List Int) (m:Int) (w:World) (h:RdL RI w A n xs):
  Calls Tryz.prog 130 #[.slice A n c,.int .i64 m] w fun e w'=>e=.returned (.bool (q1z 0 (m - 1) xs))/\w=w':=by
 have d:=h.le
 go_enter Tryz.func130,Tryz.ntmps130
 go_wp2
 go_loop [9] (fun i=>∃k:Nat,k<=n/\i=.int .i64 k/\At (q1z 0 (m - 1)) xs k) (fun i=>n - (intOf i).toNat)
 case atStart=>exact⟨0,zah _,rfl,rfl⟩
 case round=>
  obtain⟨k,g,rfl,H⟩:=hrel
  by_cases hlt:k<n
  .obtain⟨b,o,v,x,rfl,f,⟨rfl,-⟩,hd,-⟩:=h.at hlt
   have a:=zaa hd;clear hd
   go_wp2
   all_goals first
    | (go_ret
       exact ⟨qg (H.stop a.out (by rw [q1z, show inB x 0 (m - 1) = false by unfold inB; simp; omega]; rfl)), rfl⟩)
    | (go_round
       case rel => exact ⟨k + 1, by omega, by go_num, H.step a.out (by rw [q1z, show inB x 0 (m - 1) = true by unfold inB; simp; omega]; rfl)⟩
       case measure => simp [intOf]; omega)
  .go_wp2
   go_ret;exact⟨qg (H.done (h.drop_end hlt) rfl),rfl⟩
def q24:List Int->Bool
 |x::y::l=>decide (x<y) &&q24 (y::l)
 |_=>true
def RisAt (xs:List Int) (k:Nat):Prop:=q24 (xs.drop k)=q24 xs
theorem q9i {xs:List Int} {k:Nat} {x y:Int} (c:xs[k]?=some x) (d:xs[k+1]?=some y):xs.drop k=x::y::xs.drop (k+2):=by
 obtain⟨e,a⟩:=zag.1 c;obtain⟨f,b⟩:=zag.1 d;rw[zbq e,zbq f,a,b]
theorem RisAt.step {xs:List Int} {k:Nat} {x y:Int} (h:RisAt xs k) (d:xs[k]?=some x) (b:xs[k+1]?=some y) (a:x<y):RisAt xs (k+1):=by
 obtain⟨e,c⟩:=zag.1 b;unfold RisAt at*;rw[<-h,q9i d b,q24,zbq e,c];simp[a]
theorem RisAt.stop {xs:List Int} {k:Nat} {x y:Int} (h:RisAt xs k) (a:xs[k]?=some x) (b:xs[k+1]?=some y) (c:¬x<y):false=q24 xs:=by
 unfold RisAt at*;rw[<-h,q9i a b,q24];simp;omega
theorem RisAt.done {xs:List Int} {k:Nat} (h:RisAt xs k) (a:xs.length<=k+1):true=q24 xs:=by
 unfold RisAt at*;rw[<-h]
 match hd:xs.drop k with
 | []=>rfl
 | [x]=>rfl
 | x :: y :: l =>
   have := zav List.length hd;simp at this;omega
theorem qf2 (A:Option Addr) (n c:Nat) (xs:List Int) (w:World) (h:RdL RI w A n xs):
  Calls Tryz.prog 131 #[.slice A n c] w (Qt w (.bool (q24 xs))):=by
 have o:=h.le;have a:=zaa h.len
 by_cases h1:1<n
 .obtain⟨q,t,B,C,rfl,-,-,-,-⟩:=h.at (k:=0) (by omega)
  go_enter Tryz.func131,Tryz.ntmps131
  go_wp2
  go_loopw [3] (fun i wr=>∃k:Nat,k+1<=n/\i=.int .i64 (k+1)/\RisAt xs k/\Drawn w wr) (fun i _=>n - (intOf i).toNat)
  case atStart=>exact⟨0,by omega,rfl,rfl,Drawn.zero _⟩
  case round=>
   obtain⟨k,s,rfl,H,z,rfl⟩:=hrel
   by_cases hlt:k+1<n
   .obtain⟨v,x,r,⟨rfl,-⟩,-,f⟩:=h.at' (k:=k) (by omega)
    obtain⟨u,y,m,⟨rfl,-⟩,-,g⟩:=h.at' hlt;have b:=zaa f;have d:=zaa g;clear f g;have e:((k:Int)+1 - 1)=k:=by omega
    have p:=zaa e;clear e;have j:(0:Int)<=(k:Int)+1 - 1:=by omega
    have l:(k:Int)+1 - 1<(n:Int):=by omega
    go_wp2
    go_quiet (fail)
    go_wp2
    all_goals first
     | (go_ret
        exact ⟨qg (H.stop b.out d.out (by omega)), (by first | exact Drawn.zero _ | exact Drawn.at_ _ _ | exact (Drawn.at_ _ _).more _ | exact ((Drawn.at_ _ _).more _).more _)⟩)
     | (go_roundw
        case rel => exact ⟨k + 1, by omega, by go_num, H.step b.out d.out (by omega), (by first | exact Drawn.zero _ | exact Drawn.at_ _ _ | exact (Drawn.at_ _ _).more _ | exact ((Drawn.at_ _ _).more _).more _)⟩
        case measure => simp [intOf]; omega)
   .go_wp2
    go_ret;exact⟨qg (H.done (by rw[a.out];omega)),(by first|exact Drawn.zero _|exact Drawn.at_ _ _|exact(Drawn.at_ _ _).more _|exact((Drawn.at_ _ _).more _).more _)⟩
 .go_enter Tryz.func131,Tryz.ntmps131
  go_wp2
  go_loop [3] (fun i=>i=.int .i64 1) (fun _=>0)
  case atStart=>rfl
  case round=>
   subst hrel
   go_wp2
   go_ret;exact⟨qg (RisAt.done (k:=0) rfl (by rw[a.out];omega)),(by first|exact Drawn.zero _|exact Drawn.at_ _ _|exact(Drawn.at_ _ _).more _|exact((Drawn.at_ _ _).more _).more _)⟩
def RInAt (lo hi:Int) (xs:List Int) (k:Nat):Prop:=(q1z lo hi (xs.drop k) &&q24 (xs.drop (k - 1)))=(q1z lo hi xs &&q24 xs)
theorem RInAt.step0 {lo hi:Int} {xs:List Int} {x:Int} (h:RInAt lo hi xs 0) (hd:xs.drop 0=x::xs.drop (0+1)) (a:inB x lo hi=true):RInAt lo hi xs (0+1):=by
 unfold RInAt at*;rw[<-h,hd,q1z,a,zdo]
theorem RInAt.step {lo hi:Int} {xs:List Int} {j:Nat} {p x:Int} (h:RInAt lo hi xs (j+1)) (hd:xs.drop (j+1)=x::xs.drop (j+1+1)) (e:xs[j]?=some p) (b:xs[j+1]?=some x) (c:inB x lo hi=true) (a:p<x):RInAt lo hi xs (j+1+1):=by
 have k:RisAt xs j->RisAt xs (j+1):=fun g=>g.step e b a
 have d:q24 (xs.drop j)=q24 (xs.drop (j+1)):=by
  obtain⟨i,f⟩:=zag.1 b;rw[q9i e b,q24,zbq i,f];simp[a]
 unfold RInAt at*;rw[<-h,hd,q1z,c,zdo,zf8,zf8,d]
theorem RInAt.stop1 {lo hi:Int} {xs:List Int} {k:Nat} {x:Int} (h:RInAt lo hi xs k) (hd:xs.drop k=x::xs.drop (k+1)) (a:inB x lo hi=false):false=(q1z lo hi xs &&q24 xs):=by
 unfold RInAt at*;rw[<-h,hd,q1z,a];rfl
theorem RInAt.stop2 {lo hi:Int} {xs:List Int} {j:Nat} {p x:Int} (h:RInAt lo hi xs (j+1)) (b:xs[j]?=some p) (c:xs[j+1]?=some x) (a:¬p<x):false=(q1z lo hi xs &&q24 xs):=by
 unfold RInAt at*;rw[<-h,zf8,q9i b c,q24,zbi a];simp
theorem RInAt.done {lo hi:Int} {xs:List Int} {k:Nat} (h:RInAt lo hi xs k) (a:xs.length<=k):true=(q1z lo hi xs &&q24 xs):=by
 unfold RInAt at*;rw[<-h,zbk a];have:true=q24 (xs.drop (k - 1)):=by
  match hd:xs.drop (k - 1)with
  | []=>rfl
  | [x]=>rfl
  | x :: y :: l =>
    have := zav List.length hd;simp at this;omega
 rw[<-this];rfl
theorem q96 (A:Option Addr) (n c:Nat) (xs:List Int) (lo hi:Int) (w:World) (h:RdL RI w A n xs):
  Calls Tryz.prog 105 #[.slice A n c,.int .i64 lo,.int .i64 hi] w (Qt w (.bool (q1z lo hi xs &&q24 xs))):=by
 have C:=h.le;have a:=zaa h.len
 go_enter Tryz.func105,Tryz.ntmps105
 go_wp2
 go_loopw [7] (fun i wr=>∃k:Nat,k<=n/\i=.int .i64 k/\RInAt lo hi xs k/\Drawn w wr) (fun i _=>n - (intOf i).toNat)
 case atStart=>exact⟨0,by omega,rfl,rfl,Drawn.zero _⟩
 case round=>
  obtain⟨k,E,rfl,H,z,rfl⟩:=hrel
  by_cases hlt:k<n
  .obtain⟨b,o,v,x,rfl,l,⟨rfl,-⟩,hd,q⟩:=h.at hlt
   have g:=zaa q;have e:=zaa hd;clear q hd
   rcases hin:inB x lo hi with _|_
   .have d:=zaa hin
    go_wp2
    go_quiet ((go_at_call 68;exact q1f (q2b (q26 _ _ _ _))))
    go_wp2
    go_ret;exact⟨qg (H.stop1 e.out d.out),(by first|exact Drawn.zero _|exact Drawn.at_ _ _|exact(Drawn.at_ _ _).more _|exact((Drawn.at_ _ _).more _).more _)⟩
   .have d:=zaa hin
    rcases k with _|j
    .have y:w.cell? ⟨b,o,none⟩=some (.int .i64 x):=l
     clear l;have D:(0:Int)<(n:Int):=by omega
     rw[show((0:Nat):Int)=0 from rfl]
     go_wp2
     go_quiet ((go_at_call 68;exact q1f (q2b (q26 _ _ _ _))))
     go_wp2
     go_roundw
     case rel=>exact⟨0+1,by omega,by go_num,H.step0 e.out d.out,(by first|exact Drawn.zero _|exact Drawn.at_ _ _|exact(Drawn.at_ _ _).more _|exact((Drawn.at_ _ _).more _).more _)⟩
     case measure=>simp[intOf];omega
    .obtain⟨F,p,u,⟨rfl,-⟩,-,m⟩:=h.at' (k:=j) (by omega)
     have f:=zaa m;clear m;rw[show((j+1:Nat):Int)=(j:Int)+1 from by omega];have B:(0:Int)<(j:Int)+1:=by omega
     have r:(0:Int)<=(j:Int)+1 - 1:=by omega
     have s:(j:Int)+1 - 1<(n:Int):=by omega
     have t:(j:Int)+1<(n:Int):=by omega
     go_wp2
     go_quiet ((go_at_call 68;exact q1f (q2b (q26 _ _ _ _))))
     go_wp2
     all_goals first
      | (go_ret
         exact ⟨qg (H.stop2 f.out g.out (by omega)), (by first | exact Drawn.zero _ | exact Drawn.at_ _ _ | exact (Drawn.at_ _ _).more _ | exact ((Drawn.at_ _ _).more _).more _)⟩)
      | (go_roundw
         case rel => exact ⟨j + 1 + 1, by omega, by go_num, H.step e.out f.out g.out d.out (by omega), (by first | exact Drawn.zero _ | exact Drawn.at_ _ _ | exact (Drawn.at_ _ _).more _ | exact ((Drawn.at_ _ _).more _).more _)⟩
         case measure => simp [intOf]; omega)
  .go_wp2
   go_ret;exact⟨qg (H.done (by rw[a.out];omega)),(by first|exact Drawn.zero _|exact Drawn.at_ _ _|exact(Drawn.at_ _ _).more _|exact((Drawn.at_ _ _).more _).more _)⟩
def q2d (ys:List Int):List Int->List Int
 | []=> []
 |x::l=>if hasI x ys then x::q2d ys l else q2d ys l
theorem qel (a:List Int):∀xs,(q2d a xs).length<=xs.length
 | []=>zad _
 |x::l=>by have:=qel a l;rw[q2d];split<;>simp<;>omega
theorem qkx (xs:List Int) (x:Int):ints (xs++ [x])=ints xs++ [.int .i64 x]:=by simp[ints]
def Gat (B:Nat) (w wr:World) (v:Value) (m:Nat) (acc:List Int):Prop:=∃A c,v=.slice A m c/\acc.length=m/\wr.ownsRow B 3 1 (.slice A m c) m (ints acc)/\Below B w wr
theorem qcy (A B:Option Addr) (n m c d:Nat) (xs r:List Int) (w:World) (h:RdL RI w A n xs) (s:RdL RI w B m r) (K:n<=1048576):
  Calls Tryz.prog 146 #[.slice A n c,.slice B m d] w fun e w'=>∃A' n' c',e=.returned (.slice A' n' c')/\w'.ownsRow w.heap.size 3 1 (.slice A' n' c') n' (ints (q2d r xs))/\Below w.heap.size w w':=by
 have F:=h.le
 go_enter Tryz.func146,Tryz.ntmps146
 go_wp2
 go_loopw [5,11] (fun v i wr=>∃(k m:Nat) (a:List Int),k<=n/\m<=k/\i=.int .i64 k/\Acc (q2d r) xs k a/\Gat w.heap.size w wr v m a) (fun _ i _=>n - (intOf i).toNat)
 case atStart=>exact⟨0,0, [],zah _,zad _,rfl,rfl,_,_,rfl,rfl,zb7 _ _ _ (zad _) (zah _) rfl,qm _ _⟩
 case round=>
  obtain⟨k,u,a,J,G,rfl,H,A',c',rfl,g,f,q⟩:=hrel;replace h:=h.next qd q;replace s:=s.next qd q
  by_cases hlt:k<n
  .obtain⟨b,o,v,x,rfl,I,⟨rfl,-⟩,hd,-⟩:=h.at hlt
   have y:=zaa hd;have z:=zaa g;clear hd g;have j:=q.size
   go_wp2_with (first|(go_at_call 192;refine(qj3 _ _ _ _ _ _ s).mono ?_;rintro e w' ⟨rfl,rfl⟩)|(at_builtin;refine app1 wr rfl _ _ 43 3 rfl (.int .i64 0) 8 za1 q14 rfl (by decide) w.heap.size u c' A' (ints a) rfl f (.int .i64 x) rfl rfl (by omega) j ?_;intro C D L p E t))
   .have l:hasI x r=true:=(by first|assumption|exact bt2 (by assumption)|exact net (by assumption)|exact netc (by assumption)|exact eqc (by assumption))
    go_roundw
    case rel=>exact⟨k+1,u+1,a++ [x],by omega,by omega,by go_num,H.keep y.out (by rw[q2d,zam l]),C,D,rfl,by simp[z.out],by rw[qkx];exact p,q.trans t⟩
    case measure=>simp[intOf];omega
   .have l:¬hasI x r=true:=by rw[show hasI x r=false from(by first|assumption|exact bf1 (by assumption)|exact bf2 (by assumption)|exact nef (by assumption)|exact nefc (by assumption)|exact eqc (by assumption))];decide
    go_roundw
    case rel=>exact⟨k+1,u,a,by omega,by omega,by go_num,H.skip y.out (by rw[q2d,zaj l]),A',c',rfl,z.out,f,q⟩
    case measure=>simp[intOf];omega
  .go_wp2
   go_ret;exact⟨_,_,_,rfl,by rw[<-H.done (h.drop_end hlt) rfl];exact f,q⟩
def upTo (n:Nat):List Int:=(List.range n).map fun(k:Nat)=>(k:Int)
theorem qdm (k:Nat):(upTo k).length=k:=by simp[upTo]
theorem qio {n k:Nat} (h:k<n):(upTo n)[k]?=some (k:Int):=by simp[upTo,h]
theorem q4i (A:Option Addr) (n c:Nat) (xs:List Int) (w:World) (h:RdL RI w A n xs) (m:n<=1048576):
  Calls Tryz.prog 137 #[.slice A n c] w fun e w'=>∃A' c',e=.returned (.slice A' n c')/\w'.ownsRow w.heap.size 3 1 (.slice A' n c') n (ints xs)/\Below w.heap.size w w':=by
 have d:=qm w (.cells #[] 3);have b:(w.alloc (.cells #[] 3)).ownsRow w.heap.size 3 1 (.slice (some ⟨w.heap.size,0,none⟩) 0 0) 0 []:=zb7 _ _ _ (zad _) (zah _) rfl;have j:=h.next qd d
 go_enter Tryz.func137,Tryz.ntmps137
 go_wp2_with (at_builtin;refine qk7 _ rfl _ _ 43 3 rfl (.int .i64 0) 8 za1 q14 rfl (by decide) w.heap.size 0 0 (some ⟨w.heap.size,0,none⟩) [] rfl b A n c xs (.int .i64) (fun _=>rfl) rfl j (fun _ _ _ l=>l.1) (by omega) d.size ?_;intro g i o a k f)
 go_ret;refine⟨g,i,by simp,?_,d.trans f⟩
 simpa[ints]using a
theorem qg4 (a b r:Int) (w:World) (c:(a<=b/\r=a)\/(b<=a/\r=b)):Calls Tryz.prog 197 #[.int .i64 a,.int .i64 b] w fun e w'=>e=.returned (.int .i64 r)/\w=w':=by
 by_cases h:a<b
 .obtain rfl:r=a:=by omega
  clear c
  go_enter Tryz.func197,Tryz.ntmps197
  go_wp2
  go_ret;exact⟨rfl,rfl⟩
 .obtain rfl:r=b:=by omega
  clear c
  go_enter Tryz.func197,Tryz.ntmps197
  go_wp2
  go_ret;exact⟨rfl,rfl⟩
theorem q9p {n k j:Nat} (a:0<j) (b:j<=k):n ^ (k - j)*n=n ^ (k - (j - 1)):=by
 rw[show k - (j - 1)=(k - j)+1 by omega,zfi]
theorem q47 {n k:Nat} (d:n<=8) (c:k<=4):n ^ k<=4096:=by
 have a:n ^ k<=8 ^ k:=Nat.pow_le_pow_left d k;have b:8 ^ k<=8 ^ 4:=Nat.pow_le_pow_right (by decide) c;exact za7 a b
theorem qez (n k r:Nat) (w:World) (f:n ^ k=r) (d:n<=8) (t:k<=4):
  Calls Tryz.prog 141 #[.int .i64 n,.int .i64 k] w fun e w'=>e=.returned (.int .i64 r)/\w=w':=by
 have i:=zaa f;clear f
 go_enter Tryz.func141,Tryz.ntmps141
 go_wp2
 go_loop [1,5] (fun c p=>∃(j P:Nat),j<=k/\c=.int .i64 j/\p=.int .i64 P/\Hid (P=n ^ (k - j))) (fun c _=>(intOf c).toNat)
 case atStart=>exact⟨k,1,zad _,rfl,rfl,by show _=_;rw[zda,zfw]⟩
 case round=>
  obtain⟨j,P,m,rfl,rfl,a⟩:=hrel
  by_cases hlt:0<j
  .have l:P<=4096:=by rw[a.out];exact q47 d (by omega)
   have hM:P*n<=4096*8:=zci l d;have q:(0:Int)<=(P:Int)*(n:Int):=by rw[<-zbw];omega
   have s:(P:Int)*(n:Int)<=32768:=by rw[<-zbw];omega
   have g:Hid ((P:Int)*(n:Int)=((P*n:Nat):Int)):=(zbw _ _).symm;have h:Hid (P*n=n ^ (k - (j - 1))):=by show _=_;rw[a.out];exact q9p hlt m
   have b:(0:Int)<(j:Int):=by omega
   clear hM
   go_wp2
   go_round
   case rel=>exact⟨j - 1,P*n,by omega,by rw[show((j - 1:Nat):Int)=(j:Int) - 1 by omega],by rw[g.out],h⟩
   case measure=>simp[intOf];omega
  .have b:¬(0:Int)<(j:Int):=by omega
   have o:(j:Int)<=0:=by omega
   go_wp2
   go_ret;exact⟨q11 (by rw[a.out,show k - j=k by omega,i.out]),rfl⟩
theorem qe9 (n k r:Nat) (w:World) (f:n ^ k=r) (d:n<=8) (t:k<=4):
  Calls Tryz.prog 96 #[.int .i64 n,.int .i64 k] w fun e w'=>e=.returned (.int .i64 r)/\w=w':=by
 have i:=zaa f;clear f
 go_enter Tryz.func96,Tryz.ntmps96
 go_wp2
 go_loop [1,5] (fun c p=>∃(j P:Nat),j<=k/\c=.int .i64 j/\p=.int .i64 P/\Hid (P=n ^ (k - j))) (fun c _=>(intOf c).toNat)
 case atStart=>exact⟨k,1,zad _,rfl,rfl,by show _=_;rw[zda,zfw]⟩
 case round=>
  obtain⟨j,P,m,rfl,rfl,a⟩:=hrel
  by_cases hlt:0<j
  .have l:P<=4096:=by rw[a.out];exact q47 d (by omega)
   have hM:P*n<=4096*8:=zci l d;have q:(0:Int)<=(P:Int)*(n:Int):=by rw[<-zbw];omega
   have s:(P:Int)*(n:Int)<=32768:=by rw[<-zbw];omega
   have g:Hid ((P:Int)*(n:Int)=((P*n:Nat):Int)):=(zbw _ _).symm;have h:Hid (P*n=n ^ (k - (j - 1))):=by show _=_;rw[a.out];exact q9p hlt m
   have b:(0:Int)<(j:Int):=by omega
   clear hM
   go_wp2
   go_round
   case rel=>exact⟨j - 1,P*n,by omega,by rw[show((j - 1:Nat):Int)=(j:Int) - 1 by omega],by rw[g.out],h⟩
   case measure=>simp[intOf];omega
  .have b:¬(0:Int)<(j:Int):=by omega
   have o:(j:Int)<=0:=by omega
   go_wp2
   go_ret;exact⟨q11 (by rw[a.out,show k - j=k by omega,i.out]),rfl⟩
def opB (n:Nat) (x:OpM):Bool:=inB x.1 0 3 &&(decide (x.2.length=n ^ x.1.toNat) &&q1z 0 ((n:Int) - 1) x.2)
theorem qi4 {n k r:Nat} {w:World} (c:n ^ k=r) (b:n<=8) (a:k<=4):Calls Tryz.prog 141 #[.int .i64 n,.int .i64 k] w (Qt w (.int .i64 r)):=q2b (qez n k r w c b a)
theorem qhp {n k r:Nat} {w:World} (c:n ^ k=r) (b:n<=8) (a:k<=4):Calls Tryz.prog 96 #[.int .i64 n,.int .i64 k] w (Qt w (.int .i64 r)):=q2b (qe9 n k r w c b a)
theorem qe3 {A:Option Addr} {n c:Nat} {xs:List Int} {m:Int} {w:World} {r:Bool} (a:q1z 0 (m - 1) xs=r) (h:RdL RI w A n xs):Calls Tryz.prog 130 #[.slice A n c,.int .i64 m] w (Qt w (.bool r)):=a ▸ q2b (q4e A n c xs m w h)
theorem q36 {x a b:Int} {w:World} {r:Bool} (c:inB x a b=r):Calls Tryz.prog 68 #[.int .i64 x,.int .i64 a,.int .i64 b] w (Qt w (.bool r)):=c ▸ q2b (q26 x a b w)
theorem qnq (cs:List Value) (x:OpM) (n:Nat) (w:World) (h:shOp.rd w cs x) (v:n<=8):
  Calls Tryz.prog 125 #[.agg cs.toArray,.int .i64 n] w (Bl w (.bool (opB n x))):=by
 obtain⟨a,t⟩:=x;obtain⟨B,m,d,rfl,⟨E,D⟩,f⟩:=rdOp h;have q:=zaa f.len;have C:=f.le;obtain⟨F,j,b,z,k⟩:=q15 w #[.int .i64 a,.slice B m d] 122;have c:=zaa j;clear j;replace f:=f.next qd b
 by_cases h0:0<=a
 rotate_left
 .have g:Hid (opB n (a,t)=false):=by show _=_;unfold opB inB;simp[h0]
  go_enter Tryz.func125,Tryz.ntmps125
  go_upto_region 1 with fail;rw[<-c.out];obtain⟨s,u⟩:=cl2 k
  go_quiet (fail)
  go_wp2_with fail;go_ret;exact⟨qg g.out.symm,(by first|exact b|exact qc (b) _|exact qc (qc (b) _) _|exact qc (qc (qc (b) _) _) _)⟩
 by_cases h3:a<=3
 rotate_left
 .have g:Hid (opB n (a,t)=false):=by show _=_;unfold opB inB;simp[h3]
  go_enter Tryz.func125,Tryz.ntmps125
  go_upto_region 1 with fail;rw[<-c.out];obtain⟨s,u⟩:=cl2 k
  go_quiet (fail)
  go_wp2_with fail;go_ret;exact⟨qg g.out.symm,(by first|exact b|exact qc (b) _|exact qc (qc (b) _) _|exact qc (qc (qc (b) _) _) _)⟩
 obtain⟨i,rfl⟩:=zan h0;obtain⟨r,y⟩:∃r,n ^ i=r:=⟨_,rfl⟩;have o:=zaa y;clear y;have hd:decide (m=r)=((m:Int)==(r:Int)):=by by_cases e:m=r<;>simp[e];omega
 have g:Hid (opB n ((i:Int),t)=(((m:Int)==(r:Int)) &&q1z 0 ((n:Int) - 1) t)):=by
  have p:inB (i:Int) 0 3=true:=by unfold inB;simp;omega
  show(inB (i:Int) 0 3 &&(decide (t.length=n ^ ((i:Int)).toNat) &&q1z 0 ((n:Int) - 1) t))=_;rw[p,za5,q.out,o.out,hd];rfl
 clear hd
 rcases h4:q1z 0 ((n:Int) - 1) t with _|_<;>rcases h5:((m:Int)==(r:Int))with _|_
 all_goals
  have l:=zaa h4;have A:=zaa h5;clear h4
  go_enter Tryz.func125,Tryz.ntmps125
  go_upto_region 1 with fail;rw[<-c.out];obtain⟨s,u⟩:=cl2 k
  go_quiet ((first|(go_at_call 141;first|exact q1o (qi4 o.out v (by omega))|exact q1f (qi4 o.out v (by omega)))|(go_at_call 130;first|exact q1o (qe3 l.out (f.drewN qd _))|exact q1f (qe3 l.out (f.drewN qd _)))))
  go_wp2_with fail;go_ret;exact⟨qg (by rw[g.out,l.out,A.out];rfl),(by first|exact b|exact qc (b) _|exact qc (qc (b) _) _|exact qc (qc (qc (b) _) _) _)⟩
theorem qns (cs:List Value) (x:OpM) (n:Nat) (w:World) (h:shOp.rd w cs x) (K:n<=8):
  Calls Tryz.prog 121 #[.int .i64 n,.agg cs.toArray] w (Bl w (.bool (opB n x))):=by
 obtain⟨a,t⟩:=x;obtain⟨B,m,d,rfl,⟨X,V⟩,g⟩:=rdOp h;have D:=zaa g.len;have P:=g.le;obtain⟨T,s,c,M,y⟩:=q15 w #[.int .i64 a,.slice B m d] 122;have l:=zaa s;clear s;replace g:=g.next qd c
 rcases h0:inB a 0 3 with _|_
 .have j:Hid (opB n (a,t)=false):=by show(inB a 0 3 &&_)=false;rw[h0];rfl
  have f:=zaa h0;clear h0
  go_enter Tryz.func121,Tryz.ntmps121
  go_upto_region 1 with fail;rw[<-l.out];obtain⟨I,u⟩:=cl2 y
  go_quiet ((go_at_call 68;first|exact q1o (q36 f.out)|exact q1f (q36 f.out)))
  go_wp2_with fail;go_ret;exact⟨qg j.out.symm,(by first|exact c|exact qc (c) _|exact qc (qc (c) _) _|exact qc (qc (qc (c) _) _) _)⟩
 have C:0<=a/\a<=3:=by unfold inB at h0;simp at h0;omega
 have f:=zaa h0;clear h0;obtain⟨q,rfl⟩:=zan C.1;obtain⟨r,L⟩:∃r,n ^ q=r:=⟨_,rfl⟩;have A:=zaa L;clear L;have hd:decide (m=r)= !((m:Int) !=(r:Int)):=by by_cases e:m=r<;>simp[e];omega
 have j:Hid (opB n ((q:Int),t)=(!((m:Int) !=(r:Int)) &&q1z 0 ((n:Int) - 1) t)):=by
  show(inB (q:Int) 0 3 &&(decide (t.length=n ^ ((q:Int)).toNat) &&q1z 0 ((n:Int) - 1) t))=_;rw[f.out,za5,D.out,A.out,hd];rfl
 clear hd
 rcases h5:((m:Int) !=(r:Int))with _|_
 all_goals
  have F:=zaa h5
  go_enter Tryz.func121,Tryz.ntmps121
  go_upto_region 1 with fail;rw[<-l.out];obtain⟨I,u⟩:=cl2 y
  go_quiet ((first|(go_at_call 68;first|exact q1o (q36 f.out)|exact q1f (q36 f.out))|(go_at_call 96;first|exact q1o (qhp A.out K (by omega))|exact q1f (qhp A.out K (by omega)))))
 rotate_left
 .go_wp2_with fail
  go_ret;exact⟨qg (by rw[j.out,F.out];rfl),(by first|exact c|exact qc (c) _|exact qc (qc (c) _) _|exact qc (qc (qc (c) _) _) _)⟩
 .have G:Hid (opB n ((q:Int),t)=q1z 0 ((n:Int) - 1) t):=by show _=_;rw[j.out,F.out];rfl
  clear j I u;have Q:(0:Int)<=(n:Int):=by omega
  have R:(n:Int)<=8:=by omega
  go_wp2_with fail
  go_loopw [5] (fun i wr=>∃k:Nat,k<=m/\i=.int .i64 k/\At (q1z 0 ((n:Int) - 1)) t k/\Drawn T wr) (fun i _=>m - (intOf i).toNat)
  case atStart=>exact⟨0,zah _,rfl,rfl,(by first|exact Drawn.zero _|exact Drawn.at_ _ _|exact(Drawn.at_ _ _).more _|exact((Drawn.at_ _ _).more _).more _)⟩
  case round=>
   obtain⟨k,W,rfl,H,z,rfl⟩:=hrel;have u:=(y.drewN z).cell 1;simp at u;have S:=g.drewN qd z
   by_cases hlt:k<m
   .obtain⟨b,o,v,x,rfl,U,⟨rfl,-⟩,hd,-⟩:=S.at hlt
    have E:=zaa hd;clear hd;have N:(0:Int)<=(k:Int):=by omega
    have O:(k:Int)<(m:Int):=by omega
    rcases hx:inB x 0 ((n:Int) - 1)with _|_
    .have p:=zaa hx
     clear hx
     go_wp2_with (go_at_call 68;refine(q26 _ _ _ _).mono ?_;rintro e w' ⟨rfl,rfl⟩;rw[p.out])
     go_ret;exact⟨qg (by rw[G.out];exact H.stop E.out (by rw[q1z,p.out];rfl)),(by first|exact c|exact qc (c) _|exact qc (qc (c) _) _|exact qc (qc (qc (c) _) _) _)⟩
    .have p:=zaa hx
     clear hx
     go_wp2_with (go_at_call 68;refine(q26 _ _ _ _).mono ?_;rintro e w' ⟨rfl,rfl⟩;rw[p.out])
     go_roundw
     case rel=>exact⟨k+1,by omega,by go_num,H.step E.out (by rw[q1z,p.out];rfl),(by first|exact Drawn.zero _|exact Drawn.at_ _ _|exact(Drawn.at_ _ _).more _|exact((Drawn.at_ _ _).more _).more _)⟩
     case measure=>simp[intOf];omega
   .have J:¬(k:Int)<(m:Int):=by omega
    go_wp2_with fail;go_ret;exact⟨qg (by rw[G.out];exact H.done (g.drop_end hlt) rfl),(by first|exact c|exact qc (c) _|exact qc (qc (c) _) _|exact qc (qc (qc (c) _) _) _)⟩
def algB (x:qi):Bool:=inB x.1 1 8 &&(decide (x.2.length<=4) &&x.2.all (opB x.1.toNat))
def qiv (n:Nat) (xs:List OpM):Bool:=xs.all (opB n)
theorem q6s (n:Nat) (x:OpM) (xs:List OpM):qiv n (x::xs)=(opB n x &&qiv n xs):=rfl
theorem q5t (cs:List Value) (x:qi) (w:World) (h:qf.rd w cs x):
  Calls Tryz.prog 74 #[.agg cs.toArray] w (Bl w (.bool (algB x))):=by
 obtain⟨a,c⟩:=x;obtain⟨B,m,d,rfl,⟨lo,hi⟩,g⟩:=qv h;have q:=zaa g.len;have Y:=g.le;obtain⟨U,t,A,R,V⟩:=q15 w #[.int .i64 a,.slice B m d] 24;have z:=zaa t;clear t
 by_cases h1:a<1
 .have f:Hid (algB (a,c)=false):=by show _=_;unfold algB inB;simp;intro h;omega
  go_enter Tryz.func74,Tryz.ntmps74
  go_wp2_with fail;go_ret;exact⟨qg f.out.symm,qm _ _⟩
 by_cases h8:8<a
 .have f:Hid (algB (a,c)=false):=by show _=_;unfold algB inB;simp;intro h h';omega
  go_enter Tryz.func74,Tryz.ntmps74
  go_wp2_with fail;go_ret;exact⟨qg f.out.symm,qm _ _⟩
 obtain⟨n,rfl⟩:=zan (show 0<=a by omega);have p:inB (n:Int) 1 8=true:=by unfold inB;simp;omega
 by_cases h4:4<m
 .have f:Hid (algB ((n:Int),c)=false):=by show(inB (n:Int) 1 8 &&(decide (c.length<=4) &&_))=false;rw[q.out];simp;intro _ h;omega
  go_enter Tryz.func74,Tryz.ntmps74
  go_wp2_with fail;go_ret;exact⟨qg f.out.symm,qm _ _⟩
 have f:Hid (algB ((n:Int),c)=qiv n c):=by
  show(inB (n:Int) 1 8 &&(decide (c.length<=4) &&c.all (opB (n:Int).toNat)))=_;rw[p,q.out,za5,show decide (m<=4)=true by simp;omega];rfl
 clear p;have K:n<=8:=by omega
 replace g:=g.next A
 go_enter Tryz.func74,Tryz.ntmps74
 go_wp2_with fail;rw[<-z.out]
 go_loopw [4,22] (fun _ i wr=>∃k:Nat,k<=m/\i=.int .i64 k/\At (qiv n) c k/\Below U.heap.size U wr) (fun _ i _=>m - (intOf i).toNat)
 case atStart=>exact⟨0,zah _,rfl,rfl,zac _ _⟩
 case round=>
  obtain⟨k,hk,rfl,H,v⟩:=hrel;have Z:=g.next v
  by_cases hlt:k<m
  .obtain⟨b,o,vs,x,rfl,-,J,Q,hd,-⟩:=Z.at hlt
   obtain⟨M,T,O,rfl,qa,qt⟩:=rdOp Q;have E:wr.cell? ⟨b,o+k*2,none⟩=some (.int .i64 x.1):=J 0 _ rfl;have F:wr.cell? ⟨b,o+k*2+1,none⟩=some (.slice M T O):=J 1 _ rfl;obtain⟨w1,u,C,S,BX⟩:=q15 wr #[.int .i64 x.1,.slice M T O] 122;have j:=zaa u;have D:=((V.next v).next C).cell 0;simp at D;rw[j.out]at D;have N:=zaa hd;have L:=shOp.stab Q C.block;have G:=q9 v C rfl;clear hd J u;have W:(0:Int)<=(k:Int):=by omega
   have X:(k:Int)<(m:Int):=by omega
   obtain⟨r,s⟩:∃r,opB n x=r:=⟨_,rfl⟩;have y:=zaa s;clear s;go_wp2_with fail;rw[<-j.out];refine(qnq _ x n _ L K).mono ?_;rintro e w2 ⟨rfl,I⟩;rw[y.out];have l:=q9 G I rfl;clear E F D
   rcases r with _|_
   .go_wp2_with fail
    go_ret;exact⟨qg (by rw[f.out];exact H.stop N.out (by rw[q6s,y.out];rfl)),q9 A l rfl⟩
   .go_wp2_with fail
    go_roundw
    case rel=>exact⟨k+1,by omega,by go_num,H.step N.out (by rw[q6s,y.out];rfl),l⟩
    case measure=>simp[intOf];omega
  .have P:¬(k:Int)<(m:Int):=by omega
   go_wp2_with fail;go_ret;exact⟨qg (by rw[f.out];exact H.done (g.drop_end hlt) rfl),q9 A v rfl⟩
theorem q5a (cs:List Value) (x:qi) (w:World) (h:qf.rd w cs x):
  Calls Tryz.prog 69 #[.agg cs.toArray] w (Bl w (.bool (algB x))):=by
 obtain⟨a,c⟩:=x;obtain⟨B,m,d,rfl,⟨lo,hi⟩,j⟩:=qv h;have z:=zaa j.len;have Y:=j.le;obtain⟨T,C,J,S,U⟩:=q15 w #[.int .i64 a,.slice B m d] 24;have I:=zaa C;clear C
 rcases h1:inB a 1 8 with _|_
 .have g:Hid (algB (a,c)=false):=by show(inB a 1 8 &&_)=false;rw[h1];rfl
  have l:=zaa h1;clear h1
  go_enter Tryz.func69,Tryz.ntmps69
  go_wp2_with (go_at_call 68;refine(q26 _ _ _ _).mono ?_;rintro e w' ⟨rfl,rfl⟩;rw[l.out])
  go_ret;exact⟨qg g.out.symm,qm _ _⟩
 have V:1<=a/\a<=8:=by unfold inB at h1;simp at h1;omega
 have l:=zaa h1;clear h1;obtain⟨n,rfl⟩:=zan (show 0<=a by omega)
 by_cases h4:4<m
 .have g:Hid (algB ((n:Int),c)=false):=by show(inB (n:Int) 1 8 &&(decide (c.length<=4) &&_))=false;rw[z.out];simp;intro _ h;omega
  go_enter Tryz.func69,Tryz.ntmps69
  go_wp2_with (go_at_call 68;refine(q26 _ _ _ _).mono ?_;rintro e w' ⟨rfl,rfl⟩;rw[l.out])
  go_ret;exact⟨qg g.out.symm,qm _ _⟩
 have g:Hid (algB ((n:Int),c)=qiv n c):=by
  show(inB (n:Int) 1 8 &&(decide (c.length<=4) &&c.all (opB (n:Int).toNat)))=_;rw[l.out,z.out,za5,show decide (m<=4)=true by simp;omega];rfl
 have N:n<=8:=by omega
 replace j:=j.next J
 go_enter Tryz.func69,Tryz.ntmps69
 go_wp2_with (go_at_call 68;refine(q26 _ _ _ _).mono ?_;rintro e w' ⟨rfl,rfl⟩;rw[l.out])
 rw[<-I.out]
 go_loopw [3] (fun i wr=>∃k:Nat,k<=m/\i=.int .i64 k/\At (qiv n) c k/\Below T.heap.size T wr) (fun i _=>m - (intOf i).toNat)
 case atStart=>exact⟨0,zah _,rfl,rfl,zac _ _⟩
 case round=>
  obtain⟨k,hk,rfl,H,D⟩:=hrel;have Z:=j.next D;have F:=U.next D;obtain⟨p,q⟩:=cl2 F
  by_cases hlt:k<m
  .obtain⟨b,o,vs,x,rfl,-,M,R,hd,-⟩:=Z.at hlt
   obtain⟨E,O,K,rfl,qa,qt⟩:=rdOp R;have s:wr.cell? ⟨b,o+k*2,none⟩=some (.int .i64 x.1):=M 0 _ rfl;have t:wr.cell? ⟨b,o+k*2+1,none⟩=some (.slice E O K):=M 1 _ rfl;have P:=zaa hd;clear hd M;have W:(0:Int)<=(k:Int):=by omega
   have X:(k:Int)<(m:Int):=by omega
   obtain⟨r,A⟩:∃r,opB n x=r:=⟨_,rfl⟩;have G:=zaa A;clear A;have f:Below wr.heap.size wr wr:=zac _ _;go_upto_region 6 with fail
   go_cut [29] (fun v wx=>v=.bool (!r)/\Below wr.heap.size wr wx)
   case first=>
    go_region_held3 (fun w'=>w'.cell? ⟨w.heap.size,0,none⟩=some (.int .i64 n)/\w'.cell? ⟨w.heap.size,1,none⟩=some (.slice (some ⟨b,o,none⟩) m d)/\w'.cell? ⟨b,o+k*2,none⟩=some (.int .i64 x.1)/\w'.cell? ⟨b,o+k*2+1,none⟩=some (.slice E O K)) (first|go_keep|exact⟨qe f p,qe f q,qe f s,qe f t⟩) ((go_at_call 121;refine(qns [.int .i64 x.1,.slice E O K] x n _ (shOp.stab R (by first|exact f.block|exact(zai f).block)) N).mono ?_;rintro e wn ⟨rfl,L⟩;replace f:=q9 (by first|exact f|exact zai f) L rfl;rw[G.out]))
    all_goals(go_wp2_with fail;go_meet;exact⟨rfl,f⟩)
   case rest=>
    obtain⟨rfl,y⟩:=hcut;have u:=q9 D y rfl;clear y f p q s t
    rcases r with _|_
    .go_wp2_with fail
     go_ret;exact⟨qg (by rw[g.out];exact H.stop P.out (by rw[q6s,G.out];rfl)),q9 J u rfl⟩
    .go_wp2_with fail
     go_roundw
     case rel=>exact⟨k+1,by omega,by go_num,H.step P.out (by rw[q6s,G.out];rfl),u⟩
     case measure=>simp[intOf];omega
  .have Q:¬(k:Int)<(m:Int):=by omega
   go_wp2_with fail;go_ret;exact⟨qg (by rw[g.out];exact H.done (j.drop_end hlt) rfl),q9 J D rfl⟩
theorem q1s {w:World} {base:Nat} {e:TypeId} {size:Nat} {v:Value} {n:Nat} {xs:List Value} (h:w.ownsRow base e size v n xs) {g:Nat} {t:TypeId} {cs:Array Value} (i:Blk w g t cs) (b:e≠t):v.ownBlock≠some g:=by
 rcases h.2 with⟨rfl,_⟩|⟨j,d,f,rfl,_,a,_⟩
 .simp[Value.ownBlock]
 .intro c
  simp only[Value.ownBlock,zc5]at c;subst c;rw[i]at a;injection a with a
  injection a with _ ht
  exact b ht.symm
theorem q7g {w:World} {base size:Nat} {e:TypeId} {v:Value} {n:Nat} {xs:List Value} (h:w.ownsRow base e size v n xs):Iv base w.heap.size (obl v):=by
 refine⟨?_,fun b a=>h.lt b (q1e.1 a)⟩;unfold obl;cases v.ownBlock<;>simp
theorem qb7 {x:qi} (h:qf.cnt x<=1048576):q1i x<=4194304:=by
 have a:0+(x.2.length+cntS shOp.cnt x.2)<=1048576:=h;have:∀l:List OpM,cntS mcOp l=l.length+cntS shOp.cnt l:=fun l=>by
  induction l with
  |nil=>rfl
  | cons y l ih =>
    rw [q1h, q1h, ih, za0];show 1 + y.2.length + _ = _ + ((0 + y.2.length) + _)
    omega
 unfold q1i;rw[this];omega
theorem q2s (A:Option Addr) (n c:Nat) (xs:List Int) (w:World) (h:RdL RI w A n xs) (m:n<=1048576):
  Calls Tryz.prog 110 #[.slice A n c] w fun e w'=>∃A' c',e=.returned (.slice A' n c')/\w'.ownsRow w.heap.size 3 1 (.slice A' n c') n (ints xs)/\Below w.heap.size w w':=by
 have d:=qm w (.cells #[] 3);have b:(w.alloc (.cells #[] 3)).ownsRow w.heap.size 3 1 (.slice (some ⟨w.heap.size,0,none⟩) 0 0) 0 []:=zb7 _ _ _ (zad _) (zah _) rfl;have j:=h.next qd d
 go_enter Tryz.func110,Tryz.ntmps110
 go_wp2_with (at_builtin;refine qk7 _ rfl _ _ 43 3 rfl (.int .i64 0) 8 za1 q14 rfl (by decide) w.heap.size 0 0 (some ⟨w.heap.size,0,none⟩) [] rfl b A n c xs (.int .i64) (fun _=>rfl) rfl j (fun _ _ _ l=>l.1) (by omega) d.size ?_;intro g i o a k f)
 go_ret;refine⟨g,i,by simp,?_,d.trans f⟩
 simpa[ints]using a
def q1m (n:Nat) (M:Nat->Bool):List Int:=((List.range n).filter M).map fun(y:Nat)=>(y:Int)
theorem q22 {n:Nat} {M H:Nat->Bool} (h:∀y,y<n->M y=H y):q1m n M=q1m n H:=by
 unfold q1m
 congr 1
 exact List.filter_congr fun y a=>h y (zdd.1 a)
theorem qbu (n:Nat) (M:Nat->Bool):q1m (n+1) M=q1m n M++if M n then[(n:Int)]else[]:=by
 unfold q1m;rw[List.range_succ,List.filter_append,zel]
 congr 1
 rcases e:M n with _|_<;>simp[e]
theorem q40 {n:Nat} {M:Nat->Bool} {v:Int}:v∈q1m n M↔∃y:Nat,y<n/\M y=true/\v=(y:Int):=by
 unfold q1m;rw[zbe];constructor
 .rintro⟨y,a,rfl⟩
  rw[List.mem_filter,zdd]at a;exact⟨y,a.1,a.2,rfl⟩
 .rintro⟨y,b,c,rfl⟩
  exact⟨y,List.mem_filter.2 ⟨zdd.2 b,c⟩,rfl⟩
theorem q4u (n:Nat) (M:Nat->Bool):(q1m n M).length<=n:=by
 unfold q1m;rw[zbz];exact za7 (List.length_filter_le _ _) (by simp)
theorem q3h {n:Nat} {M:Nat->Bool}:∀v∈q1m n M,0<=v/\v<=(n:Int) - 1:=fun v a=>by
 obtain⟨y,b,-,rfl⟩:=q40.1 a;omega
def gB (L:List Bool) (y:Nat):Bool:=L.getD y false
theorem q7y {L:List Bool} {y:Nat} {b:Bool} (h:L[y]?=some b):gB L y=b:=by unfold gB;rw[zak,h];rfl
theorem qni {L:List Bool} {y:Nat} (h:y<L.length):L[y]?=some (gB L y):=by unfold gB;rw[zak,zae h];rfl
theorem qe1 {L:List Bool} {x y:Nat} (a:x<L.length) (b:Bool):gB (L.set x b) y=if y=x then b else gB L y:=by
 unfold gB;rw[zak,zcd]
 by_cases h:x=y
 .subst h
  rw[zam rfl,zam a,zam rfl];rfl
 .rw[zaj h,zaj (fun e=>h e.symm),zak]
theorem q2t (n:Nat) (M:Nat->Bool):(q1m n M).Pairwise (· < ·):=by
 unfold q1m;rw[List.pairwise_map];exact((List.pairwise_lt_range (n:=n)).filter _).imp fun h=>by omega
theorem qkq {L M:List Bool} {n:Nat} (a:L.length=n) (b:M.length=n) (h:∀y,y<n->gB L y=gB M y):L=M:=by
 apply zcl;intro y
 by_cases hy:y<n
 .rw[qni (by omega),qni (by omega),h y hy]
 .rw[zbl (by omega),zbl (by omega)]
def inL (n:Nat) (S:List Int):List Bool:=(List.range n).map fun(y:Nat)=>hasI (y:Int) S
theorem q5s (n:Nat) (S:List Int):(inL n S).length=n:=by simp[inL]
theorem q3m {x:Int}:∀ {l:List Int},hasI x l=true↔x∈l
 | []=>by simp[hasI]
 | y :: l => by
   rw [hasI, zee, q3m, zdx, zbf];exact ⟨fun h => h.imp Eq.symm id, fun h => h.imp Eq.symm id⟩
theorem q3e {a b:Int}:∀ {l:List Int},q1z a b l=true↔∀x∈l,a<=x/\x<=b
 | []=>by simp[q1z]
 | y :: l => by
   simp [q1z, inB, q3e (l := l)]
def digs (n:Nat):Nat->Nat->List Nat
 |0,_=> []
 |k+1,i=>digs n k (i / n)++ [i % n]
def idx (n:Nat) (l:List Nat):Nat:=l.foldl (fun a d=>a*n+d) 0
theorem q4s (n:Nat) (l:List Nat) (d:Nat):idx n (l++ [d])=idx n l*n+d:=by simp[idx,List.foldl_append]
theorem q1t (n:Nat):∀k i,(digs n k i).length=k
 |0,_=>rfl
 |k+1,i=>by rw[digs,zbs,q1t n k];rfl
theorem q20 {n:Nat} (a:0<n):∀ {k i d},d∈digs n k i->d<n
 |0,_,_,h=>by cases h
 | k + 1, i, d, h => by
   rw [digs, zau] at h
   rcases h with h | h
   . exact q20 a h
   . rw [zb2] at h
     subst h;exact zfn _ a
theorem q4r {n:Nat} (a:0<n):∀ {k i},i<n ^ k->idx n (digs n k i)=i
 | 0, i, h => by
   simp at h;subst h;rfl
 | k + 1, i, h => by
   rw [digs, q4s, q4r a (k := k) (by rw [Nat.div_lt_iff_lt_mul a, <- zfi]; exact h)];rw [zfh];exact Nat.div_add_mod i n
theorem q7d {n:Nat}:∀(k:Nat) (l:List Nat),l.length=k->(∀d∈l,d<n)->idx n l<n ^ k
 | 0, l, hl, _ => by
   rw [zco] at hl;subst hl;simp [idx]
 | k + 1, l, hl, h => by
   obtain ⟨l', d, rfl⟩ : ∃ l' d, l = l' ++ [d] := by
     rcases List.eq_nil_or_concat l with rfl | ⟨l', d, rfl⟩
     . simp at hl
     . exact ⟨l', d, by simp⟩
   rw [q4s];have a := q7d k l' (by simp at hl; exact hl) fun x b => h x (by simp [b])
   have c := h d (by simp);rw [zfi];have := zd7 n (Nat.succ_le_of_lt a);rw [zet] at this;omega
theorem q4q {n:Nat} (b:0<n):∀(k:Nat) (l:List Nat),l.length=k->(∀d∈l,d<n)->digs n k (idx n l)=l
 | 0, l, hl, _ => by
   rw [zco] at hl;subst hl;rfl
 | k + 1, l, hl, h => by
   obtain ⟨l', d, rfl⟩ : ∃ l' d, l = l' ++ [d] := by
     rcases List.eq_nil_or_concat l with rfl | ⟨l', d, rfl⟩
     . simp at hl
     . exact ⟨l', d, by simp⟩
   have a := h d (by simp);rw [q4s, digs, zfh, Nat.mul_add_div b, Nat.div_eq_of_lt a, Nat.add_zero, Nat.mul_add_mod, Nat.mod_eq_of_lt a];rw [q4q b k l' (by simp at hl; exact hl) fun x c => h x (by simp [c])]
def nmI (s:List Int) (v:Int):Int:=s.getD v.toNat 0
def nmAt (s:List Int) (x:Nat):Nat:=(s.getD x 0).toNat
def PermL (n:Nat) (s:List Int):Prop:=s.length=n/\(∀v∈s,0<=v/\v<=(n:Int) - 1)/\s.Nodup
theorem q1d {s:List Int} {x:Nat} {v:Int} (h:s[x]?=some v):nmAt s x=v.toNat:=by simp[nmAt,zak,h]
theorem q3q {s:List Int} {x:Nat} {v:Int} (h:s[x]?=some v):nmI s x=v:=by simp[nmI,zak,h]
theorem PermL.at {n:Nat} {s:List Int} (h:PermL n s) {x:Nat} (c:x<n):∃v:Nat,s[x]?=some (v:Int)/\v<n/\nmAt s x=v:=by
 have a:x<s.length:=by rw[h.1];exact c
 have b:=h.2.1 s[x] (zce a);refine⟨(s[x]).toNat,?_,by omega,?_⟩
 .rw[zae a,zen b.1]
 .exact q1d (zae a)
theorem qaq:∀ {l m:List Int},l.Nodup->(∀x∈l,x∈m)->l.length<=m.length
 | [],_,_,_=>zah _
 | a :: l, m, hn, hs => by
   rw [zd2] at hn;have hm := hs a (by simp);have c := qaq (m := m.erase a) hn.2 fun x b => (List.mem_erase_of_ne (fun e => hn.1 (by rw [<- e]; exact b))).2 (hs x (by simp [b]))
   rw [List.length_erase_of_mem hm] at c;have := List.length_pos_of_mem hm;rw [za0];omega
theorem PermL.surj {n:Nat} {s:List Int} (h:PermL n s) {d:Nat} (hd:d<n):∃x,x<n/\nmAt s x=d:=by
 by_cases hm:(d:Int)∈s
 .obtain⟨x,a⟩:=zbo hm
  have:=(zag.1 a).1;exact⟨x,by rw[<-h.1];exact this,by rw[q1d a];simp⟩
 .exfalso
  have b:((d:Int)::s).length<=(upTo n).length:=qaq (zd2.2 ⟨hm,h.2.2⟩) fun x a=>by
   have c:0<=x/\x<=(n:Int) - 1:=by
    rcases zbf.1 a with rfl|a
    .omega
    .exact h.2.1 x a
   unfold upTo;rw[zbe];exact⟨x.toNat,zdd.2 (by omega),by omega⟩
  rw[za0,qdm,h.1]at b;omega
def toI (n k:Nat) (s:List Int) (i:Nat):Nat:=idx n ((digs n k i).map (nmAt s))
theorem qim {n k:Nat} {s:List Int} (a:0<n) (b:PermL n s) (i:Nat):toI n k s i<n ^ k:=by
 refine q7d k _ (by rw[zbz,q1t]) fun d hd=>?_
 rw[zbe]at hd;obtain⟨x,c,rfl⟩:=hd;obtain⟨v,-,f,e⟩:=b.at (q20 a c);omega
theorem qd4 {n:Nat} {s:List Int} (b:PermL n s):∀ {l:List Nat},(∀d∈l,d<n)->∃l':List Nat,l'.length=l.length/\(∀d∈l',d<n)/\l'.map (nmAt s)=l
 | [],_=>⟨[],rfl,(fun d hd=>by simp at hd),rfl⟩
 | d :: l, h => by
   obtain ⟨x, hx, e⟩ := b.surj (h d (by simp));obtain ⟨l', c, f, g⟩ := qd4 b (l := l) fun y a => h y (by simp [a])
   refine ⟨x :: l', by simp [c], fun y a => ?_, by rw [zcz, e, g]⟩
   rcases zbf.1 a with rfl | a
   . exact hx
   . exact f y a
theorem qin {n k:Nat} {s:List Int} (b:0<n) (h:PermL n s) {j:Nat} (g:j<n ^ k):∃i,i<n ^ k/\toI n k s i=j:=by
 obtain⟨c,a,e,f⟩:=qd4 h (l:=digs n k j) fun d hd=>q20 b hd
 rw[q1t]at a;refine⟨idx n c,q7d k c a e,?_⟩;unfold toI;rw[q4q b k c a e,f,q4r b g]
def q2q (n k:Nat) (s t T:List Int):Nat->List Int
 |0=>T
 |m+1=>(q2q n k s t T m).set (toI n k s m) (nmI s (t.getD m 0))
theorem q2u (n k:Nat) (s t T:List Int):∀m,(q2q n k s t T m).length=T.length
 |0=>rfl
 |m+1=>by rw[q2q,zcg,q2u n k s t T m]
theorem qi6 {n k:Nat} {s t T T':List Int} (a:T.length=T'.length):∀m j,(∃i,i<m/\toI n k s i=j)->(q2q n k s t T m)[j]?=(q2q n k s t T' m)[j]?
 |0,_,⟨i,hi,_⟩=>absurd hi (by omega)
 | m + 1, j, ⟨i, hi, e⟩ => by
   rw [q2q, q2q, zcd, zcd, q2u, q2u, a]
   by_cases h1 : toI n k s m = j
   . rw [zam h1, zam h1]
   . rw [zaj h1, zaj h1]
     refine qi6 a m j ⟨i, ?_, e⟩
     rcases zc9 i m with h2 | h2
     . exact h2
     . obtain rfl : i = m := by omega
       exact absurd e h1
theorem qmc {n k:Nat} {s t T T':List Int} (c:0<n) (d:PermL n s) (a:T.length=n ^ k) (b:T'.length=n ^ k):q2q n k s t T (n ^ k)=q2q n k s t T' (n ^ k):=by
 apply zcl;intro j
 by_cases hj:j<n ^ k
 .exact qi6 (by rw[a,b]) _ _ (qin c d hj)
 .rw[zbl (by rw[q2u];omega),zbl (by rw[q2u];omega)]
theorem qd5 {n k:Nat} {s t T:List Int} (b:PermL n s) (a:∀v∈T,0<=v/\v<=(n:Int) - 1) (c:∀v∈t,0<=v/\v<=(n:Int) - 1):∀m,m<=t.length->∀v∈q2q n k s t T m,0<=v/\v<=(n:Int) - 1
 |0,_=>a
 | m + 1, hm => by
   intro v hv;rw [q2q] at hv
   rcases zdk hv with hv | rfl
   . exact qd5 b a c m (by omega) v hv
   . have h1 : t[m]? = some t[m] := zae (by omega)
     have d := c t[m] (zce _);rw [zak, h1];obtain ⟨u, e, f, -⟩ := b.at (x := (t[m]).toNat) (by omega);have := q3q e;rw [zen d.1] at this;show 0 <= nmI s t[m] /\ nmI s t[m] <= _
     rw [this];omega
theorem qlt {n x:Nat} (a:x<n):nmAt (upTo n) x=x:=by rw[q1d (qio a)];simp
theorem qpv {n k:Nat} (a:0<n) {i:Nat} (hi:i<n ^ k):toI n k (upTo n) i=i:=by
 unfold toI;have e:(digs n k i).map (nmAt (upTo n))=digs n k i:=by
  conv=>rhs;rw[<-List.map_id (digs n k i)]
  apply zec;intro d hd;rw[qlt (q20 a hd)];rfl
 rw[e,q4r a hi]
def q2l (n:Nat) (s:List Int) (x:OpM):OpM:=(x.1,q2q n x.1.toNat s x.2 x.2 x.2.length)
def ren (x:qi) (s:List Int):qi:=(x.1,x.2.map (q2l x.1.toNat s))
def OpP (n:Nat) (x:OpM):Prop:=0<=x.1/\x.1<=3/\x.2.length=n ^ x.1.toNat/\∀v∈x.2,0<=v/\v<=(n:Int) - 1
def AlgP (x:qi):Prop:=1<=x.1/\x.1<=8/\x.2.length<=4/\∀o∈x.2,OpP x.1.toNat o
theorem q43 {x:qi}:algB x=true↔AlgP x:=by
 have e:∀n o,opB n o=true↔OpP n o:=fun n o=>by
  unfold opB OpP inB;rw[zal,zal,zal,decide_eq_true_eq,decide_eq_true_eq,decide_eq_true_eq,q3e];exact⟨fun⟨⟨a,b⟩,c,d⟩=>⟨a,b,c,d⟩,fun⟨a,b,c,d⟩=>⟨⟨a,b⟩,c,d⟩⟩
 unfold algB AlgP inB;simp only[zal,decide_eq_true_eq,zfx,e];exact⟨fun⟨⟨a,b⟩,c,d⟩=>⟨a,b,c,d⟩,fun⟨a,b,c,d⟩=>⟨⟨a,b⟩,c,d⟩⟩
theorem q4m {n:Nat} {s:List Int} {x:OpM} (a:PermL n s) (h:OpP n x):OpP n (q2l n s x):=
 ⟨h.1,h.2.1,by show(q2q _ _ _ _ _ _).length=_;rw[q2u];exact h.2.2.1,qd5 a h.2.2.2 h.2.2.2 _ (zad _)⟩
theorem qqy {x:qi} {s:List Int} (d:PermL x.1.toNat s) (h:AlgP x):AlgP (ren x s):=by
 refine⟨h.1,h.2.1,by show(List.map _ _).length<=4;rw[zbz];exact h.2.2.1,fun o c=>?_⟩;have a:o∈x.2.map (q2l x.1.toNat s):=c;rw[zbe]at a;obtain⟨e,b,rfl⟩:=a;exact q4m d (h.2.2.2 e b)
def nats (l:List Nat):List Int:=l.map fun(d:Nat)=>(d:Int)
theorem q72 (l:List Nat):(nats l).length=l.length:=by simp[nats]
def DgAt (n k i p cur:Nat) (L:List Int):Prop:=∃tl:List Nat,digs n k i=digs n p cur++tl/\L=List.replicate p 0++nats tl/\p+tl.length=k/\cur<=i
theorem DgAt.start (n k i:Nat):DgAt n k i k i (List.replicate k 0):=⟨[],by simp,by simp[nats],rfl,zad _⟩
theorem DgAt.step {n k i p a:Nat} {L:List Int} (h:DgAt n k i (p+1) a L):DgAt n k i p (a / n) (L.set p ((a % n:Nat):Int)):=by
 obtain⟨tl,b,rfl,d,c⟩:=h;refine⟨(a % n)::tl,by rw[b,digs];simp,?_,by simp;omega,za7 (zfj _ _) c⟩;rw[show List.replicate (p+1) (0:Int)=List.replicate p 0++ [0]by rw[List.replicate_succ'],zeb,zdz _ _ (by simp)];simp[nats]
theorem DgAt.done {n k i a:Nat} {L:List Int} (h:DgAt n k i 0 a L):L=nats (digs n k i):=by
 obtain⟨tl,b,rfl,c,-⟩:=h;rw[b,digs];simp
theorem q2n (l:List Int) (p:Nat) (v:Int):(ints l).set p (.int .i64 v)=ints (l.set p v):=by simp[ints,List.map_set]
theorem q7z (n:Nat):ints (List.replicate n 0)=List.replicate n (.int .i64 0):=by simp[ints]
theorem q4t (l:List Int):(ints l).length=l.length:=by simp[ints]
theorem w64 {x:Nat} (h:x<=1048576):wrap64 (x:Int)=x:=by unfold wrap64;omega
theorem qbg (i k n:Nat) (w:World) (E:0<n) (z:n<=1048576) (D:k<=1048576) (hi:i<=1048576):
  Calls Tryz.prog 149 #[.int .i64 i,.int .i64 k,.int .i64 n] w fun e w'=>∃g,e=.returned (.slice (some ⟨g,0,none⟩) k k)/\w'.ownsRow w.heap.size 3 1 (.slice (some ⟨g,0,none⟩) k k) k (ints (nats (digs n k i)))/\Below w.heap.size w w':=by
 go_enter Tryz.func149,Tryz.ntmps149
 go_wp2_with (at_make;refine q3g _ rfl _ _ rfl k rfl rfl (by omega) ?_;intro G b h)
 have d:=(zac w.heap.size w).grown h (zad _) (by simp);clear h
 go_loopw [0,8] (fun c j wr=>∃(p a:Nat) (L:List Int),p<=k/\c=.int .i64 a/\j=.int .i64 ((p:Int) - 1)/\Hid (DgAt n k i p a L)/\a<=1048576/\wr.ownsRow w.heap.size 3 1 (.slice (some ⟨w.heap.size,0,none⟩) k k) k (ints L)/\Below w.heap.size w wr) (fun _ j _=>(intOf j+1).toNat)
 case atStart=>exact⟨k,i,List.replicate k 0,zad _,rfl,by go_num,DgAt.start _ _ _,by omega,by rw[q7z];exact b,d⟩
 case round=>
  clear b d;obtain⟨p,a,L,F,rfl,rfl,q,v,b,d⟩:=hrel
  rcases p with _|p
  .have y:Hid (L=nats (digs n k i)):=q.out.done
   have s:¬(0:Int)<=((0:Nat):Int) - 1:=by omega
   go_wp2
   go_ret;exact⟨_,rfl,by rw[<-y.out];exact b,d⟩
  .have s:(0:Int)<=((p+1:Nat):Int) - 1:=by omega
   have B:(0:Int)<=(p:Int):=by omega
   have C:(p:Int)<(k:Int):=by omega
   have u:Hid (DgAt n k i p (a / n) (L.set p ((a % n:Nat):Int))):=q.out.step;have r:((p+1:Nat):Int) - 1=(p:Int):=by omega
   have m:p<(ints L).length:=by have:=b.1;omega
   have o:wr.cell? ⟨w.heap.size,p,none⟩=some ((ints L)[p]):=(b.cellAt p (by omega)).trans (zae m);have x:wr.frozen? ⟨w.heap.size,p,none⟩=false:=b.frozenAt p;have l:=(b.stored p (.int .i64 ((a % n:Nat):Int))).1;rw[q2n]at l;have A:¬(n:Int)=0:=by omega
   have f:a / n<=1048576:=za7 (zfj _ _) v;have t:Hid (wrap64 ((a:Int) / (n:Int))=((a / n:Nat):Int)):=by
    show _=_
    have e:(a:Int) / (n:Int)=((a / n:Nat):Int):=by simp
    rw[e];exact w64 f
   rw[r];clear s r
   go_wp2
   go_roundw
   case rel=>exact⟨p,a / n,_,by omega,by rw[t.out],by go_num,u,f,l,d.setCell (zad _) _⟩
   case measure=>simp[intOf];try omega
theorem q59 (i k n:Nat) (w:World) (E:0<n) (z:n<=1048576) (D:k<=1048576) (hi:i<=1048576):
  Calls Tryz.prog 116 #[.int .i64 n,.int .i64 k,.int .i64 i] w fun e w'=>∃g,e=.returned (.slice (some ⟨g,0,none⟩) k k)/\w'.ownsRow w.heap.size 3 1 (.slice (some ⟨g,0,none⟩) k k) k (ints (nats (digs n k i)))/\Below w.heap.size w w':=by
 go_enter Tryz.func116,Tryz.ntmps116
 go_wp2_with (at_make;refine q3g _ rfl _ _ rfl k rfl rfl (by omega) ?_;intro G b h)
 have d:=(zac w.heap.size w).grown h (zad _) (by simp);clear h
 go_loopw [2,8] (fun c j wr=>∃(p a:Nat) (L:List Int),p<=k/\c=.int .i64 a/\j=.int .i64 ((p:Int) - 1)/\Hid (DgAt n k i p a L)/\a<=1048576/\wr.ownsRow w.heap.size 3 1 (.slice (some ⟨w.heap.size,0,none⟩) k k) k (ints L)/\Below w.heap.size w wr) (fun _ j _=>(intOf j+1).toNat)
 case atStart=>exact⟨k,i,List.replicate k 0,zad _,rfl,by go_num,DgAt.start _ _ _,by omega,by rw[q7z];exact b,d⟩
 case round=>
  clear b d;obtain⟨p,a,L,F,rfl,rfl,q,v,b,d⟩:=hrel
  rcases p with _|p
  .have y:Hid (L=nats (digs n k i)):=q.out.done
   have s:¬(0:Int)<=((0:Nat):Int) - 1:=by omega
   go_wp2
   go_ret;exact⟨_,rfl,by rw[<-y.out];exact b,d⟩
  .have s:(0:Int)<=((p+1:Nat):Int) - 1:=by omega
   have B:(0:Int)<=(p:Int):=by omega
   have C:(p:Int)<(k:Int):=by omega
   have u:Hid (DgAt n k i p (a / n) (L.set p ((a % n:Nat):Int))):=q.out.step;have r:((p+1:Nat):Int) - 1=(p:Int):=by omega
   have m:p<(ints L).length:=by have:=b.1;omega
   have o:wr.cell? ⟨w.heap.size,p,none⟩=some ((ints L)[p]):=(b.cellAt p (by omega)).trans (zae m);have x:wr.frozen? ⟨w.heap.size,p,none⟩=false:=b.frozenAt p;have l:=(b.stored p (.int .i64 ((a % n:Nat):Int))).1;rw[q2n]at l;have A:¬(n:Int)=0:=by omega
   have f:a / n<=1048576:=za7 (zfj _ _) v;have t:Hid (wrap64 ((a:Int) / (n:Int))=((a / n:Nat):Int)):=by
    show _=_
    have e:(a:Int) / (n:Int)=((a / n:Nat):Int):=by simp
    rw[e];exact w64 f
   rw[r];clear s r
   go_wp2
   go_roundw
   case rel=>exact⟨p,a / n,_,by omega,by rw[t.out],by go_num,u,f,l,d.setCell (zad _) _⟩
   case measure=>simp[intOf];try omega
theorem q9l {n:Nat} {l:List Nat} {k d:Nat} (h:l[k]?=some d):idx n (l.take (k+1))=idx n (l.take k)*n+d:=by
 rw[zbp,h];exact q4s _ _ _
theorem qhv {l:List Nat} {k:Nat} {v:Int} (h:(nats l)[k]?=some v):∃d:Nat,l[k]?=some d/\v=d:=by
 unfold nats at h;rw[za2]at h
 rcases e:l[k]? with _|d
 .rw[e]at h;simp at h
 .rw[e]at h
  simp at h;exact⟨d,rfl,h.symm⟩
theorem qaa {n:Nat} (b:n<=8) {l:List Nat} (a:l.length<=4) (hd:∀d∈l,d<n):idx n l<4096+1:=by
 have:=q7d l.length l rfl hd;have c:=q47 b a;omega
theorem qfy (A:Option Addr) (k c n:Nat) (l:List Nat) (w:World) (h:RdL RI w A k (nats l)) (m:n<=8) (G:k<=4) (hd:∀d∈l,d<n):
  Calls Tryz.prog 150 #[.slice A k c,.int .i64 n] w fun e w'=>e=.returned (.int .i64 (idx n l:Nat))/\w=w':=by
 have z:=h.le;have g:Hid (l.length=k):=by show _=_;rw[<-q72];exact h.len
 have f:=zaa hd;clear hd
 go_enter Tryz.func150,Tryz.ntmps150
 go_wp2
 go_loop [5,10] (fun v i=>∃q:Nat,q<=k/\i=.int .i64 q/\v=.int .i64 (idx n (l.take q):Nat)) (fun _ i=>k - (intOf i).toNat)
 case atStart=>exact⟨0,zah _,rfl,rfl⟩
 case round=>
  obtain⟨q,H,rfl,rfl⟩:=hrel;obtain⟨P,a⟩:∃P,Hid (idx n (l.take q)=P):=⟨_,rfl⟩;have u:P<=4096:=by
   rw[<-a.out];have:=qaa m (l:=l.take q) (by rw[za9,g.out];omega) fun d hd=>f.out d (zbt hd)
   omega
  rw[a.out]
  by_cases hlt:q<k
  .obtain⟨b,o,v,x,rfl,F,⟨rfl,-⟩,-,p⟩:=h.at hlt
   obtain⟨d,hd,rfl⟩:=qhv p;have y:=f.out d (zaf hd);have t:Hid (idx n (l.take (q+1))=P*n+d):=by show _=_;rw[q9l hd,a.out]
   have hM:P*n<=4096*8:=zci u m;have B:(0:Int)<=(P:Int)*(n:Int):=by rw[<-zbw];omega
   have C:(P:Int)*(n:Int)<=32768:=by rw[<-zbw];omega
   have r:Hid ((P:Int)*(n:Int)=((P*n:Nat):Int)):=(zbw _ _).symm;have D:(0:Int)<=(q:Int):=by omega
   have E:(q:Int)<(k:Int):=by omega
   clear hM p hd
   go_wp2
   go_round
   case rel=>exact⟨q+1,by omega,by go_num,by rw[t.out,r.out];simp⟩
   case measure=>simp[intOf];omega
  .obtain rfl:q=k:=by omega
   have j:¬(q:Int)<(q:Int):=by omega
   have s:Hid (P=idx n l):=by show _=_;rw[<-a.out,zar (by rw[g.out];exact zad _)]
   go_wp2
   go_ret;exact⟨by rw[s.out];rfl,rfl⟩
noncomputable def tt (p:Prop):Bool:= @decide p (Classical.propDecidable p)
theorem q6o {p:Prop} (h:p):true=tt p:=by unfold tt;simp[h]
theorem q2r {p:Prop} (h:¬p):false=tt p:=by unfold tt;simp[h]
theorem q2h {p:Prop}:tt p=true↔p:=by unfold tt;simp
theorem RdL.take {α:Type} {R:World->Value->α->Prop} {w:World} {A:Option Addr} {n:Nat} {xs:List α} (h:RdL R w A n xs) {k:Nat} (b:k<=n):RdL R w A k (xs.take k):=by
 refine⟨by rw[za9,h.1];omega,za7 b h.2.1,fun j x a=>?_⟩;rw[zd3]at a
 split at a
 .exact h.2.2 j x a
 .cases a
theorem qlj {b xs:List Int} {x:Int} (h:x∈q2d b xs):x∈xs:=by
 induction xs with
 |nil=>simp[q2d]at h
 | cons a l ih =>
   rw [q2d] at h
   split at h
   . rcases zbf.1 h with rfl | h
     . exact zaq ..
     . exact zap _ (ih h)
   . exact zap _ (ih h)
theorem RdL.drop {α:Type} {R:World->Value->α->Prop} {w:World} {b o n:Nat} {xs:List α} (h:RdL R w (some ⟨b,o,none⟩) n xs) (k:Nat):RdL R w (some ⟨b,o+k,none⟩) (n - k) (xs.drop k):=by
 refine⟨by rw[zct,h.1],za7 (Nat.sub_le _ _) h.2.1,fun j x a=>?_⟩;rw[zds]at a;obtain⟨f,g,v,e,c,d⟩:=h.2.2 (k+j) x a;simp only[zc5,Addr.mk.injEq,and_true]at e;obtain⟨rfl,rfl⟩:=e;exact⟨b,o+k,v,rfl,by rw[Nat.add_assoc];exact c,d⟩
theorem lit0 {B:Nat} {e:TypeId} (w:World) (a:w.heap.size=B):(w.alloc (.cells #[] e)).ownsRow B e 1 (.slice (some ⟨B,0,none⟩) 0 0) 0 []:=by
 subst a;exact zb7 _ _ _ (zad _) (zah _) rfl
theorem lit1 {B:Nat} {e:TypeId} (w:World) (a:w.heap.size=B+1):(w.alloc (.cells #[] e)).ownsRow B e 1 (.slice (some ⟨B+1,0,none⟩) 0 0) 0 []:=by
 rw[<-a];exact zb7 _ _ _ (by omega) (zah _) rfl
theorem q5k {B:Nat} {e:TypeId} {u:Value} (w:World) (a:w.heap.size=B):(w.alloc (.cells #[u] e)).cell? ⟨B,0,none⟩=some u:=by
 subst a;exact(Blk.new w e #[u]).cell 0
theorem qdt {B:Nat} {e:TypeId} {u:Value} (w:World) (o:Obj) (a:w.heap.size=B):((w.alloc (.cells #[u] e)).alloc o).cell? ⟨B,0,none⟩=some u:=by
 subst a;exact((Blk.new w e #[u]).alloc o).cell 0
theorem q2o {w:World} {base:Nat} {e:TypeId} {size:Nat} {A:Option Addr} {n c:Nat} {xs:List Value} (h:w.ownsRow base e size (.slice A n c) n xs) (l:0<n):∃g,A=some ⟨g,0,none⟩/\base<=g/\n<=c:=by
 rcases h.2 with⟨j,k⟩|⟨g,a,b,i,d,_,f,_⟩
 .omega
 .injection i with hA _ hc
  exact⟨g,hA,d,by omega⟩
theorem qda {w:World} {base:Nat} {e:TypeId} {size:Nat} {A:Option Addr} {n c:Nat} {xs:List Value} (h:w.ownsRow base e size (.slice A n c) n xs):n<=c:=by
 rcases h.2 with⟨i,j⟩|⟨g,a,b,f,_,_,d,_⟩
 .omega
 .injection f with _ _ hc
  omega
theorem q5q {x:Int}:∀ {l:List Int},hasI x l=true↔x∈l
 | []=>by simp[hasI]
 | y :: l => by
   rw [hasI, zee, q5q (l := l), zdx, zbf];constructor
   . rintro (h | h)
     . exact .inl h.symm
     . exact .inr h
   . rintro (h | h)
     . exact .inl h.symm
     . exact .inr h
theorem qan (a:List Int):∀xs,(q2d a xs).Sublist xs
 | []=>List.Sublist.refl _
 | x :: l => by
   rw [q2d]
   split
   . exact (qan a l).cons_cons x
   . exact (qan a l).cons x
theorem q39:∀ {l:List Int},q24 l=true↔l.Pairwise (· < ·)
 | []=>by simp[q24]
 | [x]=>by simp[q24]
 | x :: y :: l => by
   rw [q24, zal, q39 (l := y :: l), decide_eq_true_eq];constructor
   . rintro ⟨h1, h2⟩
     refine zd4.2 ⟨fun z hz => ?_, h2⟩
     rcases zbf.1 hz with rfl | hz
     . exact h1
     . have := (zd4.1 h2).1 z hz; omega
   . intro h
     obtain ⟨h1, h2⟩ := zd4.1 h;exact ⟨h1 y (zaq ..), h2⟩
theorem q38 {a b:Int}:∀ {l:List Int},q1z a b l=true↔∀x∈l,a<=x/\x<=b
 | []=>by simp[q1z]
 |y::l=>by simp[q1z,q38 (l:=l),inB]
theorem qer {α:Type} [DecidableEq α]:∀ {l m:List α},l.Nodup->(∀x∈l,x∈m)->l.length<=m.length
 | [],_,_,_=>zah _
 | x :: l, m, h, hs => by
   have hx := hs x (zaq ..);have a := zd2.1 h;have := qer (l := l) (m := m.erase x) a.2 fun y c => (List.mem_erase_of_ne (by rintro rfl; exact a.1 c)).2 (hs y (zap _ c))
   rw [List.length_erase_of_mem hx] at this;have b : 0 < m.length := List.length_pos_of_mem hx;simp;omega
def PutP (xs:List Int) (y:Int) (L:List Int):Prop:=∃k,k<=xs.length/\(∀i,i<k->∀z,xs[i]?=some z->z<y)/\((xs[k]?=some y/\L=xs)\/((∀z,xs[k]?=some z->y<z)/\L=xs.take k++y::xs.drop k))
def PutX (lo n:Nat) (xs:List Int) (y:Int) (w:World) (e:Ending) (w':World):Prop:=∃A m c L,e=.returned (.slice A m c)/\w'.ownsRow lo 3 1 (.slice A m c) m (ints L)/\m<=n+1/\PutP xs y L/\Below w.heap.size w w'
def PutY (lo b n c:Nat) (xs:List Int) (y:Int) (w:World) (e:Ending) (w':World):Prop:=∃A m c' L,e=.returned (.slice A m c')/\w'.ownsRow lo 3 1 (.slice A m c') m (ints L)/\m<=n+1/\PutP xs y L/\Below w.heap.size w w'/\((A=some ⟨b,0,none⟩/\m=n/\c'=c/\L=xs)\/w'.ownsRow w.heap.size 3 1 (.slice A m c') m (ints L))
theorem q5y {w:World} {g:Nat} {u:Int} (h:w.cell? ⟨g,0,none⟩=some (.int .i64 u)) (b: -9223372036854775808<=u/\u<=9223372036854775807):RdL RI w (some ⟨g,0,none⟩) 1 [u]:=⟨rfl,by unfold maxLen;omega,fun k x a=>by
 rcases k with _|k
 .simp only[List.getElem?_cons_zero,zc5]at a
  subst a;exact⟨g,0,_,rfl,h,rfl,b⟩
 .simp at a⟩
theorem qbn (lo b n c:Nat) (xs:List Int) (y:Int) (w:World) (h:w.ownsRow lo 3 1 (.slice (some ⟨b,0,none⟩) n c) n (ints xs)) (V:lo<=w.heap.size) (hn:n<=1000) (hx:∀z∈xs, -2000<=z/\z<=2000) (hy: -2000<=y/\y<=2000):
  Calls Tryz.prog 118 #[.slice (some ⟨b,0,none⟩) n c,.int .i64 y] w (PutY lo b n c xs y w):=by
 have hnc:=qda h;have W:=q12 (R:=RI) h (q1r fun z hz=>by have:=hx z hz;omega);have HX:=zaa hx;have S:=zaa h;have m:=zaa W;clear hx h W
 go_enter Tryz.func118,Tryz.ntmps118
 go_wp2_with fail
 go_loopw [5] (fun i wr=>∃k:Nat,k<=n/\i=.int .i64 k/\Hid (∀i,i<k->∀z,xs[i]?=some z->z<y)/\Hid (w=wr)) (fun i _=>n - (intOf i).toNat)
 case atStart=>
  have P:Hid (∀i,i<0->∀z,xs[i]?=some z->z<y):=fun i hi=>absurd hi (by omega)
  first
   |exact⟨0,zah _,rfl,P,rfl⟩
   |exact⟨0,zah _,rfl,P,trivial⟩
   |exact⟨0,zah _,P,trivial⟩
   |exact⟨0,zah _,P⟩
 case round=>
  obtain⟨k,hk,rfl,E,T⟩:=hrel;have hwr:=T.out;clear T;subst hwr
  by_cases hlt:k<n
  .have hk0:(0:Int)<=(k:Int):=by omega
   have hk1:(k:Int)<(n:Int):=by omega
   obtain⟨v,z,hcz,⟨rfl,-,-⟩,-,X⟩:=m.out.at' hlt;rw[zcn]at hcz;have M:=zaa X;clear X
   by_cases hzy:z<y
   .go_wp2_with fail
    go_roundw
    case rel=>
     have P:Hid (∀i,i<k+1->∀z,xs[i]?=some z->z<y):=fun i hi H q=>by
      by_cases e:i=k
      .subst e
       rw[M.out]at q;injection q with q
       omega
      .exact E.out i (by omega) H q
     exact⟨k+1,by omega,by go_num,P,(by first|exact trivial|exact rfl)⟩
    case measure=>simp[intOf];omega
   .by_cases hze:z=y
    .have hz1:(z==y)=true:=by simpa using hze
     subst hze;go_wp2_with fail;go_ret;exact⟨_,n,c,xs,rfl,S.out,by omega,⟨k,by rw[m.out.1];omega,E.out,.inl ⟨M.out,rfl⟩⟩,zac _ _,.inl ⟨rfl,rfl,rfl,rfl⟩⟩
    .have hz1:(z==y)=false:=by simpa using hze
     have L:Hid (∀H,xs[k]?=some H->y<H):=fun H q=>by
      rw[M.out]at q;injection q with q
      omega
     have hkc:(k:Int)<=(c:Int):=by omega
     have hk3:(k:Int)<=(n:Int):=by omega
     have Q:=m;obtain⟨F,t,H2⟩:∃F,Hid ((if c=k then some (⟨b,0,none⟩:Addr)else some ⟨b,k,none⟩)=F)/\Hid (RdL RI w F (n - k) (xs.drop k)):=by
      by_cases hq:c=k
      .refine⟨_,zam hq,?_⟩
       have e0:n - k=0:=by omega
       have A:xs.drop k= []:=zbk (by rw[(m.out).1];omega);show RdL RI w _ _ _
       rw[e0,A];exact⟨rfl,zah _,fun j x hj=>by simp at hj⟩
      .exact⟨_,zaj hq,by show RdL RI _ _ _ _;simpa using(m.out).drop k⟩
     go_wp2_with fail
     go_region_law (first
      |(refine q1b (R:=RI) _ rfl (.tmp 33) (.tmp 36) 43 3 rfl (.int .i64 0) 8 za1 q14 rfl (by decide) w.heap.size 0 0 (some ⟨w.heap.size,0,none⟩) [] (by rfl) (by first|exact lit0 _ (by simp)|exact(lit0 _ (by simp)).alloc _) (some ⟨b,0,none⟩) k c (xs.take k) (fun y=>.int .i64 y) (fun _=>rfl) (by rfl) ((Q.out.take (k:=k) (by omega)).next qd (by first|exact(qc (zac _ _) _).alloc (by simp) _|exact((qc (zac _ _) _).alloc (by simp) _).alloc (by first|(simp;done)|(simp;omega)) _)) (fun _ _ _ p=>p.1) (by omega) (by first|(simp;done)|(simp;omega)) ?_;intro D G Y d r a;simp only[zcn,zch]at d)
      |(refine q1b (R:=RI) _ rfl (.tmp 33) (.tmp 36) 43 3 rfl (.int .i64 0) 8 za1 q14 rfl (by decide) w.heap.size 0 0 (some ⟨w.heap.size+1,0,none⟩) [] (by rfl) (lit1 _ (by simp)) (some ⟨b,0,none⟩) k c (xs.take k) (fun y=>.int .i64 y) (fun _=>rfl) (by rfl) ((Q.out.take (k:=k) (by omega)).next qd (by first|exact(qc (zac _ _) _).alloc (by simp) _|exact((qc (zac _ _) _).alloc (by simp) _).alloc (by first|(simp;done)|(simp;omega)) _)) (fun _ _ _ p=>p.1) (by omega) (by first|(simp;done)|(simp;omega)) ?_;intro D G Y d r a;simp only[zcn,zch]at d)
      |(refine q1b (R:=RI) _ rfl (.tmp 37) (.tmp 39) 43 3 rfl (.int .i64 0) 8 za1 q14 rfl (by decide) w.heap.size k G D (ints (xs.take k)) (by rfl) (by exact d.alloc _) (some ⟨Y.heap.size,0,none⟩) 1 1 [y] (fun y=>.int .i64 y) (fun _=>rfl) (by rfl) (q5y (q5k _ rfl) (by omega)) (fun _ _ _ p=>p.1) (by omega) (by have l:=a.size;first|(simp at l;omega)|(simp at l⊢;omega)|(simp;omega)|omega) ?_;intro I N C g B o;have s:Below w.heap.size w C:=(by refine zdl ?_ o;first|(refine zdl ?_ a;first|exact(qc (zac _ _) _).alloc (by simp) _|exact((qc (zac _ _) _).alloc (by simp) _).alloc (by first|(simp;done)|(simp;omega)) _)|(refine Below.alloc ?_ (by have l:=a.size;first|(simp at l;omega)|omega) _;refine zdl ?_ a;first|exact(qc (zac _ _) _).alloc (by simp) _|exact((qc (zac _ _) _).alloc (by simp) _).alloc (by first|(simp;done)|(simp;omega)) _)))
      |(refine q1b (R:=RI) _ rfl (.tmp 37) (.tmp 39) 43 3 rfl (.int .i64 0) 8 za1 q14 rfl (by decide) w.heap.size k G D (ints (xs.take k)) (by rfl) (by exact d) (some ⟨w.heap.size+1,0,none⟩) 1 1 [y] (fun y=>.int .i64 y) (fun _=>rfl) (by rfl) (q5y (r.cell (v:=.int .i64 y) (q5k _ (by simp)) (by simp[Value.ownBlock])) (by omega)) (fun _ _ _ p=>p.1) (by omega) (by have l:=a.size;first|(simp at l;omega)|(simp at l⊢;omega)|(simp;omega)|omega) ?_;intro I N C g B o;have s:Below w.heap.size w C:=(by refine zdl ?_ o;first|(refine zdl ?_ a;first|exact(qc (zac _ _) _).alloc (by simp) _|exact((qc (zac _ _) _).alloc (by simp) _).alloc (by first|(simp;done)|(simp;omega)) _)|(refine Below.alloc ?_ (by have l:=a.size;first|(simp at l;omega)|omega) _;refine zdl ?_ a;first|exact(qc (zac _ _) _).alloc (by simp) _|exact((qc (zac _ _) _).alloc (by simp) _).alloc (by first|(simp;done)|(simp;omega)) _)))
      |(refine q1b (R:=RI) _ rfl (.tmp 37) (.tmp 39) 43 3 rfl (.int .i64 0) 8 za1 q14 rfl (by decide) w.heap.size k G D (ints (xs.take k)) (by rfl) (by exact d) (some ⟨w.heap.size,0,none⟩) 1 1 [y] (fun y=>.int .i64 y) (fun _=>rfl) (by rfl) (q5y (r.cell (v:=.int .i64 y) (qdt _ _ (by simp)) (by simp[Value.ownBlock])) (by omega)) (fun _ _ _ p=>p.1) (by omega) (by have l:=a.size;first|(simp at l;omega)|(simp at l⊢;omega)|(simp;omega)|omega) ?_;intro I N C g B o;have s:Below w.heap.size w C:=(by refine zdl ?_ o;first|(refine zdl ?_ a;first|exact(qc (zac _ _) _).alloc (by simp) _|exact((qc (zac _ _) _).alloc (by simp) _).alloc (by first|(simp;done)|(simp;omega)) _)|(refine Below.alloc ?_ (by have l:=a.size;first|(simp at l;omega)|omega) _;refine zdl ?_ a;first|exact(qc (zac _ _) _).alloc (by simp) _|exact((qc (zac _ _) _).alloc (by simp) _).alloc (by first|(simp;done)|(simp;omega)) _)))
      |(refine q1b (R:=RI) _ rfl (.tmp 40) (.tmp 43) 43 3 rfl (.int .i64 0) 8 za1 q14 rfl (by decide) w.heap.size (k+1) N I (ints (xs.take k)++ [.int .i64 y]) (by rfl) (by exact g) F (n - k) (c - k) (xs.drop k) (fun y=>.int .i64 y) (fun _=>rfl) (by first|rfl|(show Value.slice (if c=k then _ else _) _ _=_;rw[t.out];done)|(show Value.slice (if c=k then _ else _) _ _=_;rw[t.out];simp)) (H2.out.next qd s) (fun _ _ _ p=>p.1) (by omega) (by exact s.size) ?_;intro Z c4 w4 f hg4 O))
     all_goals
      have A:k+1+(n - k)=n+1:=by omega
      rw[A]at f;have U:ints (xs.take k)++ [.int .i64 y]++(xs.drop k).map (fun y=>.int .i64 y)=ints (xs.take k++y::xs.drop k):=by simp[ints]
      rw[U]at f;have u:=zaa f;have K:=zaa (s.trans O);have J:=zaa A;clear f U A;go_wp2_with fail
      all_goals
       go_ret;exact⟨Z,n+1,c4,_,by first|rfl|(rw[<-J.out];rfl),ql u.out V,zad _,⟨k,by rw[m.out.1];omega,E.out,.inr ⟨L.out,rfl⟩⟩,K.out,.inr u.out⟩
  .obtain rfl:n=k:=by omega
   have L:Hid (∀H,xs[n]?=some H->y<H):=fun H q=>by
    rw[zbl (by rw[m.out.1];omega)]at q;cases q
   have hk1:¬(n:Int)<(n:Int):=by omega
   have hk0:(0:Int)<=(n:Int):=by omega
   have hkc:(n:Int)<=(c:Int):=by omega
   have hk3:(n:Int)<=(n:Int):=by omega
   have Q:=m;obtain⟨F,t,H2⟩:∃F,Hid ((if c=n then some (⟨b,0,none⟩:Addr)else some ⟨b,n,none⟩)=F)/\Hid (RdL RI w F (n - n) (xs.drop n)):=by
    by_cases hq:c=n
    .refine⟨_,zam hq,?_⟩
     have e0:n - n=0:=by omega
     have A:xs.drop n= []:=zbk (by rw[(m.out).1];omega);show RdL RI w _ _ _
     rw[e0,A];exact⟨rfl,zah _,fun j x hj=>by simp at hj⟩
    .exact⟨_,zaj hq,by show RdL RI _ _ _ _;simpa using(m.out).drop n⟩
   go_wp2_with fail
   go_region_law (first
    |(refine q1b (R:=RI) _ rfl (.tmp 33) (.tmp 36) 43 3 rfl (.int .i64 0) 8 za1 q14 rfl (by decide) w.heap.size 0 0 (some ⟨w.heap.size,0,none⟩) [] (by rfl) (by first|exact lit0 _ (by simp)|exact(lit0 _ (by simp)).alloc _) (some ⟨b,0,none⟩) n c (xs.take n) (fun y=>.int .i64 y) (fun _=>rfl) (by rfl) ((Q.out.take (k:=n) (by omega)).next qd (by first|exact(qc (zac _ _) _).alloc (by simp) _|exact((qc (zac _ _) _).alloc (by simp) _).alloc (by first|(simp;done)|(simp;omega)) _)) (fun _ _ _ p=>p.1) (by omega) (by first|(simp;done)|(simp;omega)) ?_;intro D G Y d r a;simp only[zcn,zch]at d)
    |(refine q1b (R:=RI) _ rfl (.tmp 33) (.tmp 36) 43 3 rfl (.int .i64 0) 8 za1 q14 rfl (by decide) w.heap.size 0 0 (some ⟨w.heap.size+1,0,none⟩) [] (by rfl) (lit1 _ (by simp)) (some ⟨b,0,none⟩) n c (xs.take n) (fun y=>.int .i64 y) (fun _=>rfl) (by rfl) ((Q.out.take (k:=n) (by omega)).next qd (by first|exact(qc (zac _ _) _).alloc (by simp) _|exact((qc (zac _ _) _).alloc (by simp) _).alloc (by first|(simp;done)|(simp;omega)) _)) (fun _ _ _ p=>p.1) (by omega) (by first|(simp;done)|(simp;omega)) ?_;intro D G Y d r a;simp only[zcn,zch]at d)
    |(refine q1b (R:=RI) _ rfl (.tmp 37) (.tmp 39) 43 3 rfl (.int .i64 0) 8 za1 q14 rfl (by decide) w.heap.size n G D (ints (xs.take n)) (by rfl) (by exact d.alloc _) (some ⟨Y.heap.size,0,none⟩) 1 1 [y] (fun y=>.int .i64 y) (fun _=>rfl) (by rfl) (q5y (q5k _ rfl) (by omega)) (fun _ _ _ p=>p.1) (by omega) (by have l:=a.size;first|(simp at l;omega)|(simp at l⊢;omega)|(simp;omega)|omega) ?_;intro I N C g B o;have s:Below w.heap.size w C:=(by refine zdl ?_ o;first|(refine zdl ?_ a;first|exact(qc (zac _ _) _).alloc (by simp) _|exact((qc (zac _ _) _).alloc (by simp) _).alloc (by first|(simp;done)|(simp;omega)) _)|(refine Below.alloc ?_ (by have l:=a.size;first|(simp at l;omega)|omega) _;refine zdl ?_ a;first|exact(qc (zac _ _) _).alloc (by simp) _|exact((qc (zac _ _) _).alloc (by simp) _).alloc (by first|(simp;done)|(simp;omega)) _)))
    |(refine q1b (R:=RI) _ rfl (.tmp 37) (.tmp 39) 43 3 rfl (.int .i64 0) 8 za1 q14 rfl (by decide) w.heap.size n G D (ints (xs.take n)) (by rfl) (by exact d) (some ⟨w.heap.size+1,0,none⟩) 1 1 [y] (fun y=>.int .i64 y) (fun _=>rfl) (by rfl) (q5y (r.cell (v:=.int .i64 y) (q5k _ (by simp)) (by simp[Value.ownBlock])) (by omega)) (fun _ _ _ p=>p.1) (by omega) (by have l:=a.size;first|(simp at l;omega)|(simp at l⊢;omega)|(simp;omega)|omega) ?_;intro I N C g B o;have s:Below w.heap.size w C:=(by refine zdl ?_ o;first|(refine zdl ?_ a;first|exact(qc (zac _ _) _).alloc (by simp) _|exact((qc (zac _ _) _).alloc (by simp) _).alloc (by first|(simp;done)|(simp;omega)) _)|(refine Below.alloc ?_ (by have l:=a.size;first|(simp at l;omega)|omega) _;refine zdl ?_ a;first|exact(qc (zac _ _) _).alloc (by simp) _|exact((qc (zac _ _) _).alloc (by simp) _).alloc (by first|(simp;done)|(simp;omega)) _)))
    |(refine q1b (R:=RI) _ rfl (.tmp 37) (.tmp 39) 43 3 rfl (.int .i64 0) 8 za1 q14 rfl (by decide) w.heap.size n G D (ints (xs.take n)) (by rfl) (by exact d) (some ⟨w.heap.size,0,none⟩) 1 1 [y] (fun y=>.int .i64 y) (fun _=>rfl) (by rfl) (q5y (r.cell (v:=.int .i64 y) (qdt _ _ (by simp)) (by simp[Value.ownBlock])) (by omega)) (fun _ _ _ p=>p.1) (by omega) (by have l:=a.size;first|(simp at l;omega)|(simp at l⊢;omega)|(simp;omega)|omega) ?_;intro I N C g B o;have s:Below w.heap.size w C:=(by refine zdl ?_ o;first|(refine zdl ?_ a;first|exact(qc (zac _ _) _).alloc (by simp) _|exact((qc (zac _ _) _).alloc (by simp) _).alloc (by first|(simp;done)|(simp;omega)) _)|(refine Below.alloc ?_ (by have l:=a.size;first|(simp at l;omega)|omega) _;refine zdl ?_ a;first|exact(qc (zac _ _) _).alloc (by simp) _|exact((qc (zac _ _) _).alloc (by simp) _).alloc (by first|(simp;done)|(simp;omega)) _)))
    |(refine q1b (R:=RI) _ rfl (.tmp 40) (.tmp 43) 43 3 rfl (.int .i64 0) 8 za1 q14 rfl (by decide) w.heap.size (n+1) N I (ints (xs.take n)++ [.int .i64 y]) (by rfl) (by exact g) F (n - n) (c - n) (xs.drop n) (fun y=>.int .i64 y) (fun _=>rfl) (by first|rfl|(show Value.slice (if c=n then _ else _) _ _=_;rw[t.out];done)|(show Value.slice (if c=n then _ else _) _ _=_;rw[t.out];simp)) (H2.out.next qd s) (fun _ _ _ p=>p.1) (by omega) (by exact s.size) ?_;intro Z c4 w4 f hg4 O))
   all_goals
    have A:n+1+(n - n)=n+1:=by omega
    rw[A]at f;have U:ints (xs.take n)++ [.int .i64 y]++(xs.drop n).map (fun y=>.int .i64 y)=ints (xs.take n++y::xs.drop n):=by simp[ints]
    rw[U]at f;have u:=zaa f;have K:=zaa (s.trans O);have J:=zaa A;clear f U A;go_wp2_with fail
    all_goals
     go_ret;exact⟨Z,n+1,c4,_,by first|rfl|(rw[<-J.out];rfl),ql u.out V,zad _,⟨n,by rw[m.out.1];omega,E.out,.inr ⟨L.out,rfl⟩⟩,K.out,.inr u.out⟩
theorem qja (lo b n c:Nat) (xs:List Int) (y:Int) (w:World) (h:w.ownsRow lo 3 1 (.slice (some ⟨b,0,none⟩) n c) n (ints xs)) (a:lo<=w.heap.size) (k:n<=1000) (l:∀z∈xs, -2000<=z/\z<=2000) (o: -2000<=y/\y<=2000):
  Calls Tryz.prog 118 #[.slice (some ⟨b,0,none⟩) n c,.int .i64 y] w (PutX lo n xs y w):=
 (qbn lo b n c xs y w h a k l o).mono fun _ _ ⟨A,m,d,L,e,f,g,i,j,_⟩=>⟨A,m,d,L,e,f,g,i,j⟩
abbrev q1g:Type:=(List Int×List Int)
def qw:Sh q1g:=(Sh.pair (Sh.il 3) (Sh.il 3))
theorem q1k {w:World} {cs:List Value} {x:q1g} (h:qw.rd w cs x):∃(ALeft:Option Addr) (nLeft cLeft:Nat) (ARight:Option Addr) (nRight cRight:Nat),cs= [.slice ALeft nLeft cLeft,.slice ARight nRight cRight]/\RdL RI w ALeft nLeft x.1/\RdL RI w ARight nRight x.2:=by
 obtain⟨_,_,rfl,⟨_,rfl,ALeft,nLeft,cLeft,rfl,b⟩,⟨_,rfl,ARight,nRight,cRight,rfl,a⟩⟩:=h;exact⟨ALeft,nLeft,cLeft,ARight,nRight,cRight,rfl,b,a⟩
theorem q2a {w:World} {x:q1g} {c a:Option Addr} {d cLeft b cRight:Nat} (f:RdL RI w c d x.1) (e:RdL RI w a b x.2):qw.rd w [.slice c d cLeft,.slice a b cRight] x:=
 ⟨[.slice c d cLeft], [.slice a b cRight],rfl,⟨_,rfl,_,_,_,rfl,f⟩,⟨_,rfl,_,_,_,rfl,e⟩⟩
theorem qba (cs:List Value) (x:q1g) (left:Int) (w:World) (h:qw.rd w cs x) (C:0<=left) (I:left<=1048576):
  Calls Tryz.prog 67 #[.agg cs.toArray,.int .i64 left] w (Bl w (.int .i64 (szR (qw.cnt x) left))):=by
 obtain⟨k,o,n,c,j,f,rfl,b,a⟩:=q1k h;obtain⟨J,v,B,G,p⟩:=q15 w #[.slice k o n,.slice c j f] 45;have D:=b.le;have y:=a.le;have r:Hid (szR 0 left=left):=q61 C;have m:Hid (qw.cnt x=(x.1.length+x.2.length)):=rfl;replace b:=b.next qd B;replace a:=a.next qd B
 go_enter Tryz.func67,Tryz.ntmps67
 have q:=p.cell 0;simp at q;rw[v]at q;go_wp2_with fail;rw[<-v];refine(q4y (q5e _ _ _ _ left _ b (by omega) (by omega))).mono ?_;rintro e K ⟨rfl,g⟩;rw[q5f];have E:=q9 B g rfl;replace p:=p.next g;replace b:=b.next qd g;replace a:=a.next qd g;clear q;have d:Hid (szR (0+x.1.length) left=szR x.1.length left):=by show _=_;rw[<-q3v (by rw[r.out];omega),r.out]
 have t:=q4o x.1.length (left:=left) (by omega);obtain⟨s,z⟩:∃L,Hid (szR x.1.length left=L):=⟨_,rfl⟩;rw[z.out]at d t⊢
 by_cases z0:s<0
 .go_wp2_with fail
  go_ret;exact⟨q11 (q6n (by rw[d.out];omega) (by rw[m.out];omega) C),E⟩
 have q:=p.cell 1;simp at q;go_wp2_with fail;refine(q4y (q5e _ _ _ _ s _ a (by omega) (by omega))).mono ?_;rintro e M ⟨rfl,i⟩;rw[q5f];have F:=q9 E i rfl;replace p:=p.next i;replace b:=b.next qd i;replace a:=a.next qd i;clear q;have l:Hid (szR ((0+x.1.length)+x.2.length) left=szR x.2.length s):=by show _=_;rw[<-q3v (by rw[d.out];omega),d.out]
 have u:=q4o x.2.length (left:=s) (by omega);obtain⟨H,A⟩:∃L,Hid (szR x.2.length s=L):=⟨_,rfl⟩;rw[A.out]at l u⊢
 by_cases z1:H<0
 .go_wp2_with fail
  go_ret;exact⟨q11 (q6n (by rw[l.out];omega) (by rw[m.out];omega) C),F⟩
 go_wp2_with fail;go_ret;exact⟨q11 (by simp only[m.out,<-l.out];first|done|(congr 1;omega)),F⟩
theorem qbc (cs:List Value) (x:q1g) (w:World) (h:qw.rd w cs x) (hn:qw.cnt x<=1048576):
  Calls Tryz.prog 73 #[.agg cs.toArray] w (ToE qw w x):=by
 obtain⟨u,d,y,m,c,o,rfl,B,r⟩:=q1k h;have hcn:(x.1.length+x.2.length)<=1048576:=hn;obtain⟨w0,ab,T0,hsz0,E,C,t⟩:=q7t w #[.slice u d y,.slice m c o] #[.slice none 0 0,.slice none 0 0] #[.slice none 0 0,.slice none 0 0] 45 55;have M:=B.len;have L:=r.len
 go_enter Tryz.func73,Tryz.ntmps73
 go_wp2_with fail;rw[<-ab];refine(q5g _ _ _ _ _ (B.next qd T0) (by omega)).mono ?_;rintro e V ⟨g,rfl,U,q,D⟩;have i:(Sh.il 3).own V [.slice (some ⟨g,0,none⟩) d d] x.1 [g]:=⟨_,rfl,by rw[M];exact ql q (zah _),B.bounds,rfl⟩;have k:Iv w0.heap.size V.heap.size [g]:=⟨by simp,fun b S=>by simp at S;subst S;exact q.lt _ rfl⟩;clear q;have hz1:=D.size;have T1:=q9 T0 D rfl;replace E:=E.next D;replace C:=C.next D;replace t:=t.next D;clear D;have I:=E.cell 0;have J:=E.cell 1;have G:=t.cell 0;have N:=t.frozen 0;have H:=t.cell 1;have O:=t.frozen 1;simp at I G J H;go_wp2_with fail;clear I G N J H O;obtain⟨P,A⟩:∃wb,wb=(V.setCell ⟨w.heap.size+1+1,0,none⟩ (.slice (some ⟨g,0,none⟩) d d)):=⟨_,rfl⟩;have F:Blk P (w.heap.size+1+1) 55 #[.slice (some ⟨g,0,none⟩) d d,.slice none 0 0]:=by rw[A];simpa using(t.set_ 0 (.slice (some ⟨g,0,none⟩) d d))
 replace E:Blk P w.heap.size 45 #[.slice u d y,.slice m c o]:=by rw[A];exact(E.far (p:=⟨w.heap.size+1+1,0,none⟩) (by simp;try omega) (.slice (some ⟨g,0,none⟩) d d))
 replace C:Blk P (w.heap.size+1) 55 #[.slice none 0 0,.slice none 0 0]:=by rw[A];exact(C.far (p:=⟨w.heap.size+1+1,0,none⟩) (by simp;try omega) (.slice (some ⟨g,0,none⟩) d d))
 replace t:=F;clear F;have T2:Below w.heap.size w P:=by rw[A];exact(T1.setCell (by simp;try omega) (.slice (some ⟨g,0,none⟩) d d))
 have hz2:P.heap.size=V.heap.size:=by rw[A];simp
 replace i:(Sh.il 3).own P [.slice (some ⟨g,0,none⟩) d d] x.1 [g]:=by rw[A];exact Sh.oset (p:=⟨w.heap.size+1+1,0,none⟩) (i) k (by show w.heap.size+1+1<_;omega) (.slice (some ⟨g,0,none⟩) d d)
 rw[<-A];refine(q5g _ _ _ _ _ (r.next qd T2) (by omega)).mono ?_;rintro e W ⟨f,rfl,T,l,z⟩;have n:(Sh.il 3).own W [.slice (some ⟨f,0,none⟩) c c] x.2 [f]:=⟨_,rfl,by rw[L];exact ql l (zah _),r.bounds,rfl⟩;have j:Iv P.heap.size W.heap.size [f]:=⟨by simp,fun b S=>by simp at S;subst S;exact l.lt _ rfl⟩;clear l;have hz3:=z.size;have T3:=q9 T2 z rfl;replace E:=E.next z;replace C:=C.next z;replace t:=t.next z;replace i:=Sh.onext i z;clear z;have Q:=C.cell 0;have Y:=C.frozen 0;have R:=C.cell 1;have Z:=C.frozen 1;simp at Q R;have I:=E.cell 0;have J:=E.cell 1;have G:=t.cell 0;have N:=t.frozen 0;have H:=t.cell 1;have O:=t.frozen 1;simp at I G J H;go_wp2_with fail;clear I G N J H O;clear Q Y R Z;obtain⟨K,s⟩:∃wb,wb=(W.setCell ⟨w.heap.size+1+1,1,none⟩ (.slice (some ⟨f,0,none⟩) c c)):=⟨_,rfl⟩;have F:Blk K (w.heap.size+1+1) 55 #[.slice (some ⟨g,0,none⟩) d d,.slice (some ⟨f,0,none⟩) c c]:=by rw[s];simpa using(t.set_ 1 (.slice (some ⟨f,0,none⟩) c c))
 replace E:Blk K w.heap.size 45 #[.slice u d y,.slice m c o]:=by rw[s];exact(E.far (p:=⟨w.heap.size+1+1,1,none⟩) (by simp;try omega) (.slice (some ⟨f,0,none⟩) c c))
 replace C:Blk K (w.heap.size+1) 55 #[.slice none 0 0,.slice none 0 0]:=by rw[s];exact(C.far (p:=⟨w.heap.size+1+1,1,none⟩) (by simp;try omega) (.slice (some ⟨f,0,none⟩) c c))
 replace t:=F;clear F;have T4:Below w.heap.size w K:=by rw[s];exact(T3.setCell (by simp;try omega) (.slice (some ⟨f,0,none⟩) c c))
 have hz4:K.heap.size=W.heap.size:=by rw[s];simp
 replace i:(Sh.il 3).own K [.slice (some ⟨g,0,none⟩) d d] x.1 [g]:=by rw[s];exact Sh.oset (p:=⟨w.heap.size+1+1,1,none⟩) (i) k (by show w.heap.size+1+1<_;omega) (.slice (some ⟨f,0,none⟩) c c)
 replace n:(Sh.il 3).own K [.slice (some ⟨f,0,none⟩) c c] x.2 [f]:=by rw[s];exact Sh.oset (p:=⟨w.heap.size+1+1,1,none⟩) (n) j (by show w.heap.size+1+1<_;omega) (.slice (some ⟨f,0,none⟩) c c)
 rw[<-s];have X:Blk ((K.setCell ⟨w.heap.size+1,0,none⟩ (.slice (some ⟨g,0,none⟩) d d)).setCell ⟨w.heap.size+1,1,none⟩ (.slice (some ⟨f,0,none⟩) c c)) (w.heap.size+1) 55 #[.slice (some ⟨g,0,none⟩) d d,.slice (some ⟨f,0,none⟩) c c]:=by simpa using((C).set_ 0 (.slice (some ⟨g,0,none⟩) d d)).set_ 1 (.slice (some ⟨f,0,none⟩) c c)
 (try simp only[Exit.inBlock,Exit.then])
 refine zat (v:=.agg #[.slice (some ⟨g,0,none⟩) d d,.slice (some ⟨f,0,none⟩) c c]) (zb0 rfl _ _ (w.heap.size+1) 55 #[.slice (some ⟨g,0,none⟩) d d,.slice (some ⟨f,0,none⟩) c c] (0,0) _ (by simp) X Tryz.underlying55 rfl (by kernel_rfl)) rfl ?_;have aa:((K.setCell ⟨w.heap.size+1,0,none⟩ (.slice (some ⟨g,0,none⟩) d d)).setCell ⟨w.heap.size+1,1,none⟩ (.slice (some ⟨f,0,none⟩) c c)).heap.size=K.heap.size:=by simp
 refine⟨_,([g]++ [f]),rfl,⟨[.slice (some ⟨g,0,none⟩) d d], [.slice (some ⟨f,0,none⟩) c c], [g], [f],rfl,rfl,(Sh.oset (p:=⟨w.heap.size+1,1,none⟩) (Sh.oset (p:=⟨w.heap.size+1,0,none⟩) (i) k (by show w.heap.size+1<_;omega) (.slice (some ⟨g,0,none⟩) d d)) k (by show w.heap.size+1<_;omega) (.slice (some ⟨f,0,none⟩) c c)),(Sh.oset (p:=⟨w.heap.size+1,1,none⟩) (Sh.oset (p:=⟨w.heap.size+1,0,none⟩) (n) j (by show w.heap.size+1<_;omega) (.slice (some ⟨g,0,none⟩) d d)) j (by show w.heap.size+1<_;omega) (.slice (some ⟨f,0,none⟩) c c))⟩,?_,((T4).setCell (by simp;try omega) (.slice (some ⟨g,0,none⟩) d d)).setCell (by simp;try omega) (.slice (some ⟨f,0,none⟩) c c)⟩;rw[aa];exact Iv.mono (Iv.app (lo:=w.heap.size) (hi:=K.heap.size) (a:= [g]) (b:= [f]) (Iv.mono k (by omega) (zad _)) (Iv.mono j (zad _) (by omega)) (by omega) (by omega) (by omega)) (by omega) (by omega)
theorem q7j (x y:q1g):eqC x y=(eqC (x.1) (y.1) &&eqC (x.2) (y.2)):=by
 obtain⟨a,b⟩:=x;obtain⟨c,d⟩:=y;simp only[q6x]
theorem q7b (cs ds:List Value) (x y:q1g) (w:World) (h:qw.rd w cs x) (L:qw.rd w ds y):
  Calls Tryz.prog 89 #[.agg cs.toArray,.agg ds.toArray] w (Bl w (.bool (eqC x y))):=by
 obtain⟨D,F,E,p,z,t,rfl,d,b⟩:=q1k h;obtain⟨q,A,u,l,o,n,rfl,c,a⟩:=q1k L;obtain⟨O,v,G,K,B,C⟩:=q1q w #[.slice D F E,.slice p z t] #[.slice q A u,.slice l o n] 55 55;replace d:=d.next qd G;replace c:=c.next qd G;replace b:=b.next qd G;replace a:=a.next qd G;have I:=zaa (q7j x y)
 go_enter Tryz.func89,Tryz.ntmps89
 rcases hd0:eqC (x.1) (y.1)with _|_
 .have i:=zaa hd0
  clear hd0;have j:=B.cell 0;have k:=C.cell 0;simp at j k;rw[v]at j k;go_wp2_with fail;rw[<-v];refine(q1n (q2v _ _ _ _ _ _ _ _ _ d c)).mono ?_;rintro e M ⟨rfl,f⟩;rw[q2w];rw[i.out];have H:=q9 G f rfl;go_wp2_with fail;go_ret;exact⟨qg (by rw[I.out,i.out];first|rfl|simp),H⟩
 have i:=zaa hd0;clear hd0;have j:=B.cell 0;have k:=C.cell 0;simp at j k;rw[v]at j k;go_wp2_with fail;rw[<-v];refine(q1n (q2v _ _ _ _ _ _ _ _ _ d c)).mono ?_;rintro e M ⟨rfl,f⟩;rw[q2w];rw[i.out];have H:=q9 G f rfl;clear j k;replace B:=B.next f;replace C:=C.next f;replace d:=d.next qd f;replace c:=c.next qd f;replace b:=b.next qd f;replace a:=a.next qd f
 rcases hd1:eqC (x.2) (y.2)with _|_
 .have m:=zaa hd1
  clear hd1;have r:=B.cell 1;have s:=C.cell 1;simp at r s;go_wp2_with fail;refine(q1n (q2v _ _ _ _ _ _ _ _ _ b a)).mono ?_;rintro e N ⟨rfl,g⟩;rw[q2w];rw[m.out];have J:=q9 H g rfl;go_wp2_with fail;go_ret;exact⟨qg (by rw[I.out,i.out,m.out];first|rfl|simp),J⟩
 have m:=zaa hd1;clear hd1;have r:=B.cell 1;have s:=C.cell 1;simp at r s;go_wp2_with fail;refine(q1n (q2v _ _ _ _ _ _ _ _ _ b a)).mono ?_;rintro e N ⟨rfl,g⟩;rw[q2w];rw[m.out];have J:=q9 H g rfl;clear r s;replace B:=B.next g;replace C:=C.next g;replace d:=d.next qd g;replace c:=c.next qd g;replace b:=b.next qd g;replace a:=a.next qd g;go_wp2_with fail;go_ret;exact⟨qg (by rw[I.out,i.out,m.out];first|rfl|simp),J⟩
abbrev qy:Type:=(Int×q1g×List Int)
def qj:Sh qy:=(Sh.pair Sh.int (Sh.pair qw (Sh.il 3)))
theorem q21 {w:World} {cs:List Value} {x:qy} (h:qj.rd w cs x):∃(AEqLeft:Option Addr) (nEqLeft cEqLeft:Nat) (AEqRight:Option Addr) (nEqRight cEqRight:Nat) (AList:Option Addr) (nList cList:Nat),cs= [.int .i64 x.1,.slice AEqLeft nEqLeft cEqLeft,.slice AEqRight nEqRight cEqRight,.slice AList nList cList]/\InR x.1/\RdL RI w AEqLeft nEqLeft x.2.1.1/\RdL RI w AEqRight nEqRight x.2.1.2/\RdL RI w AList nList x.2.2:=by
 obtain⟨_,_,rfl,⟨_,rfl,rfl,d,c⟩,⟨_,_,rfl,⟨_,_,rfl,⟨_,rfl,AEqLeft,nEqLeft,cEqLeft,rfl,b⟩,⟨_,rfl,AEqRight,nEqRight,cEqRight,rfl,a⟩⟩,⟨_,rfl,AList,nList,cList,rfl,e⟩⟩⟩:=h;exact⟨AEqLeft,nEqLeft,cEqLeft,AEqRight,nEqRight,cEqRight,AList,nList,cList,rfl,⟨d,c⟩,b,a,e⟩
theorem q6d {w:World} {x:qy} {c a e:Option Addr} {d cEqLeft b cEqRight f cList:Nat} (i:InR x.1) (h:RdL RI w c d x.2.1.1) (g:RdL RI w a b x.2.1.2) (j:RdL RI w e f x.2.2):qj.rd w [.int .i64 x.1,.slice c d cEqLeft,.slice a b cEqRight,.slice e f cList] x:=
 ⟨[.int .i64 x.1], [.slice c d cEqLeft,.slice a b cEqRight,.slice e f cList],rfl,⟨_,rfl,rfl,i.1,i.2⟩,⟨[.slice c d cEqLeft,.slice a b cEqRight], [.slice e f cList],rfl,⟨[.slice c d cEqLeft], [.slice a b cEqRight],rfl,⟨_,rfl,_,_,_,rfl,h⟩,⟨_,rfl,_,_,_,rfl,g⟩⟩,⟨_,rfl,_,_,_,rfl,j⟩⟩⟩
theorem qc3 (cs:List Value) (x:qy) (left:Int) (w:World) (h:qj.rd w cs x) (J:0<=left) (R:left<=1048576):
  Calls Tryz.prog 32 #[.agg cs.toArray,.int .i64 left] w (Bl w (.int .i64 (szR (qj.cnt x) left))):=by
 obtain⟨i,k,j,d,g,f,p,v,s,rfl,M,b,a,c⟩:=q21 h;obtain⟨S,D,F,P,o⟩:=q15 w #[.int .i64 x.1,.slice i k j,.slice d g f,.slice p v s] 47;have E:=b.le;have y:=a.le;have K:=c.le;have z:Hid (szR 0 left=left):=q61 J;have r:Hid (qj.cnt x=(0+((qw.cnt x.2.1)+x.2.2.length))):=rfl;replace b:=b.next qd F;replace a:=a.next qd F;replace c:=c.next qd F
 go_enter Tryz.func32,Tryz.ntmps32
 have G:=o.cell 1;clear G;have t:=o.cell 1;have u:=o.cell 2;simp at t u;rw[D]at t u;go_wp2_with fail;rw[<-D];refine(qba [.slice i k j,.slice d g f] x.2.1 left _ (q2a b a) (by omega) (by omega)).mono ?_;rintro e T ⟨rfl,l⟩;have N:=q9 F l rfl;replace o:=o.next l;replace b:=b.next qd l;replace a:=a.next qd l;replace c:=c.next qd l;clear t u;have n:Hid (szR (0+(qw.cnt x.2.1)) left=szR (qw.cnt x.2.1) left):=by show _=_;rw[<-q3v (by rw[z.out];omega),z.out]
 have B:=q4o (qw.cnt x.2.1) (left:=left) (by omega);obtain⟨A,H⟩:∃L,Hid (szR (qw.cnt x.2.1) left=L):=⟨_,rfl⟩;rw[H.out]at n B⊢
 by_cases z0:A<0
 .go_wp2_with fail
  go_ret;exact⟨q11 (q6n (by rw[n.out];omega) (by rw[r.out];omega) J),N⟩
 have G:=o.cell 3;simp at G;go_wp2_with fail;refine(q4y (q5e _ _ _ _ A _ c (by omega) (by omega))).mono ?_;rintro e U ⟨rfl,m⟩;rw[q5f];have O:=q9 N m rfl;replace o:=o.next m;replace b:=b.next qd m;replace a:=a.next qd m;replace c:=c.next qd m;clear G;have q:Hid (szR ((0+(qw.cnt x.2.1))+x.2.2.length) left=szR x.2.2.length A):=by show _=_;rw[<-q3v (by rw[n.out];omega),n.out]
 have C:=q4o x.2.2.length (left:=A) (by omega);obtain⟨Q,I⟩:∃L,Hid (szR x.2.2.length A=L):=⟨_,rfl⟩;rw[I.out]at q C⊢
 by_cases z1:Q<0
 .go_wp2_with fail
  go_ret;exact⟨q11 (q6n (by rw[q.out];omega) (by rw[r.out];omega) J),O⟩
 go_wp2_with fail;go_ret;exact⟨q11 (by simp only[r.out,<-q.out];first|done|(congr 1;omega)),O⟩
theorem qc5 (cs:List Value) (x:qy) (w:World) (h:qj.rd w cs x) (hn:qj.cnt x<=1048576):
  Calls Tryz.prog 39 #[.agg cs.toArray] w (ToE qj w x):=by
 obtain⟨q,s,r,m,o,n,H,c,J,rfl,X,F,z,M⟩:=q21 h;have hcn:(0+((qw.cnt x.2.1)+x.2.2.length))<=1048576:=hn;obtain⟨w0,hw0,T0,hsz0,G,B,u⟩:=q7t w #[.int .i64 x.1,.slice q s r,.slice m o n,.slice H c J] #[.int .i64 0,.slice none 0 0,.slice none 0 0,.slice none 0 0] #[.int .i64 x.1,.slice none 0 0,.slice none 0 0,.slice none 0 0] 47 57;have eEqLeft:=F.len;have eEqRight:=z.len;have Z:=M.len
 go_enter Tryz.func39,Tryz.ntmps39
 go_wp2_with fail;rw[<-hw0];refine(qbc [.slice q s r,.slice m o n] x.2.1 _ (q2a (F.next qd T0) (z.next qd T0)) (by omega)).mono ?_;rintro e w1 ⟨csEq,y,rfl,D,C,N⟩;obtain⟨i,k,j,d,g,f,rfl,-,-⟩:=q1k (qw.ord D);have hz1:=N.size;have T1:=q9 T0 N rfl;replace G:=G.next N;replace B:=B.next N;replace u:=u.next N;clear N;have T:=G.cell 0;have U:=G.cell 1;have V:=G.cell 2;have W:=G.cell 3;have P:=u.cell 0;have aa:=u.frozen 0;have Q:=u.cell 1;have ab:=u.frozen 1;have R:=u.cell 2;have ac:=u.frozen 2;have S:=u.cell 3;have ad:=u.frozen 3;simp at T P U Q V R W S;go_wp2_with fail;clear T P aa U Q ab V R ac W S ad;obtain⟨w2,L⟩:∃wb,wb=((w1.setCell ⟨w.heap.size+1+1,1,none⟩ (.slice i k j)).setCell ⟨w.heap.size+1+1,2,none⟩ (.slice d g f)):=⟨_,rfl⟩;have O:Blk w2 (w.heap.size+1+1) 57 #[.int .i64 x.1,.slice i k j,.slice d g f,.slice none 0 0]:=by rw[L];simpa using((u.set_ 1 (.slice i k j)).set_ 2 (.slice d g f))
 replace G:Blk w2 w.heap.size 47 #[.int .i64 x.1,.slice q s r,.slice m o n,.slice H c J]:=by rw[L];exact((G.far (p:=⟨w.heap.size+1+1,1,none⟩) (by simp;try omega) (.slice i k j)).far (p:=⟨w.heap.size+1+1,2,none⟩) (by simp;try omega) (.slice d g f))
 replace B:Blk w2 (w.heap.size+1) 57 #[.int .i64 0,.slice none 0 0,.slice none 0 0,.slice none 0 0]:=by rw[L];exact((B.far (p:=⟨w.heap.size+1+1,1,none⟩) (by simp;try omega) (.slice i k j)).far (p:=⟨w.heap.size+1+1,2,none⟩) (by simp;try omega) (.slice d g f))
 replace u:=O;clear O;have T2:Below w.heap.size w w2:=by rw[L];exact((T1.setCell (by simp;try omega) (.slice i k j)).setCell (by simp;try omega) (.slice d g f))
 have hz2:w2.heap.size=w1.heap.size:=by rw[L];simp
 replace D:qw.own w2 [.slice i k j,.slice d g f] x.2.1 y:=by rw[L];exact Sh.oset (p:=⟨w.heap.size+1+1,2,none⟩) (Sh.oset (p:=⟨w.heap.size+1+1,1,none⟩) (D) C (by show w.heap.size+1+1<_;omega) (.slice i k j)) C (by show w.heap.size+1+1<_;omega) (.slice d g f)
 rw[<-L];refine(q5g _ _ _ _ _ (M.next qd T2) (by omega)).mono ?_;rintro e w3 ⟨l,rfl,hgList,A,K⟩;have I:(Sh.il 3).own w3 [.slice (some ⟨l,0,none⟩) c c] x.2.2 [l]:=⟨_,rfl,by rw[Z];exact ql A (zah _),M.bounds,rfl⟩;have t:Iv w2.heap.size w3.heap.size [l]:=⟨by simp,fun b hb=>by simp at hb;subst hb;exact A.lt _ rfl⟩;clear A;have hz3:=K.size;have T3:=q9 T2 K rfl;replace G:=G.next K;replace B:=B.next K;replace u:=u.next K;replace D:=Sh.onext D K;clear K;have cR0:=B.cell 0;have fR0:=B.frozen 0;have cR1:=B.cell 1;have fR1:=B.frozen 1;have cR2:=B.cell 2;have fR2:=B.frozen 2;have cR3:=B.cell 3;have fR3:=B.frozen 3;simp at cR0 cR1 cR2 cR3;have T:=G.cell 0;have U:=G.cell 1;have V:=G.cell 2;have W:=G.cell 3;have P:=u.cell 0;have aa:=u.frozen 0;have Q:=u.cell 1;have ab:=u.frozen 1;have R:=u.cell 2;have ac:=u.frozen 2;have S:=u.cell 3;have ad:=u.frozen 3;simp at T P U Q V R W S;go_wp2_with fail;clear T P aa U Q ab V R ac W S ad;clear cR0 fR0 cR1 fR1 cR2 fR2 cR3 fR3;obtain⟨Y,E⟩:∃wb,wb=(w3.setCell ⟨w.heap.size+1+1,3,none⟩ (.slice (some ⟨l,0,none⟩) c c)):=⟨_,rfl⟩;have O:Blk Y (w.heap.size+1+1) 57 #[.int .i64 x.1,.slice i k j,.slice d g f,.slice (some ⟨l,0,none⟩) c c]:=by rw[E];simpa using(u.set_ 3 (.slice (some ⟨l,0,none⟩) c c))
 replace G:Blk Y w.heap.size 47 #[.int .i64 x.1,.slice q s r,.slice m o n,.slice H c J]:=by rw[E];exact(G.far (p:=⟨w.heap.size+1+1,3,none⟩) (by simp;try omega) (.slice (some ⟨l,0,none⟩) c c))
 replace B:Blk Y (w.heap.size+1) 57 #[.int .i64 0,.slice none 0 0,.slice none 0 0,.slice none 0 0]:=by rw[E];exact(B.far (p:=⟨w.heap.size+1+1,3,none⟩) (by simp;try omega) (.slice (some ⟨l,0,none⟩) c c))
 replace u:=O;clear O;have T4:Below w.heap.size w Y:=by rw[E];exact(T3.setCell (by simp;try omega) (.slice (some ⟨l,0,none⟩) c c))
 have hz4:Y.heap.size=w3.heap.size:=by rw[E];simp
 replace D:qw.own Y [.slice i k j,.slice d g f] x.2.1 y:=by rw[E];exact Sh.oset (p:=⟨w.heap.size+1+1,3,none⟩) (D) C (by show w.heap.size+1+1<_;omega) (.slice (some ⟨l,0,none⟩) c c)
 replace I:(Sh.il 3).own Y [.slice (some ⟨l,0,none⟩) c c] x.2.2 [l]:=by rw[E];exact Sh.oset (p:=⟨w.heap.size+1+1,3,none⟩) (I) t (by show w.heap.size+1+1<_;omega) (.slice (some ⟨l,0,none⟩) c c)
 rw[<-E];have BRR:Blk ((((Y.setCell ⟨w.heap.size+1,0,none⟩ (.int .i64 x.1)).setCell ⟨w.heap.size+1,1,none⟩ (.slice i k j)).setCell ⟨w.heap.size+1,2,none⟩ (.slice d g f)).setCell ⟨w.heap.size+1,3,none⟩ (.slice (some ⟨l,0,none⟩) c c)) (w.heap.size+1) 57 #[.int .i64 x.1,.slice i k j,.slice d g f,.slice (some ⟨l,0,none⟩) c c]:=by simpa using((((B).set_ 0 (.int .i64 x.1)).set_ 1 (.slice i k j)).set_ 2 (.slice d g f)).set_ 3 (.slice (some ⟨l,0,none⟩) c c)
 (try simp only[Exit.inBlock,Exit.then])
 refine zat (v:=.agg #[.int .i64 x.1,.slice i k j,.slice d g f,.slice (some ⟨l,0,none⟩) c c]) (zb0 rfl _ _ (w.heap.size+1) 57 #[.int .i64 x.1,.slice i k j,.slice d g f,.slice (some ⟨l,0,none⟩) c c] (0,0) _ (by simp) BRR zcp rfl (by kernel_rfl)) rfl ?_;have hsz:((((Y.setCell ⟨w.heap.size+1,0,none⟩ (.int .i64 x.1)).setCell ⟨w.heap.size+1,1,none⟩ (.slice i k j)).setCell ⟨w.heap.size+1,2,none⟩ (.slice d g f)).setCell ⟨w.heap.size+1,3,none⟩ (.slice (some ⟨l,0,none⟩) c c)).heap.size=Y.heap.size:=by simp
 refine⟨_,(y++ [l]),rfl,⟨[.int .i64 x.1], [.slice i k j,.slice d g f,.slice (some ⟨l,0,none⟩) c c], [],(y++ [l]),rfl,rfl,⟨_,rfl,⟨rfl,X.1,X.2⟩,rfl⟩,⟨[.slice i k j,.slice d g f], [.slice (some ⟨l,0,none⟩) c c],y, [l],rfl,rfl,(Sh.oset (p:=⟨w.heap.size+1,3,none⟩) (Sh.oset (p:=⟨w.heap.size+1,2,none⟩) (Sh.oset (p:=⟨w.heap.size+1,1,none⟩) (Sh.oset (p:=⟨w.heap.size+1,0,none⟩) (D) C (by show w.heap.size+1<_;omega) (.int .i64 x.1)) C (by show w.heap.size+1<_;omega) (.slice i k j)) C (by show w.heap.size+1<_;omega) (.slice d g f)) C (by show w.heap.size+1<_;omega) (.slice (some ⟨l,0,none⟩) c c)),(Sh.oset (p:=⟨w.heap.size+1,3,none⟩) (Sh.oset (p:=⟨w.heap.size+1,2,none⟩) (Sh.oset (p:=⟨w.heap.size+1,1,none⟩) (Sh.oset (p:=⟨w.heap.size+1,0,none⟩) (I) t (by show w.heap.size+1<_;omega) (.int .i64 x.1)) t (by show w.heap.size+1<_;omega) (.slice i k j)) t (by show w.heap.size+1<_;omega) (.slice d g f)) t (by show w.heap.size+1<_;omega) (.slice (some ⟨l,0,none⟩) c c))⟩⟩,?_,((((T4).setCell (by simp;try omega) (.int .i64 x.1)).setCell (by simp;try omega) (.slice i k j)).setCell (by simp;try omega) (.slice d g f)).setCell (by simp;try omega) (.slice (some ⟨l,0,none⟩) c c)⟩;rw[hsz];exact Iv.mono (Iv.app (lo:=w.heap.size) (hi:=Y.heap.size) (a:=y) (b:= [l]) (Iv.mono C (by omega) (zad _)) (Iv.mono t (zad _) (by omega)) (by omega) (by omega) (by omega)) (by omega) (by omega)
theorem qfr (x y:qy):eqC x y=(eqC (x.1) (y.1) &&(eqC (x.2.1) (y.2.1) &&eqC (x.2.2) (y.2.2))):=by
 obtain⟨a,b,c⟩:=x;obtain⟨d,e,f⟩:=y;simp only[q6x]
theorem q8l (cs ds:List Value) (x y:qy) (w:World) (h:qj.rd w cs x) (h':qj.rd w ds y):
  Calls Tryz.prog 48 #[.agg cs.toArray,.agg ds.toArray] w (Bl w (.bool (eqC x y))):=by
 obtain⟨r,v,s,l,p,n,R,T,S,rfl,Z,d,b,g⟩:=q21 h;obtain⟨m,q,o,i,k,j,M,Q,P,rfl,W,c,a,f⟩:=q21 h';obtain⟨w0,z,L,aa,H,I⟩:=q1q w #[.int .i64 x.1,.slice r v s,.slice l p n,.slice R T S] #[.int .i64 y.1,.slice m q o,.slice i k j,.slice M Q P] 57 57;replace d:=d.next qd L;replace c:=c.next qd L;replace b:=b.next qd L;replace a:=a.next qd L;replace g:=g.next qd L;replace f:=f.next qd L;have U:=zaa (qfr x y)
 go_enter Tryz.func48,Tryz.ntmps48
 rcases hd0:eqC (x.1) (y.1)with _|_
 .have ht:(x.1 !=y.1)=true:=q3i hd0
  have J:=zaa hd0;clear hd0;have B:=H.cell 0;have E:=I.cell 0;simp at B E;rw[z]at B E;go_wp2_with fail;go_ret;exact⟨qg (by rw[U.out,J.out];first|rfl|simp),by first|exact L|(rw[<-z];exact L)⟩
 have Y:(x.1 !=y.1)=false:=q3i hd0;have J:=zaa hd0;clear hd0;have B:=H.cell 0;have E:=I.cell 0;simp at B E;rw[z]at B E
 rcases hd1:eqC (x.2.1) (y.2.1)with _|_
 .have A:=zaa hd1
  clear hd1;have C:=H.cell 1;have F:=I.cell 1;have D:=H.cell 2;have G:=I.cell 2;simp at C F D G;rw[z]at C F D G;go_wp2_with fail;rw[<-z];refine(q7b [.slice r v s,.slice l p n] [.slice m q o,.slice i k j] x.2.1 y.2.1 _ (q2a d b) (q2a c a)).mono ?_;rintro e w1 ⟨rfl,t⟩;rw[A.out];have V:=q9 L t rfl;go_wp2_with fail;go_ret;exact⟨qg (by rw[U.out,J.out,A.out];first|rfl|simp),V⟩
 have A:=zaa hd1;clear hd1;have C:=H.cell 1;have F:=I.cell 1;have D:=H.cell 2;have G:=I.cell 2;simp at C F D G;rw[z]at C F D G;go_wp2_with fail;rw[<-z];refine(q7b [.slice r v s,.slice l p n] [.slice m q o,.slice i k j] x.2.1 y.2.1 _ (q2a d b) (q2a c a)).mono ?_;rintro e w1 ⟨rfl,t⟩;rw[A.out];have V:=q9 L t rfl;clear C F D G B E Y;replace H:=H.next t;replace I:=I.next t;replace d:=d.next qd t;replace c:=c.next qd t;replace b:=b.next qd t;replace a:=a.next qd t;replace g:=g.next qd t;replace f:=f.next qd t
 rcases hd2:eqC (x.2.2) (y.2.2)with _|_
 .have K:=zaa hd2
  clear hd2;have N:=H.cell 3;have O:=I.cell 3;simp at N O;go_wp2_with fail;refine(q1n (q2v _ _ _ _ _ _ _ _ _ g f)).mono ?_;rintro e w2 ⟨rfl,u⟩;rw[q2w];rw[K.out];have X:=q9 V u rfl;go_wp2_with fail;go_ret;exact⟨qg (by rw[U.out,J.out,A.out,K.out];first|rfl|simp),X⟩
 have K:=zaa hd2;clear hd2;have N:=H.cell 3;have O:=I.cell 3;simp at N O;go_wp2_with fail;refine(q1n (q2v _ _ _ _ _ _ _ _ _ g f)).mono ?_;rintro e w2 ⟨rfl,u⟩;rw[q2w];rw[K.out];have X:=q9 V u rfl;clear N O;replace H:=H.next u;replace I:=I.next u;replace d:=d.next qd u;replace c:=c.next qd u;replace b:=b.next qd u;replace a:=a.next qd u;replace g:=g.next qd u;replace f:=f.next qd u;go_wp2_with fail;go_ret;exact⟨qg (by rw[U.out,J.out,A.out,K.out];first|rfl|simp),X⟩
theorem qh2 (A:Option Addr) (n c:Nat) (xs:List qy) (left:Int) (w:World) (h:RdN qj.m qj.rd w A n xs) (h0:0<=left) (h1:left<=1048576):
  Calls Tryz.prog 31 #[.slice A n c,.int .i64 left] w (Bl w (.int .i64 (szR (xs.length+cntS qj.cnt xs) left))):=by
 have Z:=h.le;have E:=zaa h.len
 by_cases h2:left - n<0
 .go_enter Tryz.func31,Tryz.ntmps31
  go_wp2
  go_ret;exact⟨q11 (q7s (by rw[E.out];exact h2) _),zac _ _⟩
 .have O:=zaa (qh3 (a:=xs.length) (by rw[E.out];exact h2) (cntS qj.cnt xs))
  go_enter Tryz.func31,Tryz.ntmps31
  go_wp2
  go_loopw [1,5] (fun l i wr=>∃(k:Nat) (d:Int),k<=n/\i=.int .i64 k/\l=.int .i64 d/\0<=d/\d<=1048576/\SumAt qj.cnt xs (left - n) d k/\Below w.heap.size w wr) (fun _ i _=>n - (intOf i).toNat)
  case atStart=>exact⟨0,_,zah _,rfl,rfl,by omega,by omega,SumAt.start _ _ _,zac _ _⟩
  case round=>
   obtain⟨k,d,hk,rfl,rfl,v,J,H,G⟩:=hrel;replace h:=h.next G
   by_cases hlt:k<n
   .obtain⟨b,o,vs,x,rfl,-,B,Q,hd,-⟩:=h.at hlt
    obtain⟨p,r,q,f,j,g,s,u,t,rfl,K,C,y,M⟩:=q21 Q;have S:wr.cell? ⟨b,o+k*4,none⟩=some (.int .i64 x.1):=B 0 _ rfl;have T:wr.cell? ⟨b,o+k*4+1,none⟩=some (.slice p r q):=B 1 _ rfl;have U:wr.cell? ⟨b,o+k*4+2,none⟩=some (.slice f j g):=B 2 _ rfl;have V:wr.cell? ⟨b,o+k*4+3,none⟩=some (.slice s u t):=B 3 _ rfl;clear B;have N:=zaa hd;clear hd;have W:=q4o (qj.cnt x) (left:=d) v;have X:(0:Int)<=(k:Int):=by omega
    have Y:(k:Int)<(n:Int):=by omega
    go_wp2_with fail;refine(qc3 [.int .i64 x.1,.slice p r q,.slice f j g,.slice s u t] x d _ Q v J).mono ?_;rintro e w1 ⟨rfl,I⟩;have z:=q9 G I rfl;obtain⟨L,D⟩:∃L,Hid (szR (qj.cnt x) d=L):=⟨_,rfl⟩;rw[D.out]at W⊢
    by_cases hz:L<0
    .have F:Hid ((-1:Int)=szR (xs.length+cntS qj.cnt xs) left):=(H.stop N.out (by rw[D.out];exact hz) v).trans (by rw[<-E.out];exact O.out)
     go_wp2_with fail;go_ret;exact⟨q11 F.out,z⟩
    .have R:Hid (SumAt qj.cnt xs (left - n) L (k+1)):=by have:=H.step N.out (by rw[D.out];exact hz);rw[D.out]at this;exact this
     go_wp2_with fail
     go_roundw
     case rel=>exact⟨k+1,_,by omega,by go_num,rfl,by omega,by omega,R.out,z⟩
     case measure=>simp[intOf];omega
   .have F:Hid (d=szR (xs.length+cntS qj.cnt xs) left):=(H.done (h.drop_end hlt) v).trans (by rw[<-E.out];exact O.out)
    have P:¬(k:Int)<(n:Int):=by omega
    go_wp2_with fail;go_ret;exact⟨q11 F.out,G⟩
theorem qe4:(Tryz.prog.info? 57).map (fun i=>(i.zero,i.size))=some (some (.agg #[.int .i64 0,.slice none 0 0,.slice none 0 0,.slice none 0 0]),4):=by kernel_rfl
theorem qj6:(Tryz.prog.info? 57).all (fun i=>decide (i.bytes<=256))=true:=by kernel_rfl
theorem qlg (w:World) {ops:Array Oper} {d:List Oper} {o:Oper} {a:Act} {Q:Exit->Act->World->Prop} (q:o.guard=none) (l c:Operand) (h:o.op=Op.makeSlice 25 l c)
  (n:Nat) (r:a.eval l=.int .i64 n) (p:a.eval c=.int .i64 n) (b:n<=1048576)
  (hK:∀w',w'.ownsRow w.heap.size 57 qj.m (.slice (some ⟨w.heap.size,0,none⟩) n n) n (List.replicate n [.int .i64 0,.slice none 0 0,.slice none 0 0,.slice none 0 0]).flatten->w.grownBy w' none->wpList Tryz.prog ops Q d (a.put o.dst (.slice (some ⟨w.heap.size,0,none⟩) n n)) w'):
  wpList Tryz.prog ops Q (o::d) a w:=by
 rcases hi:Tryz.prog.info? 57 with _|i
 .exfalso
  have:=qe4;rw[hi]at this;simp at this
 have e:=qe4;have f:=qj6;rw[hi]at e f;simp only[Option.map_some,zc5,Prod.mk.injEq]at e;simp only[Option.all_some,decide_eq_true_eq]at f;have g:i.bytes*n<=256*1048576:=zci f b;refine wpList_make_full w q l c 25 h w.heap.size 57 i (.agg #[.int .i64 0,.slice none 0 0,.slice none 0 0,.slice none 0 0]) 4 zbx hi e.1 e.2 .i64 .i64 n n n r p rfl rfl (by first|omega|(have:=Int.ofNat_le.2 g;simp at this⊢;omega)) (by unfold maxLen;omega) (zad _) ?_;intro w' j k;refine hK w' ?_ k;rw[<-qal [.int .i64 0,.slice none 0 0,.slice none 0 0,.slice none 0 0] n (by decide)];exact j
theorem qh5 (A:Option Addr) (n c:Nat) (xs:List qy) (w:World) (h:RdN qj.m qj.rd w A n xs) (hn:xs.length+cntS qj.cnt xs<=1048576):
  Calls Tryz.prog 38 #[.slice A n c] w (ToV (Sh.rows qj 57) w xs):=by
 have Q:=zaa h.len;have hnn:n<=1048576:=by have:=h.len;omega
 have HN:=zaa hn;clear hn
 go_enter Tryz.func38,Tryz.ntmps38
 go_wp2_with (at_make;refine qlg _ rfl _ _ rfl n rfl rfl (by omega) ?_;intro w1 d P)
 have I:=(zac w.heap.size w).grown P (zad _) (by simp);clear P
 go_loopw [4] (fun i wr=>∃(k:Nat) (N:List (List Value)) (bls:List (List Nat)),k<=n/\i=.int .i64 k/\FillN qj 57 [.int .i64 0,.slice none 0 0,.slice none 0 0,.slice none 0 0] w.heap.size w.heap.size n wr xs N bls k/\Below w.heap.size w wr) (fun i _=>n - (intOf i).toNat)
 case atStart=>exact⟨0,_,_,zah _,rfl,FillN.start d,I⟩
 case round=>
  clear d I;obtain⟨k,N,bls,hk,rfl,d,I⟩:=hrel;replace h:=h.next I
  by_cases hlt:k<n
  .obtain⟨b,o,vs,x,rfl,-,O,hr,-,W⟩:=h.at hlt
   obtain⟨p,r,q,g,l,j,B,D,C,rfl,X,R,M,Y⟩:=q21 hr;have cc0:wr.cell? ⟨b,o+k*4,none⟩=some (.int .i64 x.1):=O 0 _ rfl;have cc1:wr.cell? ⟨b,o+k*4+1,none⟩=some (.slice p r q):=O 1 _ rfl;have cc2:wr.cell? ⟨b,o+k*4+2,none⟩=some (.slice g l j):=O 2 _ rfl;have cc3:wr.cell? ⟨b,o+k*4+3,none⟩=some (.slice B D C):=O 3 _ rfl;clear O;have hX:=zaa W;have U:qj.cnt x<=1048576:=by have:=q3w (f:=qj.cnt) (zaf W);have:=HN.out;omega
   clear W;have hk0:(0:Int)<=(k:Int):=by omega
   have hk1:(k:Int)<(n:Int):=by omega
   go_wp2_with fail;refine(qc5 [.int .i64 x.1,.slice p r q,.slice g l j,.slice B D C] x _ hr U).mono ?_;rintro e S ⟨ds,bk,rfl,K,G,J⟩;obtain⟨v,z,y,s,u,t,E,H,F,rfl,-,-,-,-⟩:=q21 (qj.ord K);have T:=q9 I J rfl;have a:=d.next J;have V:w.heap.size<=wr.heap.size:=I.size;have L:=d.set_ rfl J hlt hX.out K G.1 (fun b hb=>(G.2 b hb).1) V;have dd0:S.cell? ⟨w.heap.size,k*4,none⟩=some (.int .i64 0):=a.cell rfl hlt (i:=0) rfl;have ff0:=a.frozen (k*4);have dd1:S.cell? ⟨w.heap.size,k*4+1,none⟩=some (.slice none 0 0):=a.cell rfl hlt (i:=1) rfl;have ff1:=a.frozen (k*4+1);have dd2:S.cell? ⟨w.heap.size,k*4+2,none⟩=some (.slice none 0 0):=a.cell rfl hlt (i:=2) rfl;have ff2:=a.frozen (k*4+2);have dd3:S.cell? ⟨w.heap.size,k*4+3,none⟩=some (.slice none 0 0):=a.cell rfl hlt (i:=3) rfl;have ff3:=a.frozen (k*4+3);replace L:FillN qj 57 [.int .i64 0,.slice none 0 0,.slice none 0 0,.slice none 0 0] w.heap.size w.heap.size n ((((S.setCell ⟨w.heap.size,k*4,none⟩ (.int .i64 x.1)).setCell ⟨w.heap.size,k*4+1,none⟩ (.slice v z y)).setCell ⟨w.heap.size,k*4+2,none⟩ (.slice s u t)).setCell ⟨w.heap.size,k*4+3,none⟩ (.slice E H F)) xs _ _ (k+1):=L;clear d a K;go_wp2_with fail
   go_roundw
   case rel=>exact⟨k+1,_,_,by omega,by go_num,L,((((T).setCell (zad _) _).setCell (zad _) _).setCell (zad _) _).setCell (zad _) _⟩
   case measure=>simp[intOf];omega
  .have hd:=d.done Q.out hlt hk
   have G:Iv w.heap.size wr.heap.size (w.heap.size::bls.flatten):=⟨d.nd,d.lo_⟩;have Z:¬(k:Int)<(n:Int):=by omega
   clear d;go_wp2_with fail;go_ret;exact⟨_,_,rfl,hd,G,I⟩
theorem qa1 (A B:Option Addr) (n m c d:Nat) (xs ys:List qy) (w:World) (h:RdN qj.m qj.rd w A n xs) (O:RdN qj.m qj.rd w B m ys):
  Calls Tryz.prog 47 #[.slice A n c,.slice B m d] w (Bl w (.bool (eqC xs ys))):=by
 have hle:=h.le;have hle':=O.le
 by_cases hnm:n=m
 .subst hnm
  go_enter Tryz.func47,Tryz.ntmps47
  go_wp2
  go_loopw [5] (fun i wr=>∃k:Nat,k<=n/\i=.int .i64 k/\EqdAt xs ys k/\Below w.heap.size w wr) (fun i _=>n - (intOf i).toNat)
  case atStart=>exact⟨0,zah _,rfl,EqdAt.start _ _,zac _ _⟩
  case round=>
   obtain⟨k,hk,rfl,H,hT⟩:=hrel;replace h:=h.next hT;replace O:=O.next hT
   by_cases hlt:k<n
   .obtain⟨b,o,vs,x,rfl,-,hc,hr,hd,-⟩:=h.at hlt
    obtain⟨L,M,vs',y,rfl,-,K,hr',hd',-⟩:=O.at hlt;obtain⟨t,z,u,j,r,p,G,J,I,rfl,qKind,qEqLeft,P,qList⟩:=q21 hr;obtain⟨l,s,q,a,g,f,C,E,D,rfl,qyKind,Q,N,qyList⟩:=q21 hr';have R:wr.cell? ⟨b,o+k*4,none⟩=some (.int .i64 x.1):=hc 0 _ rfl;have V:wr.cell? ⟨L,M+k*4,none⟩=some (.int .i64 y.1):=K 0 _ rfl;have S:wr.cell? ⟨b,o+k*4+1,none⟩=some (.slice t z u):=hc 1 _ rfl;have W:wr.cell? ⟨L,M+k*4+1,none⟩=some (.slice l s q):=K 1 _ rfl;have T:wr.cell? ⟨b,o+k*4+2,none⟩=some (.slice j r p):=hc 2 _ rfl;have X:wr.cell? ⟨L,M+k*4+2,none⟩=some (.slice a g f):=K 2 _ rfl;have U:wr.cell? ⟨b,o+k*4+3,none⟩=some (.slice G J I):=hc 3 _ rfl;have Y:wr.cell? ⟨L,M+k*4+3,none⟩=some (.slice C E D):=K 3 _ rfl;clear hc K;have H1:=zaa hd;have H2:=zaa hd';clear hd hd';have hk0:(0:Int)<=(k:Int):=by omega
    have hk1:(k:Int)<(n:Int):=by omega
    obtain⟨e0,HE⟩:∃e0,Hid (eqC x y=e0):=⟨_,rfl⟩;have F:Below wr.heap.size wr wr:=zac _ _;go_upto_region 6 with fail
    go_cut [26] (fun v wx=>v=.bool (!e0)/\Below wr.heap.size wr wx)
    case first=>
     go_region_held3 (fun w'=>w'.cell? ⟨b,o+k*4,none⟩=some (.int .i64 x.1)/\w'.cell? ⟨L,M+k*4,none⟩=some (.int .i64 y.1)/\w'.cell? ⟨b,o+k*4+1,none⟩=some (.slice t z u)/\w'.cell? ⟨L,M+k*4+1,none⟩=some (.slice l s q)/\w'.cell? ⟨b,o+k*4+2,none⟩=some (.slice j r p)/\w'.cell? ⟨L,M+k*4+2,none⟩=some (.slice a g f)/\w'.cell? ⟨b,o+k*4+3,none⟩=some (.slice G J I)/\w'.cell? ⟨L,M+k*4+3,none⟩=some (.slice C E D)) (first|go_keep|exact⟨qe F R,qe F V,qe F S,qe F W,qe F T,qe F X,qe F U,qe F Y⟩) ((go_at_call 48;refine(q8l [.int .i64 x.1,.slice t z u,.slice j r p,.slice G J I] [.int .i64 y.1,.slice l s q,.slice a g f,.slice C E D] x y _ (qj.stab hr (by first|exact F.block|exact(zai F).block)) (qj.stab hr' (by first|exact F.block|exact(zai F).block))).mono ?_;rintro e wn ⟨rfl,hbn⟩;replace F:=q9 (by first|exact F|exact zai F) hbn rfl;rw[HE.out]))
     all_goals(go_wp2_with fail;go_meet;exact⟨rfl,F⟩)
    case rest=>
     obtain⟨rfl,aa⟩:=hcut;have Z:=q9 hT aa rfl;clear aa F R V S W T X U Y
     rcases e0 with _|_
     .go_wp2_with fail
      go_ret;exact⟨qg (H.stop H1.out H2.out HE.out),Z⟩
     .go_wp2_with fail
      go_roundw
      case rel=>exact⟨k+1,by omega,by go_num,H.step H1.out H2.out HE.out,Z⟩
      case measure=>simp[intOf];omega
   .have hlt':¬(k:Int)<(n:Int):=by omega
    go_wp2_with fail;go_ret;exact⟨qg (H.done (h.drop_end hlt) (O.drop_end hlt)),hT⟩
 .have hne:((n:Int) !=(m:Int))=true:=by rw[bne_iff_ne];omega
  have HL:=zaa (qfs h.len O.len hnm)
  go_enter Tryz.func47,Tryz.ntmps47
  go_wp2_with fail;go_ret;exact⟨qg HL.out,zac _ _⟩
end Go.Proofs.YtfnmkbpogbekpaaGreatDoor
