import Derived.Test.YtfnmkbpogbekpaaGreatDoorQ11
import Derived.Test.YtfnmkbpogbekpaaGreatDoorRows
import Derived.Test.YtfnmkbpogbekpaaGreatDoorCards
import Derived.Test.YtfnmkbpogbekpaaGreatDoorTie
import Derived.SevenTiedAt
set_option linter.unusedVariables false
set_option linter.unusedSimpArgs false
set_option maxRecDepth 100000
set_option maxHeartbeats 32000000
namespace Go.Proofs.YtfnmkbpogbekpaaGreatDoor.fnExactRunLab
open Go.ChangeShapes Go.WideShapes Go.ChangeAt Go.RowKit Go.Joins
open Go.ChangeMaps (open_string shut_string)
theorem qrn (os:Os) (c:os.Started) (H:Type) (enc:TypeId×Value->H):
  ReturnsInHanded {} Tryz.checked os 5 .any (fun w args=>(Rows.fnExactRunLabSpec.pre enc Tryz.prog Tryz.f5 [] false w args/\laidMetH Tryz.prog qak w)/\sizedMet enc Tryz.prog Tryz.f5 (OpenSpec.ofChange Rows.fnExactRunLabSpec) false w args)
   (Rows.fnExactRunLabSpec.post enc Tryz.prog Tryz.f5 false true false false):=by
 refine qb2 (C:=Tryz.checked) (X:=fun w=>laidMetH Tryz.prog qak w) (fun _ _ S h=>h.of_heap S) own c (by kernel_rfl) Tryz.func5
  (ChangeSpec.witness_shaped (enc:=enc) (C:=Tryz.checked) (os:=os) (X:=fun w _=>laidMetH Tryz.prog qak w) false (World.laidAll Tryz.prog os qak) #[.agg #[.bool false,.int .i64 0,.slice none 0 0,.slice none 0 0,.int .i64 0],.slice none 0 0] 8 (World.laidAll_os _ _ _) (qfp os _) (by kernel_rfl) (by kernel_rfl) (by kernel_rfl) (qnc os _)) ?_
 intro W f args L gs i b F O r;have a:∀(j:Nat) t v,Tryz.f5.params[j]?=some t->args[j]?=some v->Value.okWide Tryz.prog W .any f t v:=b;have l:=F;obtain⟨p,q,g,P,rfl,R,T⟩:=F;have E:DataW.TrodAll enc Tryz.prog W 0 (fun _=>true) true Tryz.f5.params.toList args.toList L p:=g;rw[Tryz.params5]at E a;obtain⟨J,Z,d0,M,U,q0,n,rfl,rfl,B,y⟩:=trodAll_cons E;obtain⟨K,aa,d1,N,V,q1,rfl,rfl,rfl,D,z⟩:=trodAll_cons y;obtain⟨rfl,rfl,rfl⟩:=trodAll_nil z;obtain rfl:args= #[J,K]:=by cases args;simp_all
 obtain⟨rfl,rfl⟩:=trodVars_none P;have G:=B;have s:∀x∈U,x.block<W.heap.size:=by obtain⟨m,o⟩:=G;exact DataW.trod_lt m _ _ _ o
 have I:=D;have u:∀x∈V,x.block<W.heap.size:=by obtain⟨m,o⟩:=I;exact DataW.trod_lt m _ _ _ o
 obtain⟨k,x0,rfl,Y⟩:=qgl Tryz.underlying42 (qrt) (a 0 42 J rfl rfl) B;obtain⟨A1,n1,c1,rfl⟩:=okWide_slice Tryz.underlying66 (a 1 66 K rfl rfl);obtain⟨x1,r1⟩:=qjn (q7n (by decide) Tryz.underlying66 (qjs) (by kernel_rfl)) rfl D
 (try clear g b)
 have A:=qh4 O r;refine(qld k.toList x0 _ x1 W Y r1 A).mono fun e W' ⟨Q,d⟩=>?_
 subst Q;exact⟨_,rfl,_,_,_, [],_, [],l,trodAll_mk1 (shut_bool zfu _),(trodAll_cons_mk (Below.trod qlc (by kernel_rfl) (of_decide_eq_true (by kernel_rfl)) G d s) (trodAll_cons_mk (Below.trod qlc (by kernel_rfl) (of_decide_eq_true (by kernel_rfl)) I d u) trodAll_mk0)),rfl,d.frame _,fun h=>by cases h⟩
theorem over:Rows.FnExactRunLabSaid:=
 OpenClaim.holds_of_wide 5 Tryz.f5 rfl rfl rfl rfl rfl rfl rfl ⟨rfl,rfl,rfl,rfl,rfl⟩ rfl rfl rfl rfl rfl (by kernel_rfl) Tryz.func5 (by kernel_rfl)
  (of_decide_eq_true (by kernel_rfl)) (by unfold Func.isWrapper;first|(rw[zam (by decide+kernel)];kernel_rfl)|(rw[zaj (by decide+kernel)];exact⟨rfl,rfl⟩))
  (fun c a H b _=>qrn c a H b)
theorem proved:Rows.FnExactRunLabCardSaid:=
 Claim7.holds_tied_plain_at .later [] [.data,.data,.data,.data,.sentinel,.sentinel,.pinned] true Rows.fnExactRunLabCard.stood.harness true
  over (fun _ h=>by cases h) (by kernel_rfl) (fun _ h=>by cases h) fnExactRunLab_row_tie rfl ⟨rfl,rfl⟩ (by kernel_rfl) rfl
  (fun f fn d b=>by
   obtain rfl:f=5:=Option.some.inj ((show Tryz.prog.funcNamed "loop.example/g01078/laws.FnExactRunLab"=some 5 by kernel_rfl).symm.trans d)|>.symm
   obtain rfl:fn=Tryz.f5:=(Option.some.inj (Tryz.func5.symm.trans b)).symm
   exact⟨by kernel_rfl,fun j t c=>by
    rw[Tryz.params5]at c;have e:t∈ [42,66]:=by have:=Array.mem_of_getElem? c;first|simpa using this|(simp at this⊢;omega)
    have a:([42,66].all fun u=> !Tryz.prog.wantsStandIn u)=true:=by kernel_rfl
    exact(show Tryz.prog.wantsStandIn t=false by simpa using zfx.1 a t e)⟩)
  (by kernel_rfl)
end Go.Proofs.YtfnmkbpogbekpaaGreatDoor.fnExactRunLab
