import Derived.Test.YtfnmkbpogbekpaaGreatDoorQ12
import Derived.Test.YtfnmkbpogbekpaaGreatDoorRows
import Derived.Test.YtfnmkbpogbekpaaGreatDoorCards
import Derived.Test.YtfnmkbpogbekpaaGreatDoorTie
import Derived.SevenTiedAt
set_option linter.unusedVariables false
set_option linter.unusedSimpArgs false
set_option maxRecDepth 100000
set_option maxHeartbeats 32000000
namespace Go.Proofs.YtfnmkbpogbekpaaGreatDoor.fnExactStepLab
open Go.ChangeShapes Go.WideShapes Go.ChangeAt Go.RowKit Go.Joins
open Go.ChangeMaps (open_string shut_string)
theorem qp2 (os:Os) (c:os.Started) (H:Type) (enc:TypeId×Value->H):
  ReturnsInHanded {} Tryz.checked os 4 .any (fun w args=>(Rows.fnExactStepLabSpec.pre enc Tryz.prog Tryz.f4 [] false w args/\laidMetH Tryz.prog qa0 w)/\sizedMet enc Tryz.prog Tryz.f4 (OpenSpec.ofChange Rows.fnExactStepLabSpec) false w args)
   (Rows.fnExactStepLabSpec.post enc Tryz.prog Tryz.f4 false true false false):=by
 refine qam (C:=Tryz.checked) (X:=fun w=>laidMetH Tryz.prog qa0 w) (fun _ _ T h=>h.of_heap T) own c (by kernel_rfl) Tryz.func4
  (ChangeSpec.witness_shaped (enc:=enc) (C:=Tryz.checked) (os:=os) (X:=fun w _=>laidMetH Tryz.prog qa0 w) false (World.laidAll Tryz.prog os qa0) #[.agg #[.bool false,.int .i64 0,.slice none 0 0,.slice none 0 0,.int .i64 0],.agg #[.int .i64 0,.string ⟨#[]⟩,.int .i64 0,.slice none 0 0,.slice none 0 0,.slice none 0 0,.slice none 0 0,.int .i64 0,.int .i64 0]] 8 (World.laidAll_os _ _ _) (qf2 os _) (by kernel_rfl) (by kernel_rfl) (by kernel_rfl) (qlo os _)) ?_
 intro W f args M gs i b G P s;have a:∀(j:Nat) t v,Tryz.f4.params[j]?=some t->args[j]?=some v->Value.okWide Tryz.prog W .any f t v:=b;have n:=G;obtain⟨p,q,g,Q,rfl,S,U⟩:=G;have F:DataW.TrodAll enc Tryz.prog W 0 (fun _=>true) true Tryz.f4.params.toList args.toList M p:=g;rw[Tryz.params4]at F a;obtain⟨K,aa,d0,N,V,q0,o,rfl,rfl,D,z⟩:=trodAll_cons F;obtain⟨L,ab,d1,O,Y,q1,rfl,rfl,rfl,E,A⟩:=trodAll_cons z;obtain⟨rfl,rfl,rfl⟩:=trodAll_nil A;obtain rfl:args= #[K,L]:=by cases args;simp_all
 obtain⟨rfl,rfl⟩:=trodVars_none Q;have I:=D;have u:∀x∈V,x.block<W.heap.size:=by obtain⟨m,r⟩:=I;exact DataW.trod_lt m _ _ _ r
 have J:=E;have y:∀x∈Y,x.block<W.heap.size:=by obtain⟨m,r⟩:=J;exact DataW.trod_lt m _ _ _ r
 obtain⟨k,x0,rfl,Z⟩:=qa6 Tryz.underlying42 (qp8) (a 0 42 K rfl rfl) D;obtain⟨l,x1,rfl,r1⟩:=qa6 Tryz.underlying49 (qii) (a 1 49 L rfl rfl) E
 (try clear g b)
 have B:=qgb P s;refine(qia k.toList x0 l.toList x1 W Z r1 B).mono fun e W' ⟨R,d⟩=>?_
 subst R;exact⟨_,rfl,_,_,_, [],_, [],n,trodAll_mk1 (shut_bool zfs _),(trodAll_cons_mk (Below.trod qjr (by kernel_rfl) (of_decide_eq_true (by kernel_rfl)) I d u) (trodAll_cons_mk (Below.trod qjr (by kernel_rfl) (of_decide_eq_true (by kernel_rfl)) J d y) trodAll_mk0)),rfl,d.frame _,fun h=>by cases h⟩
theorem over:Rows.FnExactStepLabSaid:=
 OpenClaim.holds_of_wide 4 Tryz.f4 rfl rfl rfl rfl rfl rfl rfl ⟨rfl,rfl,rfl,rfl,rfl⟩ rfl rfl rfl rfl rfl (by kernel_rfl) Tryz.func4 (by kernel_rfl)
  (of_decide_eq_true (by kernel_rfl)) (by unfold Func.isWrapper;first|(rw[zao (by decide+kernel)];kernel_rfl)|(rw[zaj (by decide+kernel)];exact⟨rfl,rfl⟩))
  (fun c a H b _=>qp2 c a H b)
theorem proved:Rows.FnExactStepLabCardSaid:=
 Claim7.holds_tied_plain_at .later [] [.data,.data,.data,.data,.sentinel,.sentinel,.pinned] true Rows.fnExactStepLabCard.stood.harness true
  over (fun _ h=>by cases h) (by kernel_rfl) (fun _ h=>by cases h) fnExactStepLab_row_tie rfl ⟨rfl,rfl⟩ (by kernel_rfl) rfl
  (fun f fn d b=>by
   obtain rfl:f=4:=Option.some.inj ((show Tryz.prog.funcNamed "loop.example/g01078/laws.FnExactStepLab"=some 4 by kernel_rfl).symm.trans d)|>.symm
   obtain rfl:fn=Tryz.f4:=(Option.some.inj (Tryz.func4.symm.trans b)).symm
   exact⟨by kernel_rfl,fun j t c=>by
    rw[Tryz.params4]at c;have e:t∈ [42,49]:=by have:=Array.mem_of_getElem? c;first|simpa using this|(simp at this⊢;omega)
    have a:([42,49].all fun u=> !Tryz.prog.wantsStandIn u)=true:=by kernel_rfl
    exact(show Tryz.prog.wantsStandIn t=false by simpa using zfv.1 a t e)⟩)
  (by kernel_rfl)
end Go.Proofs.YtfnmkbpogbekpaaGreatDoor.fnExactStepLab
