import Derived.Shelf.Strings.Builder1
import Derived.Shelf.Small.Bits
import Derived.Shelf.Strings.BuilderF
import Derived.Shelf.Strings.BuilderK
import Derived.Shelf.Utf8.RuneCount
import Derived.Shelf.Strconv.Atoi
import Derived.Shelf.Strconv.Itoa0
import Derived.Shelf.Strconv.Itoa1
import Derived.Shelf.LaysM
import Derived.Shelf.Strconv.Itoa2
import Derived.Shelf.Strconv.Itoa3
import Derived.Shelf.Strconv.AtoiErrFast
import Derived.Shelf.Strconv.ParseIntEmpty
import Derived.Shelf.Strconv.AtoiFail
import Derived.Shelf.Strconv.Clone
import Derived.Shelf.Strconv.SyntaxError
import Derived.Shelf.LaysC
import Derived.Shelf.Strconv.ToError
import Derived.Shelf.Strconv.Lower
import Derived.Shelf.Strconv.ParseUint10
import Derived.Shelf.Strconv.ParseUint10Empty
import Derived.Shelf.Strconv.ParseUint10Any
import Derived.Shelf.Strconv.ParseInt10
import Derived.Shelf.Strconv.AtoiLong
import Derived.Shelf.Strconv.AtoiInnerAll
import Derived.Shelf.Strconv.RangeError
import Derived.Shelf.Strconv.ToErrorRange
import Derived.Shelf.Strconv.AtoiAll
import Derived.Shelf.Strconv.ErrVarAll
import Derived.Shelf.Strings.Search1
import Derived.Shelf.Strings.Search2
import Derived.Shelf.Strings.Search3
import Derived.Shelf.Strings.Count
import Derived.Shelf.Strings.Shaped
import Derived.Shelf.Sort.Plain
import Derived.Shelf.Strings.Split
import Derived.Shelf.Strings.SplitShaped
import Derived.Shelf.Unicode.Decode
import Derived.Shelf.Strings.RuneCount
import Derived.Shelf.Strings.Explode
import Derived.Shelf.Unicode.DecodeSlow
import Derived.Shelf.Unicode.DecodeAny
import Derived.Shelf.Strings.BuilderCap
import Derived.Ground.Names2Prog
import Derived.Shelf.Slices.SearchI
import Derived.Shelf.Slices.In.SortNone
import Derived.Shelf.Slices.In.SortNone2
import Derived.Test.YtfnmkbpogbekpaaGreatDoorProg
import Derived.WalkKit
import Derived.WalkSpells
import Derived.WalkLawsBesides
import Derived.Lib.Hide
import Derived.Lib.IndexMore
import Derived.BigGuardPart
import Derived.BigQuiet
import Derived.Deep.QuietTactic
import Derived.ProofKit
import Derived.OpenShut
import Derived.Lib.SmallJoins
import Derived.Deep.Slices
import Derived.Deep.RegionHeld3
import Derived.Deep.DeepCutAuto
set_option linter.unusedVariables false
set_option linter.unusedSimpArgs false
set_option maxRecDepth 100000
set_option maxHeartbeats 32000000
namespace Go.Proofs
open Go.RowKit
theorem zaa:type_of% @Lib.hid:= @Lib.hid
theorem zac:type_of% @Below.refl:= @Below.refl
theorem zad:type_of% @Nat.le_refl:= @Nat.le_refl
theorem zae:type_of% @List.getElem?_eq_getElem:= @List.getElem?_eq_getElem
theorem zaf:type_of% @List.mem_of_getElem?:= @List.mem_of_getElem?
theorem zag:type_of% @List.getElem?_eq_some_iff:= @List.getElem?_eq_some_iff
theorem zah:type_of% @Nat.zero_le:= @Nat.zero_le
theorem zai:type_of% @Below.drew:= @Below.drew
theorem zaj:type_of% @if_neg:= @if_neg
theorem zak:type_of% @List.getD_eq_getElem?_getD:= @List.getD_eq_getElem?_getD
theorem zal:type_of% @Bool.and_eq_true:= @Bool.and_eq_true
theorem zam:type_of% @if_pos:= @if_pos
theorem zan:type_of% @Int.eq_ofNat_of_zero_le:= @Int.eq_ofNat_of_zero_le
theorem zao:type_of% @And.intro:= @And.intro
theorem zap:type_of% @List.mem_cons_of_mem:= @List.mem_cons_of_mem
theorem zaq:type_of% @List.mem_cons_self:= @List.mem_cons_self
theorem zar:type_of% @List.take_of_length_le:= @List.take_of_length_le
theorem zat:type_of% @bodyPost_ret:= @bodyPost_ret
theorem zau:type_of% @List.mem_append:= @List.mem_append
theorem zav:type_of% @congrArg:= @congrArg
theorem zax:type_of% @decide_eq_true_iff:= @decide_eq_true_iff
theorem zaz:type_of% @List.mem_append_right:= @List.mem_append_right
theorem za0:type_of% @List.length_cons:= @List.length_cons
theorem za1:type_of% @Tryz.underlying43:= @Tryz.underlying43
theorem za2:type_of% @List.getElem?_map:= @List.getElem?_map
theorem za5:type_of% @Int.toNat_natCast:= @Int.toNat_natCast
theorem za7:type_of% @Nat.le_trans:= @Nat.le_trans
theorem za8:type_of% @Below.heap_setCell:= @Below.heap_setCell
theorem za9:type_of% @List.length_take:= @List.length_take
theorem zbb:type_of% @List.mem_append_left:= @List.mem_append_left
theorem zbc:type_of% @List.getElem?_append_right:= @List.getElem?_append_right
theorem zbd:type_of% @List.nodup_append:= @List.nodup_append
theorem zbe:type_of% @List.mem_map:= @List.mem_map
theorem zbf:type_of% @List.mem_cons:= @List.mem_cons
theorem zbg:type_of% @Tryz.underlying27:= @Tryz.underlying27
theorem zbh:type_of% @decide_eq_true:= @decide_eq_true
theorem zbi:type_of% @decide_eq_false:= @decide_eq_false
theorem zbj:type_of% @beq_eq_false_iff_ne:= @beq_eq_false_iff_ne
theorem zbk:type_of% @List.drop_eq_nil_of_le:= @List.drop_eq_nil_of_le
theorem zbl:type_of% @List.getElem?_eq_none:= @List.getElem?_eq_none
theorem zbm:type_of% @List.mem_flatten:= @List.mem_flatten
theorem zbo:type_of% @List.getElem?_of_mem:= @List.getElem?_of_mem
theorem zbp:type_of% @List.take_add_one:= @List.take_add_one
theorem zbq:type_of% @List.drop_eq_getElem_cons:= @List.drop_eq_getElem_cons
theorem zbs:type_of% @List.length_append:= @List.length_append
theorem zbt:type_of% @List.mem_of_mem_take:= @List.mem_of_mem_take
theorem zbu:type_of% @List.flatten_append:= @List.flatten_append
theorem zbv:type_of% @List.getElem?_append_left:= @List.getElem?_append_left
theorem zbw:type_of% @Int.natCast_mul:= @Int.natCast_mul
theorem zbx:type_of% @Tryz.underlying25:= @Tryz.underlying25
theorem zbz:type_of% @List.length_map:= @List.length_map
theorem zb0:type_of% @results_cell_row:= @results_cell_row
theorem zb2:type_of% @List.mem_singleton:= @List.mem_singleton
theorem zb4:type_of% @Tryz.underlying24:= @Tryz.underlying24
theorem zb6:type_of% @World.cell?_of_block:= @World.cell?_of_block
theorem zb7:type_of% @World.ownsRow_lit:= @World.ownsRow_lit
theorem zca:type_of% @wp_region_held_drew:= @wp_region_held_drew
theorem zcc:type_of% @Bool.eq_iff_iff:= @Bool.eq_iff_iff
theorem zcd:type_of% @List.getElem?_set:= @List.getElem?_set
theorem zce:type_of% @List.getElem_mem:= @List.getElem_mem
theorem zcf:type_of% @wpAnyH_done:= @wpAnyH_done
theorem zcg:type_of% @List.length_set:= @List.length_set
theorem zch:type_of% @List.nil_append:= @List.nil_append
theorem zci:type_of% @Nat.mul_le_mul:= @Nat.mul_le_mul
theorem zck:type_of% @IntWalk.i64_in:= @IntWalk.i64_in
theorem zcl:type_of% @List.ext_getElem?:= @List.ext_getElem?
theorem zcm:type_of% @Tryz.underlying3:= @Tryz.underlying3
theorem zcn:type_of% @Nat.zero_add:= @Nat.zero_add
theorem zco:type_of% @List.length_eq_zero_iff:= @List.length_eq_zero_iff
theorem zcp:type_of% @Tryz.underlying57:= @Tryz.underlying57
theorem zct:type_of% @List.length_drop:= @List.length_drop
theorem zcu:type_of% @Nat.lt_of_lt_of_le:= @Nat.lt_of_lt_of_le
theorem zcv:type_of% @List.take_append_drop:= @List.take_append_drop
theorem zcw:type_of% @List.take_zero:= @List.take_zero
theorem zcz:type_of% @List.map_cons:= @List.map_cons
theorem zc3:type_of% @List.append_nil:= @List.append_nil
theorem zc5:type_of% @Option.some.injEq:= @Option.some.injEq
theorem zc6:type_of% @List.flatten_cons:= @List.flatten_cons
theorem zc9:type_of% @Nat.lt_or_ge:= @Nat.lt_or_ge
theorem zda:type_of% @Nat.sub_self:= @Nat.sub_self
theorem zdb:type_of% @Nat.eq_zero_or_pos:= @Nat.eq_zero_or_pos
theorem zdd:type_of% @List.mem_range:= @List.mem_range
theorem zdg:type_of% @IntKind.wrap_i64:= @IntKind.wrap_i64
theorem zdh:type_of% @List.getElem?_cons_succ:= @List.getElem?_cons_succ
theorem zdi:type_of% @List.eq_nil_of_length_eq_zero:= @List.eq_nil_of_length_eq_zero
theorem zdk:type_of% @List.mem_or_eq_of_mem_set:= @List.mem_or_eq_of_mem_set
theorem zdl:type_of% @Below.trans:= @Below.trans
theorem zdo:type_of% @Bool.true_and:= @Bool.true_and
theorem zdr:type_of% @List.getElem?_set_ne:= @List.getElem?_set_ne
theorem zds:type_of% @List.getElem?_drop:= @List.getElem?_drop
theorem zdt:type_of% @List.mem_of_mem_drop:= @List.mem_of_mem_drop
theorem zdu:type_of% @Tryz.underlying9:= @Tryz.underlying9
theorem zdx:type_of% @beq_iff_eq:= @beq_iff_eq
theorem zdz:type_of% @List.set_append_right:= @List.set_append_right
theorem zd2:type_of% @List.nodup_cons:= @List.nodup_cons
theorem zd3:type_of% @List.getElem?_take:= @List.getElem?_take
theorem zd4:type_of% @List.pairwise_cons:= @List.pairwise_cons
theorem zd5:type_of% @decide_eq_false_iff_not:= @decide_eq_false_iff_not
theorem zd7:type_of% @Nat.mul_le_mul_right:= @Nat.mul_le_mul_right
theorem zd8:type_of% @Array.getElem?_eq_some_iff:= @Array.getElem?_eq_some_iff
theorem zd9:type_of% @Bool.and_false:= @Bool.and_false
theorem zeb:type_of% @List.append_assoc:= @List.append_assoc
theorem zec:type_of% @List.map_congr_left:= @List.map_congr_left
theorem zee:type_of% @Bool.or_eq_true:= @Bool.or_eq_true
theorem zef:type_of% @Nat.min_eq_left:= @Nat.min_eq_left
theorem zel:type_of% @List.map_append:= @List.map_append
theorem zem:type_of% @Nat.mul_le_mul_left:= @Nat.mul_le_mul_left
theorem zen:type_of% @Int.toNat_of_nonneg:= @Int.toNat_of_nonneg
theorem zeo:type_of% @List.getElem?_range:= @List.getElem?_range
theorem zet:type_of% @Nat.succ_mul:= @Nat.succ_mul
theorem zeu:type_of% @List.getElem?_set_self:= @List.getElem?_set_self
theorem zew:type_of% @Or.inr:= @Or.inr
theorem zez:type_of% @List.length_replicate:= @List.length_replicate
theorem ze5:type_of% @wpAnyH_ready:= @wpAnyH_ready
theorem ze7:type_of% @Tryz.underlying22:= @Tryz.underlying22
theorem zfe:type_of% @World.size_alloc:= @World.size_alloc
theorem zfh:type_of% @Nat.mul_comm:= @Nat.mul_comm
theorem zfi:type_of% @Nat.pow_succ:= @Nat.pow_succ
theorem zfj:type_of% @Nat.div_le_self:= @Nat.div_le_self
theorem zfm:type_of% @Lib.nDigits_small:= @Lib.nDigits_small
theorem zfn:type_of% @Nat.mod_lt:= @Nat.mod_lt
theorem zft:type_of% @Tryz.underlying5:= @Tryz.underlying5
theorem zfu:type_of% @Tryz.underlying4:= @Tryz.underlying4
theorem zfw:type_of% @Nat.pow_zero:= @Nat.pow_zero
theorem zfx:type_of% @List.all_eq_true:= @List.all_eq_true
theorem zfy:type_of% @Tryz.ntmps35:= @Tryz.ntmps35
theorem zfz:type_of% @List.map_map:= @List.map_map
theorem zf7:type_of% @Tryz.underlying130:= @Tryz.underlying130
theorem zf8:type_of% @Nat.add_sub_cancel:= @Nat.add_sub_cancel
theorem zga:type_of% @Tryz.func35:= @Tryz.func35
theorem zgc:type_of% @AllReadyH.cons:= @AllReadyH.cons
theorem zgd:type_of% @Tryz.ntmps28:= @Tryz.ntmps28
end Go.Proofs
namespace Go.Proofs
open Go.Shelf
def Tryz.lays169_ren:Go.Shelf.Ren:=⟨fun|169=>145|n=>n,fun|70=>164|9=>9|0=>0|72=>166|37=>130|127=>186|3=>3|5=>5|n=>n,fun|n=>n⟩
theorem Tryz.lays169:Go.Proofs.Lays.n169 Tryz.prog Tryz.lays169_ren:= {
 mixed:=by kernel_rfl
 f169:=Tryz.func145.trans (zav some (by kernel_rfl))
 t0:=Tryz.underlying0
 a0:=Tryz.isAgg0
 z0:=Tryz.sizeOf0
 v0:=Tryz.zeroValue0
 t3:=zcm
 a3:=Tryz.isAgg3
 z3:=Tryz.sizeOf3
 v3:=Tryz.zeroValue3
 t9:=zdu
 a9:=Tryz.isAgg9
 z9:=Tryz.sizeOf9
 v9:=Tryz.zeroValue9
 t37:=zf7
 a37:=Tryz.isAgg130
 z37:=Tryz.sizeOf130
 v37:=Tryz.zeroValue130
 t70:=Tryz.underlying164
 a70:=Tryz.isAgg164
 z70:=Tryz.sizeOf164
 v70:=Tryz.zeroValue164
 t72:=Tryz.underlying166
 a72:=Tryz.isAgg166
 z72:=Tryz.sizeOf166
 v72:=Tryz.zeroValue166
 t127:=Tryz.underlying186
 a127:=Tryz.isAgg186
 z127:=Tryz.sizeOf186
 v127:=Tryz.zeroValue186 }
theorem Tryz.Builder_Extra_169:Builder.Extra Tryz.prog Tryz.lays169_ren:= {
 sizeBuilder:=by kernel_rfl
 liesBuilder:=by kernel_rfl
 t5:=zft
 a5:=Tryz.isAgg5
 z5:=Tryz.sizeOf5
 v5:=Tryz.zeroValue5
 infoByte:=by kernel_rfl
 cellsByte:=by kernel_rfl
 sizeByte:=by kernel_rfl
 neB5:=by decide }
open Go.RowKit in
theorem Tryz.Builder_String_any (B b:Nat) (l:List UInt8) (w:World) (h:Lib.IsBuilder 166 5 B b (Lib.byteCells l) w) (a:B<=w.heap.size):
  Calls Tryz.prog 145 #[.pointer (some ⟨b,0,none⟩)] w fun e w'=>e=.returned (.string ⟨l.toArray⟩)/\Below B w w':=Any.Builder_String_any Tryz.lays169 Tryz.Builder_Extra_169 B b l w h a
def Tryz.lays172_ren:Go.Shelf.Ren:=⟨fun|172=>139|244=>188|245=>189|247=>206|279=>207|280=>208|281=>209|282=>210|287=>221|316=>222|171=>143|205=>223|321=>241|322=>242|243=>191|246=>212|283=>224|284=>225|285=>226|286=>227|129=>238|317=>243|318=>244|319=>245|320=>246|337=>253|338=>254|n=>n,fun|9=>9|3=>3|75=>159|76=>160|4=>4|5=>5|167=>196|37=>130|0=>0|85=>197|2=>2|168=>199|53=>209|175=>210|46=>207|210=>214|127=>186|145=>239|143=>237|21=>21|171=>216|173=>219|212=>241|51=>229|20=>20|213=>242|232=>252|233=>253|80=>168|n=>n,fun|15=>1|16=>2|17=>5|18=>6|19=>7|n=>n⟩
def Tryz.laysM246_ren:Go.Shelf.Ren:=⟨fun|246=>212|283=>224|284=>225|285=>226|286=>227|129=>238|317=>243|318=>244|319=>245|320=>246|337=>253|338=>254|n=>n,fun|2=>2|3=>3|9=>9|4=>4|171=>216|0=>0|53=>209|37=>130|5=>5|173=>219|212=>241|51=>229|20=>20|213=>242|46=>207|232=>252|233=>253|n=>n,fun|17=>5|18=>6|19=>7|n=>n⟩
def Tryz.laysM243_ren:Go.Shelf.Ren:=⟨fun|243=>191|246=>212|283=>224|284=>225|285=>226|286=>227|129=>238|317=>243|318=>244|319=>245|320=>246|337=>253|338=>254|n=>n,fun|3=>3|9=>9|2=>2|4=>4|171=>216|0=>0|53=>209|37=>130|5=>5|173=>219|212=>241|51=>229|20=>20|213=>242|46=>207|232=>252|233=>253|n=>n,fun|17=>5|18=>6|19=>7|n=>n⟩
def Tryz.laysM171_ren:Go.Shelf.Ren:=⟨fun|171=>143|243=>191|246=>212|283=>224|284=>225|285=>226|286=>227|129=>238|317=>243|318=>244|319=>245|320=>246|337=>253|338=>254|n=>n,fun|3=>3|9=>9|2=>2|4=>4|171=>216|0=>0|53=>209|37=>130|5=>5|173=>219|212=>241|51=>229|20=>20|213=>242|46=>207|232=>252|233=>253|n=>n,fun|17=>5|18=>6|19=>7|n=>n⟩
theorem Tryz.laysM171:Go.Proofs.LaysM.n171 Tryz.prog Tryz.laysM171_ren:= {
 mixed:=by kernel_rfl
 f129:=Tryz.func238.trans (zav some (by kernel_rfl))
 f171:=Tryz.func143.trans (zav some (by kernel_rfl))
 f243:=Tryz.func191.trans (zav some (by kernel_rfl))
 f246:=Tryz.func212.trans (zav some (by kernel_rfl))
 f283:=Tryz.func224.trans (zav some (by kernel_rfl))
 f284:=Tryz.func225.trans (zav some (by kernel_rfl))
 f285:=Tryz.func226.trans (zav some (by kernel_rfl))
 f286:=Tryz.func227.trans (zav some (by kernel_rfl))
 f317:=Tryz.func243.trans (zav some (by kernel_rfl))
 f318:=Tryz.func244.trans (zav some (by kernel_rfl))
 f319:=Tryz.func245.trans (zav some (by kernel_rfl))
 f320:=Tryz.func246.trans (zav some (by kernel_rfl))
 f337:=Tryz.func253.trans (zav some (by kernel_rfl))
 f338:=Tryz.func254.trans (zav some (by kernel_rfl))
 t0:=Tryz.underlying0
 a0:=Tryz.isAgg0
 z0:=Tryz.sizeOf0
 v0:=Tryz.zeroValue0
 t2:=Tryz.underlying2
 a2:=Tryz.isAgg2
 z2:=Tryz.sizeOf2
 v2:=Tryz.zeroValue2
 t3:=zcm
 a3:=Tryz.isAgg3
 z3:=Tryz.sizeOf3
 v3:=Tryz.zeroValue3
 t4:=zfu
 a4:=Tryz.isAgg4
 z4:=Tryz.sizeOf4
 v4:=Tryz.zeroValue4
 t5:=zft
 a5:=Tryz.isAgg5
 z5:=Tryz.sizeOf5
 v5:=Tryz.zeroValue5
 t9:=zdu
 a9:=Tryz.isAgg9
 z9:=Tryz.sizeOf9
 v9:=Tryz.zeroValue9
 t20:=Tryz.underlying20
 a20:=Tryz.isAgg20
 z20:=Tryz.sizeOf20
 v20:=Tryz.zeroValue20
 t37:=zf7
 a37:=Tryz.isAgg130
 z37:=Tryz.sizeOf130
 v37:=Tryz.zeroValue130
 t46:=Tryz.underlying207
 a46:=Tryz.isAgg207
 z46:=Tryz.sizeOf207
 v46:=Tryz.zeroValue207
 t51:=Tryz.underlying229
 a51:=Tryz.isAgg229
 z51:=Tryz.sizeOf229
 v51:=Tryz.zeroValue229
 t53:=Tryz.underlying209
 a53:=Tryz.isAgg209
 z53:=Tryz.sizeOf209
 v53:=Tryz.zeroValue209
 t171:=Tryz.underlying216
 a171:=Tryz.isAgg216
 z171:=Tryz.sizeOf216
 v171:=Tryz.zeroValue216
 t173:=Tryz.underlying219
 a173:=Tryz.isAgg219
 z173:=Tryz.sizeOf219
 v173:=Tryz.zeroValue219
 t212:=Tryz.underlying241
 a212:=Tryz.isAgg241
 z212:=Tryz.sizeOf241
 v212:=Tryz.zeroValue241
 t213:=Tryz.underlying242
 a213:=Tryz.isAgg242
 z213:=Tryz.sizeOf242
 t232:=Tryz.underlying252
 a232:=Tryz.isAgg252
 z232:=Tryz.sizeOf252
 v232:=Tryz.zeroValue252
 t233:=Tryz.underlying253
 a233:=Tryz.isAgg253
 z233:=Tryz.sizeOf253
 v233:=Tryz.zeroValue253
 g17:=by kernel_rfl
 g18:=by kernel_rfl
 g19:=by kernel_rfl
 i0:=by kernel_rfl
 i2:=by kernel_rfl
 i3:=by kernel_rfl
 i4:=by kernel_rfl
 i5:=by kernel_rfl
 i9:=by kernel_rfl
 i20:=by kernel_rfl
 i37:=by kernel_rfl
 i46:=by kernel_rfl
 i51:=by kernel_rfl
 i53:=by kernel_rfl
 i171:=by kernel_rfl
 i173:=by kernel_rfl
 i212:=by kernel_rfl
 i232:=by kernel_rfl
 i233:=by kernel_rfl
 m17:=by kernel_rfl
 m18:=by kernel_rfl
 m19:=by kernel_rfl }
open Go.RowKit Go.Sort Go.Lib in
theorem Tryz.strconv_Itoa (n:Int) (b: -9223372036854775808<=n) (c:n<=9223372036854775807) (w:World) (a:Lib.TabIs Tryz.prog w "internal/strconv.uint64pow10" .u64 Lib.pow10Tab):
  Calls Tryz.prog 143 #[.int .i64 n] w fun e w'=>e=.returned (.string ⟨(Lib.itoa n).toArray⟩)/\∃k os,w'=grow (w.drewN k) os:=Any.strconv_Itoa Tryz.laysM171 n b c w a
def Tryz.laysC172_ren:Go.Shelf.Ren:=⟨fun|172=>139|244=>188|245=>189|247=>206|279=>207|280=>208|281=>209|282=>210|287=>221|316=>222|171=>143|205=>223|321=>241|322=>242|243=>191|246=>212|283=>224|284=>225|285=>226|286=>227|129=>238|317=>243|318=>244|319=>245|320=>246|337=>253|338=>254|n=>n,fun|9=>9|3=>3|75=>159|76=>160|4=>4|5=>5|167=>196|37=>130|0=>0|85=>197|2=>2|168=>199|53=>209|175=>210|46=>207|210=>214|127=>186|145=>239|143=>237|21=>21|171=>216|173=>219|212=>241|51=>229|20=>20|213=>242|232=>252|233=>253|80=>168|n=>n,fun|15=>1|16=>2|17=>5|18=>6|19=>7|n=>n⟩
theorem Tryz.laysC172:Go.Proofs.LaysC.n172 Tryz.prog Tryz.laysC172_ren:= {
 mixed:=by kernel_rfl
 f129:=Tryz.func238.trans (zav some (by kernel_rfl))
 f171:=Tryz.func143.trans (zav some (by kernel_rfl))
 f172:=Tryz.func139.trans (zav some (by kernel_rfl))
 f205:=Tryz.func223.trans (zav some (by kernel_rfl))
 f243:=Tryz.func191.trans (zav some (by kernel_rfl))
 f244:=Tryz.func188.trans (zav some (by kernel_rfl))
 f245:=Tryz.func189.trans (zav some (by kernel_rfl))
 f246:=Tryz.func212.trans (zav some (by kernel_rfl))
 f247:=Tryz.func206.trans (zav some (by kernel_rfl))
 f279:=Tryz.func207.trans (zav some (by kernel_rfl))
 f280:=Tryz.func208.trans (zav some (by kernel_rfl))
 f281:=Tryz.func209.trans (zav some (by kernel_rfl))
 f282:=Tryz.func210.trans (zav some (by kernel_rfl))
 f283:=Tryz.func224.trans (zav some (by kernel_rfl))
 f284:=Tryz.func225.trans (zav some (by kernel_rfl))
 f285:=Tryz.func226.trans (zav some (by kernel_rfl))
 f286:=Tryz.func227.trans (zav some (by kernel_rfl))
 f287:=Tryz.func221.trans (zav some (by kernel_rfl))
 f316:=Tryz.func222.trans (zav some (by kernel_rfl))
 f317:=Tryz.func243.trans (zav some (by kernel_rfl))
 f318:=Tryz.func244.trans (zav some (by kernel_rfl))
 f319:=Tryz.func245.trans (zav some (by kernel_rfl))
 f320:=Tryz.func246.trans (zav some (by kernel_rfl))
 f321:=Tryz.func241.trans (zav some (by kernel_rfl))
 f322:=Tryz.func242.trans (zav some (by kernel_rfl))
 f337:=Tryz.func253.trans (zav some (by kernel_rfl))
 f338:=Tryz.func254.trans (zav some (by kernel_rfl))
 t0:=Tryz.underlying0
 a0:=Tryz.isAgg0
 z0:=Tryz.sizeOf0
 v0:=Tryz.zeroValue0
 t2:=Tryz.underlying2
 a2:=Tryz.isAgg2
 z2:=Tryz.sizeOf2
 v2:=Tryz.zeroValue2
 t3:=zcm
 a3:=Tryz.isAgg3
 z3:=Tryz.sizeOf3
 v3:=Tryz.zeroValue3
 t4:=zfu
 a4:=Tryz.isAgg4
 z4:=Tryz.sizeOf4
 v4:=Tryz.zeroValue4
 t5:=zft
 a5:=Tryz.isAgg5
 z5:=Tryz.sizeOf5
 v5:=Tryz.zeroValue5
 t9:=zdu
 a9:=Tryz.isAgg9
 z9:=Tryz.sizeOf9
 v9:=Tryz.zeroValue9
 t20:=Tryz.underlying20
 a20:=Tryz.isAgg20
 z20:=Tryz.sizeOf20
 v20:=Tryz.zeroValue20
 t21:=Tryz.underlying21
 a21:=Tryz.isAgg21
 z21:=Tryz.sizeOf21
 v21:=Tryz.zeroValue21
 t37:=zf7
 a37:=Tryz.isAgg130
 z37:=Tryz.sizeOf130
 v37:=Tryz.zeroValue130
 t46:=Tryz.underlying207
 a46:=Tryz.isAgg207
 z46:=Tryz.sizeOf207
 v46:=Tryz.zeroValue207
 t51:=Tryz.underlying229
 a51:=Tryz.isAgg229
 z51:=Tryz.sizeOf229
 v51:=Tryz.zeroValue229
 t53:=Tryz.underlying209
 a53:=Tryz.isAgg209
 z53:=Tryz.sizeOf209
 v53:=Tryz.zeroValue209
 t75:=Tryz.underlying159
 a75:=Tryz.isAgg159
 z75:=Tryz.sizeOf159
 v75:=Tryz.zeroValue159
 t76:=Tryz.underlying160
 a76:=Tryz.isAgg160
 z76:=Tryz.sizeOf160
 v76:=Tryz.zeroValue160
 t85:=Tryz.underlying197
 a85:=Tryz.isAgg197
 z85:=Tryz.sizeOf197
 v85:=Tryz.zeroValue197
 t127:=Tryz.underlying186
 a127:=Tryz.isAgg186
 z127:=Tryz.sizeOf186
 v127:=Tryz.zeroValue186
 t143:=Tryz.underlying237
 a143:=Tryz.isAgg237
 z143:=Tryz.sizeOf237
 v143:=Tryz.zeroValue237
 t145:=Tryz.underlying239
 a145:=Tryz.isAgg239
 z145:=Tryz.sizeOf239
 v145:=Tryz.zeroValue239
 t167:=Tryz.underlying196
 a167:=Tryz.isAgg196
 z167:=Tryz.sizeOf196
 v167:=Tryz.zeroValue196
 t168:=Tryz.underlying199
 a168:=Tryz.isAgg199
 z168:=Tryz.sizeOf199
 v168:=Tryz.zeroValue199
 t171:=Tryz.underlying216
 a171:=Tryz.isAgg216
 z171:=Tryz.sizeOf216
 v171:=Tryz.zeroValue216
 t173:=Tryz.underlying219
 a173:=Tryz.isAgg219
 z173:=Tryz.sizeOf219
 v173:=Tryz.zeroValue219
 t175:=Tryz.underlying210
 a175:=Tryz.isAgg210
 z175:=Tryz.sizeOf210
 v175:=Tryz.zeroValue210
 t210:=Tryz.underlying214
 a210:=Tryz.isAgg214
 z210:=Tryz.sizeOf214
 v210:=Tryz.zeroValue214
 t212:=Tryz.underlying241
 a212:=Tryz.isAgg241
 z212:=Tryz.sizeOf241
 v212:=Tryz.zeroValue241
 t213:=Tryz.underlying242
 a213:=Tryz.isAgg242
 z213:=Tryz.sizeOf242
 t232:=Tryz.underlying252
 a232:=Tryz.isAgg252
 z232:=Tryz.sizeOf252
 v232:=Tryz.zeroValue252
 t233:=Tryz.underlying253
 a233:=Tryz.isAgg253
 z233:=Tryz.sizeOf253
 v233:=Tryz.zeroValue253
 g15:=by kernel_rfl
 g16:=by kernel_rfl
 g17:=by kernel_rfl
 g18:=by kernel_rfl
 g19:=by kernel_rfl
 t80:=Tryz.underlying168
 a80:=Tryz.isAgg168
 z80:=Tryz.sizeOf168
 v80:=Tryz.zeroValue168
 i0:=by kernel_rfl
 i2:=by kernel_rfl
 i3:=by kernel_rfl
 i4:=by kernel_rfl
 i5:=by kernel_rfl
 i9:=by kernel_rfl
 i20:=by kernel_rfl
 i21:=by kernel_rfl
 i37:=by kernel_rfl
 i46:=by kernel_rfl
 i51:=by kernel_rfl
 i53:=by kernel_rfl
 i75:=by kernel_rfl
 i76:=by kernel_rfl
 i80:=by kernel_rfl
 i85:=by kernel_rfl
 i127:=by kernel_rfl
 i143:=by kernel_rfl
 i145:=by kernel_rfl
 i167:=by kernel_rfl
 i168:=by kernel_rfl
 i171:=by kernel_rfl
 i173:=by kernel_rfl
 i175:=by kernel_rfl
 i210:=by kernel_rfl
 i212:=by kernel_rfl
 i232:=by kernel_rfl
 i233:=by kernel_rfl
 m15:=by kernel_rfl
 m16:=by kernel_rfl
 m17:=by kernel_rfl
 m18:=by kernel_rfl
 m19:=by kernel_rfl
 c0:=by kernel_rfl
 c2:=by kernel_rfl
 c3:=by kernel_rfl
 c4:=by kernel_rfl
 c5:=by kernel_rfl
 c9:=by kernel_rfl
 c20:=by kernel_rfl
 c21:=by kernel_rfl
 c37:=by kernel_rfl
 c46:=by kernel_rfl
 c51:=by kernel_rfl
 c53:=by kernel_rfl
 c75:=by kernel_rfl
 c76:=by kernel_rfl
 c80:=by kernel_rfl
 c85:=by kernel_rfl
 c127:=by kernel_rfl
 c143:=by kernel_rfl
 c145:=by kernel_rfl
 c167:=by kernel_rfl
 c168:=by kernel_rfl
 c171:=by kernel_rfl
 c173:=by kernel_rfl
 c175:=by kernel_rfl
 c210:=by kernel_rfl
 c212:=by kernel_rfl
 c213:=by kernel_rfl
 c232:=by kernel_rfl
 c233:=by kernel_rfl }
open Go.RowKit in
theorem Tryz.strconv_Atoi_ok (s:ByteArray) (a:s.size<=9223372036854775806) (v:Int) (h:Lib.atoiAll s.data.toList=.ok v) (w:World):
  Calls Tryz.prog 139 #[.string s] w fun e w'=>e=.returned (.tuple #[.int .i64 v,.nilIface])/\(w'=w\/∃t,w'=Lib.bytesWorld w 5 t):=Any.strconv_Atoi_ok Tryz.laysC172 s a v h w
open Go.RowKit in
theorem Tryz.strconv_Atoi_syntax_var (s:ByteArray) (a:s.size<=281474976710656) (h:Lib.atoiAll s.data.toList=.«syntax») (tp:TypeId) (p:Value) (w:World) (b:w.var? Tryz.prog "strconv.ErrSyntax"=some #[.iface tp p]):
  Calls Tryz.prog 139 #[.string s] w fun e w'=>∃N,e=.returned (.tuple #[.int .i64 0,.iface 199 (.pointer (some ⟨N,0,none⟩))])/\w.heap.size<=N/\w'.heap[N]?=some (.cells #[.string ⟨#[65,116,111,105]⟩,.string s,.iface tp p] 214 (0,0))/\Below w.heap.size w w':=Any.strconv_Atoi_syntax_var Tryz.laysC172 s a h tp p w b
open Go.RowKit in
theorem Tryz.strconv_Atoi_range_var (s:ByteArray) (a:s.size<=281474976710656) (h:Lib.atoiAll s.data.toList=.range) (tp:TypeId) (p:Value) (w:World) (b:w.var? Tryz.prog "strconv.ErrRange"=some #[.iface tp p]):
  Calls Tryz.prog 139 #[.string s] w fun e w'=>∃N,e=.returned (.tuple #[.int .i64 (Lib.atoiSat s.data.toList),.iface 199 (.pointer (some ⟨N,0,none⟩))])/\w.heap.size<=N/\w'.heap[N]?=some (.cells #[.string ⟨#[65,116,111,105]⟩,.string s,.iface tp p] 214 (0,0))/\Below w.heap.size w w':=Any.strconv_Atoi_range_var Tryz.laysC172 s a h tp p w b
def Tryz.lays191_ren:Go.Shelf.Ren:=⟨fun|191=>153|189=>194|125=>214|257=>213|128=>237|129=>238|294=>228|295=>229|296=>230|297=>231|298=>232|299=>233|216=>234|300=>235|301=>236|328=>247|329=>248|330=>249|331=>250|332=>251|215=>252|343=>255|n=>n,fun|28=>43|0=>0|3=>3|46=>207|51=>229|53=>209|4=>4|183=>223|182=>222|131=>119|5=>5|9=>9|218=>244|222=>248|228=>250|229=>181|n=>n,fun|n=>n⟩
theorem Tryz.lays191:Go.Proofs.Lays.n191 Tryz.prog Tryz.lays191_ren:= {
 mixed:=by kernel_rfl
 f125:=Tryz.func214.trans (zav some (by kernel_rfl))
 f128:=Tryz.func237.trans (zav some (by kernel_rfl))
 f129:=Tryz.func238.trans (zav some (by kernel_rfl))
 f189:=Tryz.func194.trans (zav some (by kernel_rfl))
 f191:=Tryz.func153.trans (zav some (by kernel_rfl))
 f215:=Tryz.func252.trans (zav some (by kernel_rfl))
 f216:=Tryz.func234.trans (zav some (by kernel_rfl))
 f257:=Tryz.func213.trans (zav some (by kernel_rfl))
 f294:=Tryz.func228.trans (zav some (by kernel_rfl))
 f295:=Tryz.func229.trans (zav some (by kernel_rfl))
 f296:=Tryz.func230.trans (zav some (by kernel_rfl))
 f297:=Tryz.func231.trans (zav some (by kernel_rfl))
 f298:=Tryz.func232.trans (zav some (by kernel_rfl))
 f299:=Tryz.func233.trans (zav some (by kernel_rfl))
 f300:=Tryz.func235.trans (zav some (by kernel_rfl))
 f301:=Tryz.func236.trans (zav some (by kernel_rfl))
 f328:=Tryz.func247.trans (zav some (by kernel_rfl))
 f329:=Tryz.func248.trans (zav some (by kernel_rfl))
 f330:=Tryz.func249.trans (zav some (by kernel_rfl))
 f331:=Tryz.func250.trans (zav some (by kernel_rfl))
 f332:=Tryz.func251.trans (zav some (by kernel_rfl))
 f343:=Tryz.func255.trans (zav some (by kernel_rfl))
 t0:=Tryz.underlying0
 a0:=Tryz.isAgg0
 z0:=Tryz.sizeOf0
 v0:=Tryz.zeroValue0
 t3:=zcm
 a3:=Tryz.isAgg3
 z3:=Tryz.sizeOf3
 v3:=Tryz.zeroValue3
 t4:=zfu
 a4:=Tryz.isAgg4
 z4:=Tryz.sizeOf4
 v4:=Tryz.zeroValue4
 t5:=zft
 a5:=Tryz.isAgg5
 z5:=Tryz.sizeOf5
 v5:=Tryz.zeroValue5
 t9:=zdu
 a9:=Tryz.isAgg9
 z9:=Tryz.sizeOf9
 v9:=Tryz.zeroValue9
 t28:=za1
 a28:=Tryz.isAgg43
 z28:=Tryz.sizeOf43
 v28:=Tryz.zeroValue43
 t46:=Tryz.underlying207
 a46:=Tryz.isAgg207
 z46:=Tryz.sizeOf207
 v46:=Tryz.zeroValue207
 t51:=Tryz.underlying229
 a51:=Tryz.isAgg229
 z51:=Tryz.sizeOf229
 v51:=Tryz.zeroValue229
 t53:=Tryz.underlying209
 a53:=Tryz.isAgg209
 z53:=Tryz.sizeOf209
 v53:=Tryz.zeroValue209
 t131:=Tryz.underlying119
 a131:=Tryz.isAgg119
 z131:=Tryz.sizeOf119
 v131:=Tryz.zeroValue119
 t182:=Tryz.underlying222
 a182:=Tryz.isAgg222
 z182:=Tryz.sizeOf222
 v182:=Tryz.zeroValue222
 t183:=Tryz.underlying223
 a183:=Tryz.isAgg223
 z183:=Tryz.sizeOf223
 v183:=Tryz.zeroValue223
 t218:=Tryz.underlying244
 a218:=Tryz.isAgg244
 z218:=Tryz.sizeOf244
 v218:=Tryz.zeroValue244
 t222:=Tryz.underlying248
 a222:=Tryz.isAgg248
 z222:=Tryz.sizeOf248
 v222:=Tryz.zeroValue248
 t228:=Tryz.underlying250
 a228:=Tryz.isAgg250
 z228:=Tryz.sizeOf250
 v228:=Tryz.zeroValue250
 t229:=Tryz.underlying181
 a229:=Tryz.isAgg181
 z229:=Tryz.sizeOf181
 v229:=Tryz.zeroValue181 }
open Go.Sort Go.RowKit in
theorem Tryz.sort_Ints (a b c:Nat) (f:List Int) (w:World) (h:Holds (Value.int .i64) w a b f.toArray) (d:a<w.heap.size) (g:f.length<4611686018427387904):
  Calls Tryz.prog 153 #[.slice (some ⟨a,b,none⟩) f.length c] w fun e w'=>
   e=.returned (.tuple #[])/\∃n os,w'=grow (putRow (Value.int .i64) (Sort.ahead w n) a b (f.mergeSort fun x y=>decide (x<=y)).toArray) os:=Any.sort_Ints Tryz.lays191 a b c f w h d g
def Tryz.lays221_ren:Go.Shelf.Ren:=⟨fun|221=>138|268=>185|138=>186|143=>187|195=>202|197=>203|218=>204|219=>205|260=>216|217=>217|225=>218|224=>219|267=>220|266=>239|314=>240|n=>n,fun|9=>9|3=>3|31=>117|4=>4|0=>0|105=>193|21=>21|5=>5|46=>207|119=>230|139=>233|138=>232|146=>234|51=>229|n=>n,fun|1=>0|3=>3|4=>4|n=>n⟩
def Tryz.lays146_ren:Go.Shelf.Ren:=⟨fun|146=>80|221=>138|268=>185|138=>186|143=>187|195=>202|197=>203|218=>204|219=>205|260=>216|217=>217|225=>218|224=>219|267=>220|266=>239|314=>240|n=>n,fun|9=>9|31=>117|3=>3|4=>4|0=>0|105=>193|21=>21|5=>5|46=>207|119=>230|139=>233|138=>232|146=>234|51=>229|n=>n,fun|1=>0|3=>3|4=>4|n=>n⟩
theorem Tryz.lays146:Go.Proofs.Lays.n146 Tryz.prog Tryz.lays146_ren:= {
 mixed:=by kernel_rfl
 f138:=Tryz.func186.trans (zav some (by kernel_rfl))
 f143:=Tryz.func187.trans (zav some (by kernel_rfl))
 f146:=Tryz.func80.trans (zav some (by kernel_rfl))
 f195:=Tryz.func202.trans (zav some (by kernel_rfl))
 f197:=Tryz.func203.trans (zav some (by kernel_rfl))
 f217:=Tryz.func217.trans (zav some (by kernel_rfl))
 f218:=Tryz.func204.trans (zav some (by kernel_rfl))
 f219:=Tryz.func205.trans (zav some (by kernel_rfl))
 f221:=Tryz.func138.trans (zav some (by kernel_rfl))
 f224:=Tryz.func219.trans (zav some (by kernel_rfl))
 f225:=Tryz.func218.trans (zav some (by kernel_rfl))
 f260:=Tryz.func216.trans (zav some (by kernel_rfl))
 f266:=Tryz.func239.trans (zav some (by kernel_rfl))
 f267:=Tryz.func220.trans (zav some (by kernel_rfl))
 f268:=Tryz.func185.trans (zav some (by kernel_rfl))
 f314:=Tryz.func240.trans (zav some (by kernel_rfl))
 t0:=Tryz.underlying0
 a0:=Tryz.isAgg0
 z0:=Tryz.sizeOf0
 v0:=Tryz.zeroValue0
 t3:=zcm
 a3:=Tryz.isAgg3
 z3:=Tryz.sizeOf3
 v3:=Tryz.zeroValue3
 t4:=zfu
 a4:=Tryz.isAgg4
 z4:=Tryz.sizeOf4
 v4:=Tryz.zeroValue4
 t5:=zft
 a5:=Tryz.isAgg5
 z5:=Tryz.sizeOf5
 v5:=Tryz.zeroValue5
 t9:=zdu
 a9:=Tryz.isAgg9
 z9:=Tryz.sizeOf9
 v9:=Tryz.zeroValue9
 t21:=Tryz.underlying21
 a21:=Tryz.isAgg21
 z21:=Tryz.sizeOf21
 v21:=Tryz.zeroValue21
 t31:=Tryz.underlying117
 a31:=Tryz.isAgg117
 z31:=Tryz.sizeOf117
 v31:=Tryz.zeroValue117
 t46:=Tryz.underlying207
 a46:=Tryz.isAgg207
 z46:=Tryz.sizeOf207
 v46:=Tryz.zeroValue207
 t51:=Tryz.underlying229
 a51:=Tryz.isAgg229
 z51:=Tryz.sizeOf229
 v51:=Tryz.zeroValue229
 t105:=Tryz.underlying193
 a105:=Tryz.isAgg193
 z105:=Tryz.sizeOf193
 v105:=Tryz.zeroValue193
 t119:=Tryz.underlying230
 a119:=Tryz.isAgg230
 z119:=Tryz.sizeOf230
 t138:=Tryz.underlying232
 a138:=Tryz.isAgg232
 z138:=Tryz.sizeOf232
 v138:=Tryz.zeroValue232
 t139:=Tryz.underlying233
 a139:=Tryz.isAgg233
 z139:=Tryz.sizeOf233
 v139:=Tryz.zeroValue233
 t146:=Tryz.underlying234
 a146:=Tryz.isAgg234
 z146:=Tryz.sizeOf234
 v146:=Tryz.zeroValue234
 g1:=by kernel_rfl
 g3:=by kernel_rfl
 g4:=by kernel_rfl }
open Go.RowKit Go.Lib in
theorem Tryz.strings_Split (s sep:ByteArray) (m:Int) (w:World) (c:s.size<4294967281) (b:w.cell? ⟨0,0,none⟩=some (.int .i64 m)) (a:1<=sep.size):
  Calls Tryz.prog 80 #[.string s,.string sep] w fun e w'=>
   e=.returned (.slice (some ⟨w.heap.size,0,none⟩) (Lib.countB s sep+1) (Lib.countB s sep+1))/\w'=w.alloc (.cells ((Lib.splitB sep 0 (Lib.countB s sep) s).map Value.string).toArray 9):=Any.strings_Split Tryz.lays146 (by kernel_rfl) s sep m w c b a
open Go.RowKit Go.Sort in
theorem Tryz.sort_Ints_none (p:Option Addr) (a:Nat) (w:World):
  Calls Tryz.prog 153 #[.slice p 0 a] w fun e w'=>e=.returned (.tuple #[])/\w'=w:=Any.sort_Ints_none Tryz.lays191 p a w
end Go.Proofs
namespace Go.Proofs.YtfnmkbpogbekpaaGreatDoor
open Go.RowKit
theorem qg {a b:Bool} (h:a=b):Ending.returned (.bool a)=.returned (.bool b):=by rw[h]
theorem q11 {k:IntKind} {a b:Int} (h:a=b):Ending.returned (.int k a)=.returned (.int k b):=by rw[h]
theorem qd6 {a b:ByteArray} (h:a=b):Ending.returned (.string a)=.returned (.string b):=by rw[h]
def Bl (w:World) (v:Value) (e:Ending) (w':World):Prop:=e=.returned v/\Below w.heap.size w w'
def Drawn (w wr:World):Prop:=∃z,wr=w.drewN z
theorem Drawn.zero (w:World):Drawn w w:=⟨0,rfl⟩
theorem Drawn.at_ (w:World) (z:Nat):Drawn w (w.drewN z):=⟨z,rfl⟩
theorem Drawn.more {w wr:World} (h:Drawn w wr) (m:Nat):Drawn w (wr.drewN m):=by
 obtain⟨z,rfl⟩:=h;exact⟨z+m,World.drewN_drewN ..⟩
def Qt (w:World) (v:Value) (e:Ending) (w':World):Prop:=e=.returned v/\Drawn w w'
theorem q1f {P:Program} {f:FuncId} {b:Array Value} {w:World} {a n:Nat} {v:Value}
  (h:Calls P f b (w.drewN (a+n)) (Qt (w.drewN (a+n)) v)):Calls P f b (w.drewN (a+n)) fun e w''=>e=.returned v/\∃m,w''=w.drewN (a+m):=
 h.mono fun _ _ ⟨c,m,d⟩=>⟨c,n+m,by rw[d,World.drewN_drewN,Nat.add_assoc]⟩
theorem q1o {P:Program} {f:FuncId} {a:Array Value} {w:World} {n:Nat} {v:Value}
  (h:Calls P f a (w.drewN n) (Qt (w.drewN n) v)):Calls P f a (w.drewN n) fun e w''=>e=.returned v/\∃m,w''=w.drewN m:=
 h.mono fun _ _ ⟨b,m,c⟩=>⟨b,n+m,by rw[c,World.drewN_drewN]⟩
theorem q2b {P:Program} {f:FuncId} {a:Array Value} {w:World} {v:Value} (h:Calls P f a w fun e w'=>e=.returned v/\w=w'):Calls P f a w (Qt w v):=
 h.mono fun _ _ ⟨b,c⟩=>⟨b,0,c.symm⟩
theorem Qt.bl {w w':World} {v:Value} {e:Ending} (h:Qt w v e w'):Bl w v e w':=by
 obtain⟨a,n,rfl⟩:=h;exact⟨a,⟨rfl,rfl,rfl,zad _,fun _ _=>rfl⟩⟩
theorem q1n {P:Program} {f:FuncId} {a:Array Value} {w:World} {v:Value} (h:Calls P f a w (Qt w v)):Calls P f a w (Bl w v):=h.mono fun _ _ h=>h.bl
theorem q9 {B:Nat} {w a b:World} (h:Below B w a) (k:Below a.heap.size a b) (c:B=w.heap.size):Below B w b:=
 h.trans (k.mono (by rw[c];exact h.size))
theorem qc {B:Nat} {a w:World} (h:Below B a w) (k:Nat):Below B a (w.drewN k):=⟨h.os,h.tape,h.output,h.size,h.block⟩
theorem qm (w:World) (o:Obj):Below w.heap.size w (w.alloc o):=(zac _ _).alloc (zad _) _
theorem q6t (w:World) (o a:Obj):Below w.heap.size w ((w.alloc o).alloc a):=(qm w o).alloc (by simp) _
theorem qbh (w:World) (o a b:Obj):Below w.heap.size w (((w.alloc o).alloc a).alloc b):=(q6t w o a).alloc (by simp;omega) _
def Blk (w:World) (g:Nat) (t:TypeId) (cs:Array Value):Prop:=w.heap[g]?=some (.cells cs t (0,0))
section
variable {w w':World} {g:Nat} {t:TypeId} {cs:Array Value}
theorem Blk.lt (h:Blk w g t cs):g<w.heap.size:=by
 rcases zc9 g w.heap.size with b|a
 .exact b
 .unfold Blk at h;rw[Array.getElem?_eq_none a]at h;cases h
theorem Blk.cell (h:Blk w g t cs) (i:Nat):w.cell? ⟨g,i,none⟩=cs[i]?:=cell_of_row w g i cs t (0,0) h
theorem Blk.frozen (h:Blk w g t cs) (i:Nat):w.frozen? ⟨g,i,none⟩=false:=by
 unfold Blk at h;simp[World.frozen?,h]
theorem Blk.new (w:World) (t:TypeId) (cs:Array Value):Blk (w.alloc (.cells cs t)) w.heap.size t cs:=heap_alloc_new w _
theorem Blk.drew (h:Blk w g t cs):Blk w.drew g t cs:=h
theorem Blk.drewN (h:Blk w g t cs) (n:Nat):Blk (w.drewN n) g t cs:=h
theorem Blk.alloc (h:Blk w g t cs) (o:Obj):Blk (w.alloc o) g t cs:=(Below.heap_alloc w o g h.lt).trans h
theorem Blk.set_ (h:Blk w g t cs) (i:Nat) (u:Value):Blk (w.setCell ⟨g,i,none⟩ u) g t (cs.setIfInBounds i u):=by
 unfold Blk at h⊢;simp[World.setCell,Array.getElem?_modify,h]
theorem Blk.far (h:Blk w g t cs) {p:Addr} (a:g≠p.block) (u:Value):Blk (w.setCell p u) g t cs:=(za8 w p u g a).trans h
theorem Blk.below {B:Nat} (h:Blk w g t cs) (a:Below B w w') (b:g<B):Blk w' g t cs:=(a.block g b).trans h
theorem Blk.next (h:Blk w g t cs) (a:Below w.heap.size w w'):Blk w' g t cs:=h.below a h.lt
theorem Blk.grown {a:Option Nat} (h:Blk w g t cs) (b:w.grownBy w' a) (c:some g≠a):Blk w' g t cs:=(b.block g h.lt c).trans h
end
def bs (s:ByteArray):List UInt8:=s.data.toList
theorem qbj {a b:ByteArray} (h:bs a=bs b):a=b:=by
 obtain⟨⟨a⟩⟩:=a;obtain⟨⟨b⟩⟩:=b;simp only[bs]at h;rw[h]
theorem bf2 {b:Bool} (h:(!b)=true):b=false:=by simpa using h
theorem bt2 {b:Bool} (h:(!b)=false):b=true:=by simpa using h
theorem nef {x y:Int} (h:(x !=y)=true):(x==y)=false:=by simpa using h
theorem net {x y:Int} (h:(x !=y)=false):(x==y)=true:=by simpa using h
theorem eqc {x y:Int} {b:Bool} (h:(y==x)=b):(x==y)=b:=by rw[<-h];exact Bool.beq_comm
theorem nefc {x y:Int} (h:(y !=x)=true):(x==y)=false:=eqc (nef h)
theorem netc {x y:Int} (h:(y !=x)=false):(x==y)=true:=eqc (net h)
def RdL {α:Type} (R:World->Value->α->Prop) (w:World) (A:Option Addr) (n:Nat) (xs:List α):Prop:=
 xs.length=n/\n<=maxLen/\∀k x,xs[k]?=some x->∃b o v,A=some ⟨b,o,none⟩/\w.cell? ⟨b,o+k,none⟩=some v/\R w v x
theorem q50 {w:World} {p:Addr} {v:Value} (h:w.cell? p=some v):p.block<w.heap.size:=by
 rcases zc9 p.block w.heap.size with b|a
 .exact b
 .exfalso
  have:w.heap[p.block]?=none:=Array.getElem?_eq_none a;simp[World.cell?,this]at h
def RI (_:World) (v:Value) (x:Int):Prop:=v=.int .i64 x/\ -9223372036854775808<=x/\x<=9223372036854775807
def RB (_:World) (v:Value) (x:Bool):Prop:=v=.bool x
def RS (_:World) (v:Value) (x:ByteArray):Prop:=v=.string x/\x.size<=maxLen
def RV {α:Type} (R:World->Value->α->Prop) (w:World) (v:Value) (xs:List α):Prop:=∃A n c,v=.slice A n c/\RdL R w A n xs
def Stab {α:Type} (R:World->Value->α->Prop):Prop:=∀w w' v x,(∀b,b<w.heap.size->w'.heap[b]?=w.heap[b]?)->R w v x->R w' v x
theorem qd:Stab RI:=fun _ _ _ _ _ h=>h
theorem qax:Stab RB:=fun _ _ _ _ _ h=>h
section
variable {α:Type} {R:World->Value->α->Prop} {w w':World} {A:Option Addr} {n:Nat} {xs:List α}
theorem RdL.same (d:Stab R) (h:RdL R w A n xs) (a:∀b,b<w.heap.size->w'.heap[b]?=w.heap[b]?):RdL R w' A n xs:=
 ⟨h.1, h.2.1, fun k x f => by
   obtain ⟨b, o, v, e, c, g⟩ := h.2.2 k x f
   exact ⟨b, o, v, e, (zb6 (w := w) (a b (q50 c))).trans c, d _ _ _ _ a g⟩⟩
theorem RdL.next (a:Stab R) (h:RdL R w A n xs) (b:Below w.heap.size w w'):RdL R w' A n xs:=h.same a b.block
theorem RdL.drewN (h:RdL R w A n xs) (a:Stab R) (k:Nat):RdL R (w.drewN k) A n xs:=h.same a fun _ _=>rfl
theorem RdL.len (h:RdL R w A n xs):xs.length=n:=h.1
theorem RdL.le (h:RdL R w A n xs):n<=9223372036854775807:=by have:=h.2.1;unfold maxLen at this;omega
theorem RdL.nil (R:World->Value->α->Prop) (w:World) (A:Option Addr):RdL R w A 0 []:=⟨rfl,zah _,fun k x a=>by simp at a⟩
theorem qr5 (a:Stab R):Stab (RV R):=fun _ _ _ _ b ⟨A,n,c,e,h⟩=>⟨A,n,c,e,h.same a b⟩
theorem RdL.at (h:RdL R w A n xs) {k:Nat} (d:k<n):∃b o v x,A=some ⟨b,o,none⟩/\w.cell? ⟨b,o+k,none⟩=some v/\R w v x/\xs.drop k=x::xs.drop (k+1)/\xs[k]?=some x:=by
 have a:k<xs.length:=by rw[h.1];exact d
 obtain⟨b,o,v,e,c,f⟩:=h.2.2 k _ (zae a);exact⟨b,o,v,xs[k],e,c,f,zbq a,zae a⟩
theorem RdL.at' {b o:Nat} (h:RdL R w (some ⟨b,o,none⟩) n xs) {k:Nat} (a:k<n):∃v x,w.cell? ⟨b,o+k,none⟩=some v/\R w v x/\xs.drop k=x::xs.drop (k+1)/\xs[k]?=some x:=by
 obtain⟨c,d,v,x,e,r⟩:=h.at a;simp only[zc5,Addr.mk.injEq,and_true]at e;obtain⟨rfl,rfl⟩:=e;exact⟨v,x,r⟩
theorem RdL.drop_end (h:RdL R w A n xs) {k:Nat} (a:¬k<n):xs.drop k= []:=zbk (by rw[h.1];omega)
theorem RdL.ofOwn {base:Nat} {e:TypeId} {v:Value} {i:List Value} (p:n<=maxLen) (h:w.ownsRow base e 1 v n i) (f:xs.length=n) (r:∀(k:Nat) x,xs[k]?=some x->∃u,i[k]?=some u/\R w u x):
  ∃A c,v=.slice A n c/\RdL R w A n xs:=by
 rcases h.2 with⟨rfl,rfl⟩|⟨g,a,j,rfl,t,y,q,l,m,z⟩
 .have:xs= []:=zdi f
  subst this;exact⟨none,0,rfl,RdL.nil _ _ _⟩
 .refine⟨_,a,rfl,f,p,fun k x d=>?_⟩
  obtain⟨u,s,b⟩:=r k x d;refine⟨g,0,u,rfl,?_,b⟩;have o:k<n:=by have:=(zag.1 d).1;omega
  have:=h.cellAt k (by omega);rw[zcn,this];exact s
end
def q7c (vs:List Value) (z:Value) (n k:Nat):List Value:=vs.take k++List.replicate (n - k) z
theorem qfu (a:List Value) (z:Value) (n:Nat):q7c a z n 0=List.replicate n z:=by simp[q7c]
theorem qiz {a:List Value} (z:Value) {n k:Nat} (c:a.length=n) (b:¬k<n):q7c a z n k=a:=by
 have h:n - k=0:=by omega
 simp only[q7c,h,List.replicate_zero,zc3];exact zar (by omega)
theorem qj0 {a:List Value} {z:Value} {n k:Nat} (d:a.length=n) (c:k<n):(q7c a z n k)[k]?=some z:=by
 have b:(a.take k).length=k:=by rw[za9];omega
 unfold q7c;rw[zbc (by omega),b,zda,List.getElem?_replicate,zam (by omega)]
theorem qj1 {a:List Value} {z v:Value} {n k:Nat} (f:a.length=n) (e:k<n) (d:a[k]?=some v):(q7c a z n k).set k v=q7c a z n (k+1):=by
 have b:(a.take k).length=k:=by rw[za9];omega
 unfold q7c;rw[zdz _ _ (by omega),b,zda];have c:n - k=(n - (k+1))+1:=by omega
 rw[c,List.replicate_succ,List.set_cons_zero,zbp,d];simp
section
variable {w w':World} {base:Nat} {e:TypeId} {size:Nat} {v:Value} {n:Nat} {xs:List Value}
theorem q2p (h:w.ownsRow base e size v n xs) (j:∀b,v.ownBlock=some b->w'.heap[b]?=w.heap[b]?):w'.ownsRow base e size v n xs:=by
 obtain⟨i,d⟩:=h;refine⟨i,?_⟩
 rcases d with d|⟨g,a,c,f,k,l,r⟩
 .exact Or.inl d
 .exact zew ⟨g,a,c,f,k,by rw[j g (by rw[f];rfl)];exact l,r⟩
theorem qp (h:w.ownsRow base e size v n xs) (a:Below w.heap.size w w'):w'.ownsRow base e size v n xs:=
 q2p h fun b c=>a.block b (h.lt b c).2
theorem ql {base':Nat} (h:w.ownsRow base e size v n xs) (i:base'<=base):w.ownsRow base' e size v n xs:=by
 obtain⟨d,c⟩:=h;refine⟨d,?_⟩
 rcases c with c|⟨g,a,b,f,j,r⟩
 .exact Or.inl c
 .exact zew ⟨g,a,b,f,by omega,r⟩
theorem q5w (h:w.ownsRow base e size v n xs) {p:Addr} (c:v.ownBlock≠some p.block) (u:Value):(w.setCell p u).ownsRow base e size v n xs:=
 q2p h fun b d=>za8 w p u b (fun a=>c (by rw[d,a]))
end
theorem q12 {α:Type} {R:World->Value->α->Prop} {f:α->Value} {w:World} {base:Nat} {e:TypeId} {A:Option Addr} {n c:Nat} {xs:List α} (h:w.ownsRow base e 1 (.slice A n c) n (xs.map f))
  (i:∀x∈xs,R w (f x) x):RdL R w A n xs:=by
 have j:xs.length=n:=by have:=h.1;simpa using this
 have l:n<=maxLen:=by
  rcases h.2 with⟨_,q⟩|⟨g,b,d,_,_,_,r,s,_⟩
  .omega
  .omega
 obtain⟨o,p,e',m⟩:=RdL.ofOwn (R:=R) (xs:=xs) l h j (fun k x a=>⟨f x,by simp[a],i x (zaf a)⟩);injection e' with e1 e2 e3
 rw[e1];exact m
theorem qu {w:World} {base:Nat} {e:TypeId} {size:Nat} {v:Value} {n:Nat} {xs:List Value} (h:w.ownsRow base e size v n xs):∃A c,v=.slice A n c:=by
 rcases h.2 with⟨rfl,rfl⟩|⟨g,a,b,rfl,_⟩
 .exact⟨none,0,rfl⟩
 .exact⟨_,a,rfl⟩
def At {α β:Type} (f:List α->β) (xs:List α) (k:Nat):Prop:=f (xs.drop k)=f xs
section
variable {α β:Type} {f:List α->β} {xs:List α} {k:Nat} {x:α} {r:β}
theorem At.start (f:List α->β) (xs:List α):At f xs 0:=rfl
theorem At.step (h:At f xs k) (hd:xs.drop k=x::xs.drop (k+1)) (a:f (x::xs.drop (k+1))=f (xs.drop (k+1))):At f xs (k+1):=by
 unfold At at*;rw[<-h,hd,a]
theorem At.stop (h:At f xs k) (hd:xs.drop k=x::xs.drop (k+1)) (a:f (x::xs.drop (k+1))=r):r=f xs:=by
 unfold At at*;rw[<-h,hd,a]
theorem At.done (h:At f xs k) (hd:xs.drop k= []) (a:f []=r):r=f xs:=by
 unfold At at*;rw[<-h,hd,a]
end
def At2 {α β γ:Type} (f:List α->List γ->β) (xs:List α) (ys:List γ) (k:Nat):Prop:=f (xs.drop k) (ys.drop k)=f xs ys
section
variable {α β γ:Type} {f:List α->List γ->β} {xs:List α} {ys:List γ} {k:Nat} {x:α} {y:γ} {r:β}
theorem At2.step (h:At2 f xs ys k) (hd:xs.drop k=x::xs.drop (k+1)) (a:ys.drop k=y::ys.drop (k+1)) (b:f (x::xs.drop (k+1)) (y::ys.drop (k+1))=f (xs.drop (k+1)) (ys.drop (k+1))):At2 f xs ys (k+1):=by
 unfold At2 at*;rw[<-h,hd,a,b]
theorem At2.stop (h:At2 f xs ys k) (hd:xs.drop k=x::xs.drop (k+1)) (a:ys.drop k=y::ys.drop (k+1)) (b:f (x::xs.drop (k+1)) (y::ys.drop (k+1))=r):r=f xs ys:=by
 unfold At2 at*;rw[<-h,hd,a,b]
theorem At2.done (h:At2 f xs ys k) {l:List α} {m:List γ} (hd:xs.drop k=l) (a:ys.drop k=m) (b:f l m=r):r=f xs ys:=by
 unfold At2 at*;rw[<-h,hd,a,b]
end
def Acc {α γ:Type} (f:List α->List γ) (xs:List α) (k:Nat) (acc:List γ):Prop:=acc++f (xs.drop k)=f xs
section
variable {α γ:Type} {f:List α->List γ} {xs:List α} {k:Nat} {x:α} {y:γ} {acc:List γ}
theorem Acc.keep (h:Acc f xs k acc) (hd:xs.drop k=x::xs.drop (k+1)) (a:f (x::xs.drop (k+1))=y::f (xs.drop (k+1))):Acc f xs (k+1) (acc++ [y]):=by
 unfold Acc at*;rw[<-h,hd,a];simp
theorem Acc.skip (h:Acc f xs k acc) (hd:xs.drop k=x::xs.drop (k+1)) (a:f (x::xs.drop (k+1))=f (xs.drop (k+1))):Acc f xs (k+1) acc:=by
 unfold Acc at*;rw[<-h,hd,a]
theorem Acc.done (h:Acc f xs k acc) (hd:xs.drop k= []) (a:f []= []):acc=f xs:=by
 unfold Acc at*;rw[<-h,hd,a];simp
end
theorem qn1 {P:Program} (w0:World) {o:Oper} {a:Act} {K:Act->World->Prop} {Q:Exit->Act->World->Prop} (s x:Operand) (t e:TypeId)
  (E:o.op=.call { callee:=.builtin .append,args:= #[s,x],argTypes:= #[t,t] }) (z:Value) (bytes:Nat)
  (G:P.underlying t=some (.slice e)) (hi:(P.info? e).map (fun i=>(i.zero,i.size,i.bytes))=some (some z,1,bytes)) (y:z.cells.size=1) (p:bytes<=64)
  (base n c:Nat) (A:Option Addr) (xs:List Value) (F:a.eval s=.slice A n c) (g:w0.ownsRow base e 1 (.slice A n c) n xs) (u:Value) (D:u.oneCell'=true) (H:a.eval x=.slice (some ⟨w0.heap.size,0,none⟩) 1 1)
  (J:n<=1099511627776) (h:base<=w0.heap.size)
  (hK:∀A' c' w',w'.ownsRow base e 1 (.slice A' (n+1) c') (n+1) (xs++ [u])->w0.grownBy w' (Value.slice A n c).ownBlock->Below base w0 w'->K (a.put o.dst (.slice A' (n+1) c')) w'):
  o.wp P a (w0.alloc (.cells #[u] e)) K Q:=by
 obtain⟨i,hi,I,l,q⟩:=info_parts hi;have f:(n+1)*bytes<=140737488355328:=za7 (zem (n+1) p) (by omega);refine wp_append_own (w0.alloc (.cells #[u] e)) s x t E base e i z 1 bytes G hi I l q y (by omega) (.slice A n c) n xs F (g.alloc _) ⟨w0.heap.size,0,none⟩ 1 1 [u] H rfl ?_ ?_ (by unfold maxLen;omega) f (by simp;omega) ?_
 .intro j v m
  match j,m with
  |0,m=>simp at m;subst m;simp[Addr.add]
 .intro v C;simp at C;subst C;exact D
 .intro L w' d b _
  obtain⟨A',c',rfl⟩:=qu d;have B:w0.grownBy w' (Value.slice A n c).ownBlock:=
   ⟨b.os,b.tape,b.output,za7 (by simp) b.size,fun k r w=>(b.block k (by simp;omega) w).trans (Below.heap_alloc w0 _ k r)⟩
  exact hK A' c' w' d B ((zac base w0).grown B h (fun k r=>(g.lt k r).1))
theorem q8u {P:Program} (w:World) (base:Nat) (t j e:TypeId) (i:TypeInfo) (size:Nat) (d:P.underlying t=some (.slice e)) (hi:P.info? e=some i)
  (v:Value) (n:Nat) (xs:List Value) (a:w.ownsRow base e size v n xs) (c:Nat):(Builtin.append_ #[t,t] j #[v,.slice none 0 c]).run P w=.ok v w:=by
 rcases a.2 with⟨rfl,rfl⟩|⟨g,f,h,rfl,_,_,b,_⟩
 .simp[Builtin.append_,run_underlying d,sizeOf,typeInfo,hi,Builtin.lenOf,Builtin.firstCells]
 .simp[Builtin.append_,run_underlying d,sizeOf,typeInfo,hi,Builtin.lenOf,Builtin.firstCells,b,storeCells]
theorem qfj {P:Program} {α:Type} {R:World->Value->α->Prop} (w:World) {o:Oper} {a:Act} {K:Act->World->Prop} {Q:Exit->Act->World->Prop} (s x:Operand) (t e:TypeId)
  (S:o.op=.call { callee:=.builtin .append,args:= #[s,x],argTypes:= #[t,t] }) (z:Value) (bytes:Nat)
  (U:P.underlying t=some (.slice e)) (hi:(P.info? e).map (fun i=>(i.zero,i.size,i.bytes))=some (some z,1,bytes)) (M:z.cells.size=1) (H:bytes<=64)
  (base n c:Nat) (A:Option Addr) (G:List Value) (T:a.eval s=.slice A n c) (g:w.ownsRow base e 1 (.slice A n c) n G)
  (B:Option Addr) (m d:Nat) (xs:List α) (f:α->Value) (Y:∀x,(f x).oneCell'=true) (W:a.eval x=.slice B m d) (F:RdL R w B m xs) (hf:∀w v x,R w v x->v=f x)
  (hn:n+m<=1099511627776) (l:base<=w.heap.size)
  (hK:∀A' c' w',w'.ownsRow base e 1 (.slice A' (n+m) c') (n+m) (G++xs.map f)->w.grownBy w' (Value.slice A n c).ownBlock->Below base w w'->K (a.put o.dst (.slice A' (n+m) c')) w'):
  o.wp P a w K Q:=by
 obtain⟨i,hi,hz,C,I⟩:=info_parts hi;have r:(n+m)*bytes<=140737488355328:=za7 (zem (n+m) H) (by omega)
 rcases B with _|N
 .have hm:m=0:=by
   rcases zdb m with D|D
   .exact D
   .obtain⟨b,o,v,x,h,_⟩:=F.at D
    cases h
  subst hm;have L:xs= []:=zdi F.1;subst L;have E:=q8u (P:=P) w base t o.type e i 1 U hi _ n G g d;unfold Oper.wp execOp;simp only[S,resolve,invoke,builtin,Sem.run_bind,Sem.run_pure,Result.andThen_ok,List.map_toArray,zcz,List.map_nil,T,W,E];exact hK A c w (by simpa using g) (World.grownBy.refl w _) (zac _ _)
 .refine wp_append_own w s x t S base e i z 1 bytes U hi hz C I M (by omega) (.slice A n c) n G T g N m d (xs.map f) W (by simp[F.1]) ?_ ?_ (by unfold maxLen;omega) r l ?_
  .intro j u V
   rw[za2]at V;obtain⟨y,hy,rfl⟩:=Option.map_eq_some_iff.1 V;obtain⟨b,o,v,e',O,J⟩:=F.2.2 j y hy;have Z:N=⟨b,o,none⟩:=by injection e'
   subst Z;rw[hf _ _ _ J]at O;have X:(⟨b,o,none⟩:Addr).add j=⟨b,o+j,none⟩:=by
    unfold Addr.add
    split
    .rename_i D;subst D;rfl
    .rfl
   rw[X];exact O
  .intro v J
   obtain⟨y,-,rfl⟩:=zbe.1 J;exact Y y
  .intro v' w' q p _
   obtain⟨A',c',rfl⟩:=qu q;exact hK A' c' w' q p ((zac base w).grown p l (fun k hk=>(g.lt k hk).1))
theorem app1 {P:Program} (w0:World) {ops:Array Oper} {b:List Oper} {o:Oper} {a:Act} {Q:Exit->Act->World->Prop} (j:o.guard=none) (s x:Operand) (t e:TypeId)
  (v:o.op=.call { callee:=.builtin .append,args:= #[s,x],argTypes:= #[t,t] }) (z:Value) (bytes:Nat)
  (y:P.underlying t=some (.slice e)) (hi:(P.info? e).map (fun i=>(i.zero,i.size,i.bytes))=some (some z,1,bytes)) (k:z.cells.size=1) (h:bytes<=64)
  (base n c:Nat) (A:Option Addr) (xs:List Value) (w:a.eval s=.slice A n c) (f:w0.ownsRow base e 1 (.slice A n c) n xs) (u:Value) (l:u.oneCell'=true) (B:a.eval x=.slice (some ⟨w0.heap.size,0,none⟩) 1 1)
  (r:n<=1099511627776) (d:base<=w0.heap.size)
  (hK:∀A' c' w',w'.ownsRow base e 1 (.slice A' (n+1) c') (n+1) (xs++ [u])->w0.grownBy w' (Value.slice A n c).ownBlock->Below base w0 w'->wpList P ops Q b (a.put o.dst (.slice A' (n+1) c')) w'):
  wpList P ops Q (o::b) a (w0.alloc (.cells #[u] e)):=
 wpList_plain j fun _ g=>qn1 w0 s x t e v z bytes y hi k h base n c A xs w f u l B r d fun A' c' w' m p q=>g _ _ (hK A' c' w' m p q)
theorem qmm {P:Program} (w0:World) {ops:Array Oper} {o:Oper} {a:Act} {K:Act->World->Prop} {Q:Exit->Act->World->Prop} {E:Prop} (g:o.guard=none) (s x:Operand) (t e:TypeId)
  (l:o.op=.call { callee:=.builtin .append,args:= #[s,x],argTypes:= #[t,t] }) (z:Value) (bytes:Nat)
  (p:P.underlying t=some (.slice e)) (hi:(P.info? e).map (fun i=>(i.zero,i.size,i.bytes))=some (some z,1,bytes)) (h:z.cells.size=1) (f:bytes<=64)
  (base n c:Nat) (A:Option Addr) (xs:List Value) (m:a.eval s=.slice A n c) (d:w0.ownsRow base e 1 (.slice A n c) n xs) (u:Value) (j:u.oneCell'=true) (r:a.eval x=.slice (some ⟨w0.heap.size,0,none⟩) 1 1)
  (k:n<=1099511627776) (b:base<=w0.heap.size)
  (hK:∀A' c' w',w'.ownsRow base e 1 (.slice A' (n+1) c') (n+1) (xs++ [u])->w0.grownBy w' (Value.slice A n c).ownBlock->Below base w0 w'->K (a.put o.dst (.slice A' (n+1) c')) w'):
  if Region.wanted o (yielded ops a.tmps)=true then Oper.wp P o a (w0.alloc (.cells #[u] e)) K Q else E:=by
 have q:Region.wanted o (yielded ops a.tmps)=true:=by simp[Region.wanted,g]
 rw[zam q];exact qn1 w0 s x t e l z bytes p hi h f base n c A xs m d u j r k b hK
theorem qk7 {P:Program} {α:Type} {R:World->Value->α->Prop} (w:World) {ops:Array Oper} {b:List Oper} {o:Oper} {a:Act} {Q:Exit->Act->World->Prop} (l:o.guard=none) (s x:Operand) (t e:TypeId)
  (F:o.op=.call { callee:=.builtin .append,args:= #[s,x],argTypes:= #[t,t] }) (z:Value) (bytes:Nat)
  (I:P.underlying t=some (.slice e)) (hi:(P.info? e).map (fun i=>(i.zero,i.size,i.bytes))=some (some z,1,bytes)) (p:z.cells.size=1) (k:bytes<=64)
  (base n c:Nat) (A:Option Addr) (q:List Value) (H:a.eval s=.slice A n c) (h:w.ownsRow base e 1 (.slice A n c) n q)
  (B:Option Addr) (m d:Nat) (xs:List α) (f:α->Value) (r:∀x,(f x).oneCell'=true) (J:a.eval x=.slice B m d) (G:RdL R w B m xs) (D:∀w v x,R w v x->v=f x)
  (E:n+m<=1099511627776) (g:base<=w.heap.size)
  (hK:∀A' c' w',w'.ownsRow base e 1 (.slice A' (n+m) c') (n+m) (q++xs.map f)->w.grownBy w' (Value.slice A n c).ownBlock->Below base w w'->wpList P ops Q b (a.put o.dst (.slice A' (n+m) c')) w'):
  wpList P ops Q (o::b) a w:=
 wpList_plain l fun _ j=>qfj w s x t e F z bytes I hi p k base n c A q H h B m d xs f r J G D E g fun A' c' w' u y C=>j _ _ (hK A' c' w' u y C)
theorem q1b {P:Program} {α:Type} {R:World->Value->α->Prop} (w:World) {ops:Array Oper} {o:Oper} {a:Act} {K:Act->World->Prop} {Q:Exit->Act->World->Prop} {E:Prop} (j:o.guard=none) (s x:Operand) (t e:TypeId)
  (u:o.op=.call { callee:=.builtin .append,args:= #[s,x],argTypes:= #[t,t] }) (z:Value) (bytes:Nat)
  (D:P.underlying t=some (.slice e)) (hi:(P.info? e).map (fun i=>(i.zero,i.size,i.bytes))=some (some z,1,bytes)) (k:z.cells.size=1) (h:bytes<=64)
  (base n c:Nat) (A:Option Addr) (l:List Value) (C:a.eval s=.slice A n c) (g:w.ownsRow base e 1 (.slice A n c) n l)
  (B:Option Addr) (m d:Nat) (xs:List α) (f:α->Value) (p:∀x,(f x).oneCell'=true) (G:a.eval x=.slice B m d) (y:RdL R w B m xs) (q:∀w v x,R w v x->v=f x)
  (r:n+m<=1099511627776) (b:base<=w.heap.size)
  (hK:∀A' c' w',w'.ownsRow base e 1 (.slice A' (n+m) c') (n+m) (l++xs.map f)->w.grownBy w' (Value.slice A n c).ownBlock->Below base w w'->K (a.put o.dst (.slice A' (n+m) c')) w'):
  if Region.wanted o (yielded ops a.tmps)=true then Oper.wp P o a w K Q else E:=by
 have F:Region.wanted o (yielded ops a.tmps)=true:=by simp[Region.wanted,j]
 rw[zam F];exact qfj w s x t e u z bytes D hi k h base n c A l C g B m d xs f p G y q r b hK
theorem cl2 {w:World} {g:Nat} {t:TypeId} {a b:Value} (h:Blk w g t #[a,b]):w.cell? ⟨g,0,none⟩=some a/\w.cell? ⟨g,1,none⟩=some b:=⟨h.cell 0,h.cell 1⟩
theorem cf2 {w:World} {g:Nat} {t:TypeId} {a b:Value} (h:Blk w g t #[a,b]):w.cell? ⟨g,0,none⟩=some a/\w.cell? ⟨g,1,none⟩=some b/\w.frozen? ⟨g,0,none⟩=false/\w.frozen? ⟨g,1,none⟩=false:=⟨h.cell 0,h.cell 1,h.frozen 0,h.frozen 1⟩
theorem cl4 {w:World} {g:Nat} {t:TypeId} {a b c d:Value} (h:Blk w g t #[a,b,c,d]):w.cell? ⟨g,0,none⟩=some a/\w.cell? ⟨g,1,none⟩=some b/\w.cell? ⟨g,2,none⟩=some c/\w.cell? ⟨g,3,none⟩=some d:=⟨h.cell 0,h.cell 1,h.cell 2,h.cell 3⟩
theorem cf4 {w:World} {g:Nat} {t:TypeId} {a b c d:Value} (h:Blk w g t #[a,b,c,d]):w.cell? ⟨g,0,none⟩=some a/\w.cell? ⟨g,1,none⟩=some b/\w.cell? ⟨g,2,none⟩=some c/\w.cell? ⟨g,3,none⟩=some d/\w.frozen? ⟨g,0,none⟩=false/\w.frozen? ⟨g,1,none⟩=false/\w.frozen? ⟨g,2,none⟩=false/\w.frozen? ⟨g,3,none⟩=false:=⟨h.cell 0,h.cell 1,h.cell 2,h.cell 3,h.frozen 0,h.frozen 1,h.frozen 2,h.frozen 3⟩
theorem cl5 {w:World} {g:Nat} {t:TypeId} {a b c d e:Value} (h:Blk w g t #[a,b,c,d,e]):w.cell? ⟨g,0,none⟩=some a/\w.cell? ⟨g,1,none⟩=some b/\w.cell? ⟨g,2,none⟩=some c/\w.cell? ⟨g,3,none⟩=some d/\w.cell? ⟨g,4,none⟩=some e:=⟨h.cell 0,h.cell 1,h.cell 2,h.cell 3,h.cell 4⟩
theorem cf5 {w:World} {g:Nat} {t:TypeId} {a b c d e:Value} (h:Blk w g t #[a,b,c,d,e]):w.cell? ⟨g,0,none⟩=some a/\w.cell? ⟨g,1,none⟩=some b/\w.cell? ⟨g,2,none⟩=some c/\w.cell? ⟨g,3,none⟩=some d/\w.cell? ⟨g,4,none⟩=some e/\w.frozen? ⟨g,0,none⟩=false/\w.frozen? ⟨g,1,none⟩=false/\w.frozen? ⟨g,2,none⟩=false/\w.frozen? ⟨g,3,none⟩=false/\w.frozen? ⟨g,4,none⟩=false:=⟨h.cell 0,h.cell 1,h.cell 2,h.cell 3,h.cell 4,h.frozen 0,h.frozen 1,h.frozen 2,h.frozen 3,h.frozen 4⟩
theorem cl9 {w:World} {g:Nat} {t:TypeId} {a b c d e f i j k:Value} (h:Blk w g t #[a,b,c,d,e,f,i,j,k]):w.cell? ⟨g,0,none⟩=some a/\w.cell? ⟨g,1,none⟩=some b/\w.cell? ⟨g,2,none⟩=some c/\w.cell? ⟨g,3,none⟩=some d/\w.cell? ⟨g,4,none⟩=some e/\w.cell? ⟨g,5,none⟩=some f/\w.cell? ⟨g,6,none⟩=some i/\w.cell? ⟨g,7,none⟩=some j/\w.cell? ⟨g,8,none⟩=some k:=⟨h.cell 0,h.cell 1,h.cell 2,h.cell 3,h.cell 4,h.cell 5,h.cell 6,h.cell 7,h.cell 8⟩
theorem q14:(Tryz.prog.info? 3).map (fun i=>(i.zero,i.size,i.bytes))=some (some (.int .i64 0),1,8):=by kernel_rfl
def qii (xs:List Int) (left:Int):Int:=if left - xs.length<0 then -1 else left - xs.length
theorem q5e (A:Option Addr) (n c:Nat) (xs:List Int) (left:Int) (w:World) (h:RdL RI w A n xs) (d: -1<=left) (f:left<=1048576):
  Calls Tryz.prog 33 #[.slice A n c,.int .i64 left] w fun e w'=>e=.returned (.int .i64 (qii xs left))/\w=w':=by
 have b:=h.le;have a:=h.len;unfold qii;rw[a]
 by_cases h2:left - n<0
 .go_enter Tryz.func33,Tryz.ntmps33
  go_wp2
  go_ret;exact⟨by first|rfl|rw[zam (by omega)],rfl⟩
 .go_enter Tryz.func33,Tryz.ntmps33
  go_wp2
  go_ret;exact⟨by first|rfl|rw[zaj (by omega)],rfl⟩
def eqL:List Int->List Int->Bool
 | [], []=>true
 |x::l,y::m=>x==y &&eqL l m
 |_,_=>false
theorem q8m:∀ {l m:List Int},eqL l m=true↔l=m
 | [], []=>by simp[eqL]
 | [],_::_=>by simp[eqL]
 |_::_, []=>by simp[eqL]
 |x::l,y::m=>by simp[eqL,q8m (l:=l) (m:=m)]
theorem qfq {l m:List Int} (h:l.length≠m.length):false=eqL l m:=by
 rcases e:eqL l m with _|_
 .rfl
 .exact absurd (zav List.length (q8m.1 e)) h
def EqAt (xs ys:List Int) (k:Nat):Prop:=eqL (xs.drop k) (ys.drop k)=eqL xs ys
theorem EqAt.step {xs a:List Int} {k:Nat} {x y:Int} (h:EqAt xs a k) (b:xs.drop k=x::xs.drop (k+1)) (c:a.drop k=y::a.drop (k+1)) (d:(x==y)=true):EqAt xs a (k+1):=by
 unfold EqAt at*;rw[<-h,b,c,eqL,d];rfl
theorem EqAt.stop {xs a:List Int} {k:Nat} {x y:Int} (h:EqAt xs a k) (b:xs.drop k=x::xs.drop (k+1)) (c:a.drop k=y::a.drop (k+1)) (d:(x==y)=false):false=eqL xs a:=by
 unfold EqAt at*;rw[<-h,b,c,eqL,d];rfl
theorem EqAt.done {xs a:List Int} {k:Nat} (h:EqAt xs a k) (b:xs.drop k= []) (c:a.drop k= []):true=eqL xs a:=by
 unfold EqAt at*;rw[<-h,b,c];rfl
theorem q2v (A B:Option Addr) (n m c d:Nat) (xs f:List Int) (w:World) (h:RdL RI w A n xs) (e:RdL RI w B m f):
  Calls Tryz.prog 49 #[.slice A n c,.slice B m d] w (Qt w (.bool (eqL xs f))):=by
 have q:=h.le;have l:=e.le
 by_cases hnm:n=m
 .subst hnm
  go_enter Tryz.func49,Tryz.ntmps49
  go_wp2
  go_loopw [5] (fun i wr=>∃k:Nat,k<=n/\i=.int .i64 k/\EqAt xs f k/\Drawn w wr) (fun i _=>n - (intOf i).toNat)
  case atStart=>exact⟨0,zah _,rfl,rfl,Drawn.zero _⟩
  case round=>
   obtain⟨k,u,rfl,H,z,rfl⟩:=hrel
   by_cases hlt:k<n
   .obtain⟨b,o,v,x,rfl,t,⟨rfl,-⟩,hd,-⟩:=h.at hlt
    obtain⟨s,C,D,y,rfl,p,⟨rfl,-⟩,a,-⟩:=e.at hlt;have g:=zaa hd;have j:=zaa a;clear hd a
    go_wp2
    go_quiet (fail)
    go_wp2
    .go_ret
     exact⟨qg (H.stop g.out j.out (by simpa using ‹(x !=y)=true›)),(by first|exact Drawn.zero _|exact Drawn.at_ _ _|exact(Drawn.at_ _ _).more _|exact((Drawn.at_ _ _).more _).more _)⟩
    all_goals first
     | (go_roundw
        case rel => exact ⟨k + 1, by omega, by go_num, H.step g.out j.out (by simpa using ‹(x != y) = false›), (by first | exact Drawn.zero _ | exact Drawn.at_ _ _ | exact (Drawn.at_ _ _).more _ | exact ((Drawn.at_ _ _).more _).more _)⟩
        case measure => simp [intOf]; omega)
   .go_wp2
    go_ret;exact⟨qg (H.done (h.drop_end hlt) (e.drop_end hlt)),(by first|exact Drawn.zero _|exact Drawn.at_ _ _|exact(Drawn.at_ _ _).more _|exact((Drawn.at_ _ _).more _).more _)⟩
 .have r:((n:Int) !=(m:Int))=true:=by rw[bne_iff_ne];omega
  go_enter Tryz.func49,Tryz.ntmps49
  go_wp2
  go_ret;exact⟨qg (qfq (by rw[h.len,e.len];omega)),(by first|exact Drawn.zero _|exact Drawn.at_ _ _|exact(Drawn.at_ _ _).more _|exact((Drawn.at_ _ _).more _).more _)⟩
theorem q3g (w:World) {ops:Array Oper} {d:List Oper} {o:Oper} {a:Act} {Q:Exit->Act->World->Prop} (p:o.guard=none) (l c:Operand) (f:o.op=Op.makeSlice 43 l c)
  (n:Nat) (r:a.eval l=.int .i64 n) (m:a.eval c=.int .i64 n) (b:n<=17592186044416)
  (hK:∀w',w'.ownsRow w.heap.size 3 1 (.slice (some ⟨w.heap.size,0,none⟩) n n) n (List.replicate n (.int .i64 0))->w.grownBy w' none->wpList Tryz.prog ops Q d (a.put o.dst (.slice (some ⟨w.heap.size,0,none⟩) n n)) w'):
  wpList Tryz.prog ops Q (o::d) a w:=by
 obtain⟨s,q,g,h,i⟩:=info_parts q14;refine wpList_make_full w p l c 43 f w.heap.size 3 s (.int .i64 0) 1 za1 q g h .i64 .i64 n n n r m rfl rfl (by rw[i];omega) (by unfold maxLen;omega) (zad _) ?_;intro w' j k;refine hK w' ?_ k;have e:(madeCells (Value.int .i64 0).cells (n*1)).toList=List.replicate n (.int .i64 0):=by rw[Nat.mul_one];exact toList_madeCells_one (.int .i64 0) n
 rw[<-e];exact j
def ints (xs:List Int):List Value:=xs.map (.int .i64)
theorem RdL.bounds {w:World} {A:Option Addr} {n:Nat} {xs:List Int} (h:RdL RI w A n xs):∀x∈xs, -9223372036854775808<=x/\x<=9223372036854775807:=by
 intro x d;obtain⟨k,a⟩:=zbo d;obtain⟨b,o,v,-,-,c⟩:=h.2.2 k x a;exact c.2
theorem q5g (A:Option Addr) (n c:Nat) (xs:List Int) (w:World) (h:RdL RI w A n xs) (z:n<=1048576):
  Calls Tryz.prog 40 #[.slice A n c] w fun e w'=>∃g,e=.returned (.slice (some ⟨g,0,none⟩) n n)/\w.heap.size<=g/\w'.ownsRow w.heap.size 3 1 (.slice (some ⟨g,0,none⟩) n n) n (ints xs)/\Below w.heap.size w w':=by
 go_enter Tryz.func40,Tryz.ntmps40
 go_wp2_with (at_make;refine q3g _ rfl _ _ rfl n rfl rfl (by omega) ?_;intro B a l)
 have f:=(zac w.heap.size w).grown l (zad _) (by simp);clear l;have j:=h.bounds;have s:=zaa j;have d:Hid ((ints xs).length=n):=by have:=h.len;simp[Hid,ints,this]
 clear j
 go_loopw [4] (fun i wr=>∃k:Nat,k<=n/\i=.int .i64 k/\wr.ownsRow w.heap.size 3 1 (.slice (some ⟨w.heap.size,0,none⟩) n n) n (q7c (ints xs) (.int .i64 0) n k)/\Below w.heap.size w wr) (fun i _=>n - (intOf i).toNat)
 case atStart=>exact⟨0,zah _,rfl,by rw[qfu];exact a,f⟩
 case round=>
  clear a f;obtain⟨k,y,rfl,a,f⟩:=hrel;replace h:=h.next qd f
  by_cases hlt:k<n
  .obtain⟨b,o,v,x,rfl,u,⟨rfl,-⟩,-,r⟩:=h.at hlt
   have q:Hid ((ints xs)[k]?=some (.int .i64 x)):=by simp[Hid,ints,r]
   clear r;have p:wr.cell? ⟨w.heap.size,k,none⟩=some (.int .i64 0):=(a.cellAt k (by omega)).trans (qj0 d.out hlt);have t:wr.frozen? ⟨w.heap.size,k,none⟩=false:=a.frozenAt k;have m:=(a.stored k (.int .i64 x)).1;rw[qj1 d.out hlt q.out]at m
   go_wp2
   go_roundw
   case rel=>exact⟨k+1,by omega,by go_num,m,f.setCell (zad _) _⟩
   case measure=>simp[intOf];omega
  .rw[qiz _ d.out hlt]at a
   go_wp2
   go_ret;exact⟨_,rfl,zad _,a,f⟩
theorem q1r {xs:List Int} {w:World} (h:∀x∈xs, -9223372036854775808<=x/\x<=9223372036854775807):∀x∈xs,RI w (.int .i64 x) x:=fun x a=>⟨rfl,h x a⟩
structure Chg (lo hi:Nat) (w w':World):Prop where
 os:w'.os=w.os
 tape:w'.tape=w.tape
 output:w'.output=w.output
 size:w.heap.size<=w'.heap.size
 block:∀b,b<w.heap.size->(b<lo\/hi<=b)->w'.heap[b]?=w.heap[b]?
theorem Chg.below {lo hi B:Nat} {w w':World} (h:Chg lo hi w w') (b:B<=lo) (a:B<=w.heap.size):Below B w w':=
 ⟨h.os,h.tape,h.output,h.size,fun k c=>h.block k (by omega) (.inl (by omega))⟩
def nums (k:Int):Nat->List Int
 |0=> []
 |n+1=>k::nums (k+1) n
theorem q73:∀(n:Nat) (k:Int),(nums k n).length=n
 |0,_=>rfl
 |n+1,k=>by simp[nums,q73 n]
theorem q9o:∀(n:Nat) (k:Int) (j:Nat),j<n->(nums k n)[j]?=some (k+j)
 |0,_,j,h=>absurd h (by omega)
 |n+1,k,0,_=>by simp[nums]
 | n + 1, k, j + 1, h => by
   rw [nums, zdh, q9o n (k + 1) j (by omega)]
   congr 1
   omega
theorem qgj {n:Nat} {k:Int} (d:0<=k) (e:k+n<=4611686018427387904):∀x∈nums k n, -9223372036854775808<=x/\x<=9223372036854775807:=by
 intro x c;obtain⟨j,a⟩:=zbo c;have b:=(zag.1 a).1;rw[q73]at b;rw[q9o n k j b]at a;injection a with a
 omega
def q98 (k:Int) (xs:List Int) (j:Nat):List Int:=(nums k xs.length).take j++xs.drop j
theorem qjj {k:Int} {xs:List Int} {j:Nat} (h:j<xs.length):(ints (q98 k xs j)).set j (.int .i64 (k+j))=ints (q98 k xs (j+1)):=by
 have a:((nums k xs.length).take j).length=j:=by rw[za9,q73];omega
 unfold ints;rw[<-List.map_set];unfold q98;rw[zdz _ _ (by omega),a,zda,zbq h,List.set_cons_zero,zbp,q9o _ _ _ h];simp
theorem qei (A:Option Addr) (n c:Nat) (xs:List Int) (k:Int) (lo:Nat) (w:World) (h:w.ownsRow lo 3 1 (.slice A n c) n (ints xs)) (D:0<=k) (H:k+n<=4611686018427387904):
  Calls Tryz.prog 53 #[.slice A n c,.int .i64 k] w fun e w'=>e=.returned (.int .i64 (k+n))/\w'.ownsRow lo 3 1 (.slice A n c) n (ints (nums k n))/\w.grownBy w' (Value.slice A n c).ownBlock:=by
 have f:=zaa (show xs.length=n by have:=h.1;simpa[ints]using this)
 go_enter Tryz.func53,Tryz.ntmps53
 go_wp2
 go_loopw [1,5] (fun q i wr=>∃j:Nat,j<=n/\i=.int .i64 j/\q=.int .i64 (k+j)/\wr.ownsRow lo 3 1 (.slice A n c) n (ints (q98 k xs j))/\w.grownBy wr (Value.slice A n c).ownBlock) (fun _ i _=>n - (intOf i).toNat)
 case atStart=>exact⟨0,zah _,rfl,by simp,by simpa[q98]using h,World.grownBy.refl _ _⟩
 case round=>
  obtain⟨j,I,rfl,rfl,a,l⟩:=hrel
  by_cases hlt:j<n
  .obtain⟨g,s,-,-⟩:∃g,A=some ⟨g,0,none⟩/\lo<=g/\n<=c:=by
    rcases a.2 with⟨_,D⟩|⟨g,B,C,G,r,_,F,_⟩
    .omega
    .injection G with s _ hc
     exact⟨g,s,r,by omega⟩
   subst s;obtain⟨u,x⟩:∃u,(ints (q98 k xs j))[j]?=some u:=by
    have J:=a.1;exact⟨_,zae (by omega)⟩
   have t:=(a.cellAt j (by omega)).trans x;have E:wr.frozen? ⟨g,j,none⟩=false:=a.frozenAt j;obtain⟨p,d⟩:=a.stored j (.int .i64 (k+j));rw[qjj (by rw[f.out];exact hlt)]at p;have v:w.grownBy (wr.setCell ⟨g,j,none⟩ (.int .i64 (k+j))) (some g):=
    ⟨d.os.trans l.os,d.tape.trans l.tape,d.output.trans l.output,za7 l.size d.size,fun b r o=>(d.block b (zcu r l.size) o).trans (l.block b r o)⟩
   clear x d l a
   go_wp2
   go_roundw
   case rel=>exact⟨j+1,by omega,by go_num,by rw[show k+(j:Int)+1=k+((j+1:Nat):Int)from by omega],p,v⟩
   case measure=>simp[intOf];omega
  .have m:j=n:=by omega
   have y:Hid (q98 k xs j=nums k n):=by
    show _=_
    unfold q98;rw[f.out,zbk (by rw[f.out];omega),zc3,zar (by rw[q73];omega)]
   rw[y.out]at a;have z:=zaa m;clear m
   go_wp2
   go_ret;exact⟨q11 (by rw[z.out]),a,l⟩
theorem qe2 (A:Option Addr) (n c:Nat) (k:Int) (w:World) (h:RdL RI w A n (nums k n)) (p:0<=k) (r:k+n<=4611686018427387904):
  Calls Tryz.prog 93 #[.slice A n c,.int .i64 k] w fun e w'=>e=.returned (.int .i64 (k+n))/\w=w':=by
 have l:=h.le
 go_enter Tryz.func93,Tryz.ntmps93
 go_wp2
 go_loop [1,5] (fun q i=>∃j:Nat,j<=n/\i=.int .i64 j/\q=.int .i64 (k+j)) (fun _ i=>n - (intOf i).toNat)
 case atStart=>exact⟨0,zah _,rfl,by simp⟩
 case round=>
  obtain⟨j,t,rfl,rfl⟩:=hrel
  by_cases hlt:j<n
  .obtain⟨b,o,v,x,rfl,s,⟨rfl,-⟩,-,d⟩:=h.at hlt
   have f:x=k+j:=by rw[q9o n k j hlt]at d;injection d with d;exact d.symm
   subst f;clear d;have m:(k+(j:Int) !=k+(j:Int))=false:=by simp
   go_wp2
   go_round
   case rel=>exact⟨j+1,by omega,by go_num,by rw[show k+(j:Int)+1=k+((j+1:Nat):Int)from by omega]⟩
   case measure=>simp[intOf];omega
  .have a:j=n:=by omega
   have g:=zaa a;clear a
   go_wp2
   go_ret;exact⟨q11 (by rw[g.out]),rfl⟩
section
open Go.ChangeShapes Go.WideShapes Go.ChangeAt Go.Joins Go.Deep
section
variable {H:Type} {enc:TypeId×Value->H} {P:Program} {w:World}
def Opens {α:Type} (enc:TypeId×Value->H) (P:Program) (w:World) (t:TypeId) (R:World->Value->α->Prop):Prop:=
 ∀(fuel:Nat) (v:Value) (y:DataW H×List MemPlace),DataW.trod enc P w 0 (fun _=>true) true fuel t [v]=some y->∃x,R w v x
theorem qes {t:TypeId} (b:P.underlying t=some (.int .i64)):Opens enc P w t RI:=fun a v y h=>by
 obtain⟨n,e,-,c⟩:=DataW.trod_int b h;simp at e;subst e;have:=bounds_i64 c;exact⟨n,rfl,by omega,by omega⟩
theorem qjp {t:TypeId} (b:P.underlying t=some .bool):Opens enc P w t RB:=fun a v y h=>by
 obtain⟨n,e,-⟩:=DataW.trod_bool b h;simp at e;exact⟨n,e⟩
theorem qet {t:TypeId} (c:P.underlying t=some .string):Opens enc P w t RS:=fun a v y h=>by
 obtain⟨s,e,-,b⟩:=DataW.trod_string c h;simp at e;exact⟨s,e,b⟩
def RVc {α:Type} (R:World->Value->α->Prop) (w:World) (v:Value) (xs:List α):Prop:=∃A n c,v=.slice A n c/\n<=c/\RdL R w A n xs
theorem qgn {α:Type} {R:World->Value->α->Prop} {t e:TypeId} (L:P.underlying t=some (.slice e)) (G:P.cellsOf e=1) (H:Opens enc P w e R):Opens enc P w t (RVc R):=fun C v y h=>by
 rcases open_slice1 L G h with⟨e,-⟩|⟨a,c,E,m,n,V,D,N,e,-,p,J,q,-,f⟩
 .simp at e
  exact⟨[],none,0,0,e,zad _,RdL.nil _ _ _⟩
 .simp at e
  simp only[if_true]at q;subst q;have i:∀k,k<c->∃x,R w (V k) x:=fun k j=>H n (V k) _ (f k (by omega)).2
  obtain⟨M,r,B⟩:∃l:List α,l.length=c/\∀(k:Nat) x,l[k]?=some x->R w (V k) x:=by
   clear f p J e
   induction c with
   |zero=>exact⟨[],rfl,fun k x f=>by simp at f⟩
   | succ c ih =>
     obtain ⟨l, p, K⟩ := ih fun k j => i k (by omega)
     obtain ⟨x, f⟩ := i c (by omega);refine ⟨l ++ [x], by simp [p], fun k y g => ?_⟩
     by_cases j : k < c
     . rw [zbv (by omega)] at g
       exact K k y g
     . have z := (zag.1 g).1
       simp at z;have A : k = c := by omega
       subst A;rw [zbc (by omega), p, zda] at g;simp at g;subst g;exact f
  refine⟨M,some a,c,m,e,p,r,by omega,fun k x j=>?_⟩;have I:k<c:=by rw[<-r];exact(zag.1 j).1
  have u:=(f k (by omega)).1;have d:a.spot=none:=by
   have s:=(f 0 (by omega)).1;have:=World.cell?_spot s
   simpa[Addr.add]using this
  obtain⟨b,o,spot⟩:=a;simp only at d;subst d;refine⟨b,o,V k,rfl,?_,B k x j⟩;have F:(⟨b,o,none⟩:Addr).add k=⟨b,o+k,none⟩:=by
   unfold Addr.add
   split
   .rename_i s;subst s;rfl
   .rfl
  rw[<-F];exact u
theorem Opens.bare {α:Type} {R:World->Value->α->Prop} {t:TypeId} (h:Opens enc P w t (RVc R)):Opens enc P w t (RV R):=fun a v y b=>by
 obtain⟨f,A,n,c,e,-,d⟩:=h a v y b;exact⟨f,A,n,c,e,d⟩
end
end
def RdN {α:Type} (m:Nat) (R:World->List Value->α->Prop) (w:World) (A:Option Addr) (n:Nat) (xs:List α):Prop:=
 xs.length=n/\n<=maxLen/\∀k x,xs[k]?=some x->∃b o vs,A=some ⟨b,o,none⟩/\vs.length=m/\(∀i v,vs[i]?=some v->w.cell? ⟨b,o+k*m+i,none⟩=some v)/\R w vs x
def Same (w w':World):Prop:=∀b,b<w.heap.size->w'.heap[b]?=w.heap[b]?
structure Sh (α:Type) where
 m:Nat
 rd:World->List Value->α->Prop
 own:World->List Value->α->List Nat->Prop
 cnt:α->Nat
 rd_len:∀ {w:World} {cs:List Value} {x:α},rd w cs x->cs.length=m
 stab:∀ {w w':World} {cs:List Value} {x:α},rd w cs x->Same w w'->rd w' cs x
 ord:∀ {w:World} {cs:List Value} {x:α} {bl:List Nat},own w cs x bl->rd w cs x
 olt:∀ {w:World} {cs:List Value} {x:α} {bl:List Nat},own w cs x bl->∀b∈bl,b<w.heap.size
 osame:∀ {w w':World} {cs:List Value} {x:α} {bl:List Nat},own w cs x bl->(∀b∈bl,w'.heap[b]?=w.heap[b]?)->own w' cs x bl
def Sh.int:Sh Int where
 m:=1
 rd:=fun w cs x=>∃v,cs= [v]/\RI w v x
 own:=fun w cs x bl=>∃v,cs= [v]/\RI w v x/\bl= []
 cnt:=fun _=>0
 rd_len:=fun⟨_,e,_⟩=>by rw[e];rfl
 stab:=fun⟨v,e,h⟩ _=>⟨v,e,h⟩
 ord:=fun⟨v,e,h,_⟩=>⟨v,e,h⟩
 olt:=fun⟨_,_,_,e⟩ b hb=>by rw[e]at hb;simp at hb
 osame:=fun⟨v,e,h,e'⟩ _=>⟨v,e,h,e'⟩
def Sh.bool:Sh Bool where
 m:=1
 rd:=fun w cs x=>∃v,cs= [v]/\RB w v x
 own:=fun w cs x bl=>∃v,cs= [v]/\RB w v x/\bl= []
 cnt:=fun _=>0
 rd_len:=fun⟨_,e,_⟩=>by rw[e];rfl
 stab:=fun⟨v,e,h⟩ _=>⟨v,e,h⟩
 ord:=fun⟨v,e,h,_⟩=>⟨v,e,h⟩
 olt:=fun⟨_,_,_,e⟩ b hb=>by rw[e]at hb;simp at hb
 osame:=fun⟨v,e,h,e'⟩ _=>⟨v,e,h,e'⟩
def Sh.str:Sh ByteArray where
 m:=1
 rd:=fun w cs x=>∃v,cs= [v]/\RS w v x
 own:=fun w cs x bl=>∃v,cs= [v]/\RS w v x/\bl= []
 cnt:=fun s=>s.size
 rd_len:=fun⟨_,e,_⟩=>by rw[e];rfl
 stab:=fun⟨v,e,h⟩ _=>⟨v,e,h⟩
 ord:=fun⟨v,e,h,_⟩=>⟨v,e,h⟩
 olt:=fun⟨_,_,_,e⟩ b hb=>by rw[e]at hb;simp at hb
 osame:=fun⟨v,e,h,e'⟩ _=>⟨v,e,h,e'⟩
def Sh.pair {α β:Type} (A:Sh α) (B:Sh β):Sh (α×β) where
 m:=A.m+B.m
 rd:=fun w cs p=>∃c1 c2,cs=c1++c2/\A.rd w c1 p.1/\B.rd w c2 p.2
 own:=fun w cs p bl=>∃c1 c2 b1 b2,cs=c1++c2/\bl=b1++b2/\A.own w c1 p.1 b1/\B.own w c2 p.2 b2
 cnt:=fun p=>A.cnt p.1+B.cnt p.2
 rd_len:=fun⟨c1,c2,e,h1,h2⟩=>by rw[e,zbs,A.rd_len h1,B.rd_len h2]
 stab:=fun⟨c1,c2,e,h1,h2⟩ hs=>⟨c1,c2,e,A.stab h1 hs,B.stab h2 hs⟩
 ord:=fun⟨c1,c2,b1,b2,e,e',h1,h2⟩=>⟨c1,c2,e,A.ord h1,B.ord h2⟩
 olt:=fun⟨c1,c2,b1,b2,e,e',h1,h2⟩ b hb=>by
  rw[e',zau]at hb;exact hb.elim (A.olt h1 b) (B.olt h2 b)
 osame:=fun⟨c1,c2,b1,b2,e,e',h1,h2⟩ hs=>⟨c1,c2,b1,b2,e,e',A.osame h1 fun b hb=>hs b (by rw[e'];exact zbb _ hb),B.osame h2 fun b hb=>hs b (by rw[e'];exact zaz _ hb)⟩
def InR (x:Int):Prop:= -9223372036854775808<=x/\x<=9223372036854775807
def obl (v:Value):List Nat:=v.ownBlock.toList
theorem q1e {v:Value} {b:Nat}:b∈obl v↔v.ownBlock=some b:=by unfold obl;simp
def Sh.il (E:TypeId):Sh (List Int) where
 m:=1
 rd:=fun w cs xs=>∃v,cs= [v]/\RV RI w v xs
 own:=fun w cs xs bl=>∃v,cs= [v]/\w.ownsRow 0 E 1 v xs.length (ints xs)/\(∀x∈xs,InR x)/\bl=obl v
 cnt:=fun xs=>xs.length
 rd_len:=fun⟨_,e,_⟩=>by rw[e];rfl
 stab:=fun⟨v,e,h⟩ hs=>⟨v,e,qr5 qd _ _ _ _ hs h⟩
 ord:=fun {w} {cs} {xs} {bl} ⟨v,e,h,hx,_⟩=>by
  obtain⟨A,c,rfl⟩:=qu h;exact⟨_,e,A,xs.length,c,rfl,q12 h (q1r hx)⟩
 olt:=fun⟨v,_,h,_,e⟩ b hb=>by rw[e,q1e]at hb;exact(h.lt b hb).2
 osame:=fun⟨v,e,h,hx,e'⟩ hs=>⟨v,e,q2p h fun b hb=>hs b (by rw[e',q1e];exact hb),hx,e'⟩
theorem q1j:∀ {css:List (List Value)} {m:Nat},(∀c∈css,c.length=m)->∀(k i:Nat),i<m->css.flatten[k*m+i]?=(css[k]?).bind fun c=>c[i]?
 | [],m,_,k,i,_=>by simp
 | c :: l, m, h, 0, i, hi => by
   have hc := h c (zaq ..);rw [zc6, Nat.zero_mul, zcn, zbv (by omega)];rfl
 | c :: l, m, h, k + 1, i, hi => by
   have hc := h c (zaq ..);have d := q1j (fun b a => h b (zap _ a)) k i hi (css := l);have e : (k + 1) * m + i = m + (k * m + i) := by rw [zet]; omega
   rw [zc6, zbc (by omega), hc, e, Nat.add_sub_cancel_left, d];rfl
theorem q3b:∀ {css:List (List Value)} {m:Nat},(∀c∈css,c.length=m)->css.flatten.length=css.length*m
 | [],m,_=>by simp
 | c :: l, m, h => by
   rw [zc6, zbs, h c (zaq ..), q3b fun c' hc' => h c' (zap _ hc'), za0, zet];omega
structure Parts {α:Type} (A:Sh α) (E:TypeId) (w:World) (v:Value) (xs:List α) (css:List (List Value)) (bls:List (List Nat)):Prop where
 row:w.ownsRow 0 E A.m v xs.length css.flatten
 l1:css.length=xs.length
 l2:bls.length=xs.length
 el:∀(k:Nat) c x bk,css[k]?=some c->xs[k]?=some x->bls[k]?=some bk->A.own w c x bk
section
variable {α:Type} {A:Sh α} {E:TypeId} {w w':World} {v:Value} {xs:List α} {css:List (List Value)} {bls:List (List Nat)}
theorem Parts.all (h:Parts A E w v xs css bls):∀c∈css,c.length=A.m:=by
 intro c b;obtain⟨k,a⟩:=zbo b;have d:=(zag.1 a).1;have e:=h.l1;have f:=h.l2;exact A.rd_len (A.ord (h.el k c _ _ a (zae (by omega)) (zae (by omega))))
theorem Parts.same (h:Parts A E w v xs css bls) (f:∀b∈obl v++bls.flatten,w'.heap[b]?=w.heap[b]?):Parts A E w' v xs css bls:=
 ⟨q2p h.row fun b a=>f b (zbb _ (q1e.2 a)),h.l1,h.l2,fun k c x d g i e=>A.osame (h.el k c x d g i e) fun b a=>f b (zaz _ (zbm.2 ⟨d,zaf e,a⟩))⟩
theorem Parts.lt (h:Parts A E w v xs css bls):∀b∈obl v++bls.flatten,b<w.heap.size:=by
 intro b a
 rcases zau.1 a with a|a
 .exact(h.row.lt b (q1e.1 a)).2
 .obtain⟨e,c,a⟩:=zbm.1 a
  obtain⟨k,d⟩:=zbo c;have f:=(zag.1 d).1;have g:=h.l1;have i:=h.l2;exact A.olt (h.el k _ _ e (zae (by omega)) (zae (by omega)) d) b a
theorem q5b {base size:Nat} {e:TypeId} {n:Nat} {c:List Value} (h:w.ownsRow base e size v n c):n<=maxLen:=by
 rcases h.2 with⟨_,d⟩|⟨g,a,b,_,_,_,f,i,_⟩
 .omega
 .omega
theorem Parts.cell (h:Parts A E w v xs css bls) {g n c:Nat} (s:v=.slice (some ⟨g,0,none⟩) n c) {k i:Nat} {cs:List Value} {u:Value} (e:css[k]?=some cs) (hi:cs[i]?=some u):w.cell? ⟨g,k*A.m+i,none⟩=some u:=by
 have a:=h.all;have q:=a cs (zaf e);have d:i<A.m:=by have:=(zag.1 hi).1;omega
 have f:k<xs.length:=by have:=(zag.1 e).1;have:=h.l1;omega
 have l:=h.row;subst s;have r:n=xs.length:=by
  rcases l.2 with⟨b,_⟩|⟨t,o,p,b,_⟩
  .cases b
  .injection b
 subst r;have j:k*A.m+i<xs.length*A.m:=by
  have:=zd7 A.m (show k+1<=xs.length from f);rw[zet]at this;omega
 rw[l.cellAt _ j,q1j a k i d,e];exact hi
theorem Parts.rd (h:Parts A E w v xs css bls):∃B c,v=.slice B xs.length c/\RdN A.m A.rd w B xs.length xs:=by
 obtain⟨B,c,rfl⟩:=qu h.row;refine⟨B,c,rfl,rfl,q5b h.row,fun k x d=>?_⟩;have n:=(zag.1 d).1;have p:=h.l1;have q:=h.l2;have b:css[k]?=some (css[k]'(by omega)):=zae (by omega);have j:bls[k]?=some (bls[k]'(by omega)):=zae (by omega);have o:=h.el k _ x _ b d j;obtain⟨g,rfl⟩:∃g,B=some ⟨g,0,none⟩:=by
  rcases h.row.2 with⟨_,a⟩|⟨g,e,f,a,_⟩
  .omega
  .injection a with a
   exact⟨g,a⟩
 refine⟨g,0,_,rfl,h.all _ (zaf b),fun i u l=>?_,A.ord o⟩;rw[zcn];exact h.cell rfl b l
end
def Sh.rows {α:Type} (A:Sh α) (E:TypeId):Sh (List α) where
 m:=1
 rd:=fun w cs xs=>∃B n c,cs= [.slice B n c]/\RdN A.m A.rd w B n xs
 own:=fun w cs xs bl=>∃v css bls,cs= [v]/\Parts A E w v xs css bls/\bl=obl v++bls.flatten
 cnt:=fun xs=>xs.length+(xs.map A.cnt).sum
 rd_len:=fun⟨_,_,_,e,_⟩=>by rw[e];rfl
 stab:=fun {w} {w'} {cs} {xs} ⟨B,n,c,e,h1,h2,h3⟩ hs=>⟨B,n,c,e,h1,h2,fun k x hk=>by
  obtain⟨b,o,vs,e1,hl,hc,hr⟩:=h3 k x hk
  exact⟨b,o,vs,e1,hl,fun i v hi=>(zb6 (w:=w) (hs b (q50 (hc i v hi)))).trans (hc i v hi),A.stab hr hs⟩⟩
 ord:=fun {w} {cs} {xs} {bl} ⟨v,css,bls,e,h,_⟩=>by
  obtain⟨B,c,hv,hr⟩:=h.rd;exact⟨B,xs.length,c,by rw[e,hv],hr⟩
 olt:=fun {w} {cs} {xs} {bl} ⟨v,css,bls,_,h,e⟩ b hb=>by rw[e]at hb;exact h.lt b hb
 osame:=fun {w} {w'} {cs} {xs} {bl} ⟨v,css,bls,e,h,e'⟩ hs=>⟨v,css,bls,e,h.same fun b hb=>hs b (by rw[e'];exact hb),e'⟩
section
variable {α:Type} {m:Nat} {R:World->List Value->α->Prop} {w w':World} {A:Option Addr} {n:Nat} {xs:List α}
theorem RdN.at (h:RdN m R w A n xs) {k:Nat} (d:k<n):∃b o vs x,A=some ⟨b,o,none⟩/\vs.length=m/\(∀i v,vs[i]?=some v->w.cell? ⟨b,o+k*m+i,none⟩=some v)/\R w vs x/\xs.drop k=x::xs.drop (k+1)/\xs[k]?=some x:=by
 have a:k<xs.length:=by rw[h.1];exact d
 obtain⟨b,o,vs,e,f,c,g⟩:=h.2.2 k _ (zae a);exact⟨b,o,vs,xs[k],e,f,c,g,zbq a,zae a⟩
theorem RdN.len (h:RdN m R w A n xs):xs.length=n:=h.1
theorem RdN.le (h:RdN m R w A n xs):n<=9223372036854775807:=by have:=h.2.1;unfold maxLen at this;omega
theorem RdN.drop_end (h:RdN m R w A n xs) {k:Nat} (a:¬k<n):xs.drop k= []:=zbk (by rw[h.1];omega)
theorem RdN.nil (m:Nat) (R:World->List Value->α->Prop) (w:World) (A:Option Addr):RdN m R w A 0 []:=⟨rfl,zah _,fun k x a=>by simp at a⟩
end
theorem RdN.same {α:Type} {S:Sh α} {w w':World} {A:Option Addr} {n:Nat} {xs:List α} (h:RdN S.m S.rd w A n xs) (b:Same w w'):RdN S.m S.rd w' A n xs:=by
 obtain⟨B,d,c,e,a⟩:=(Sh.rows S 0).stab (w:=w) (w':=w') (cs:= [.slice A n 0]) (x:=xs) ⟨A,n,0,rfl,h⟩ b;injection e with e _
 injection e with e1 e2 e3
 subst e1;subst e2;exact a
theorem RdN.next {α:Type} {S:Sh α} {w w':World} {A:Option Addr} {n:Nat} {xs:List α} (h:RdN S.m S.rd w A n xs) (a:Below w.heap.size w w'):RdN S.m S.rd w' A n xs:=h.same a.block
def q48:List Value->Nat->List Value->List Value
 |l,_, []=>l
 |l,p,c::cs=>q48 (l.set p c) (p+1) cs
def q3u:World->Nat->Nat->List Value->World
 |w,_,_, []=>w
 |w,g,p,c::cs=>q3u (w.setCell ⟨g,p,none⟩ c) g (p+1) cs
theorem q8v:∀(cs:List Value) (l:List Value) (p j:Nat),p+cs.length<=l.length->(q48 l p cs)[j]?=if p<=j/\j<p+cs.length then cs[j - p]? else l[j]?
 | [],l,p,j,_=>by rw[q48,zaj (by simp)]
 | c :: cs, l, p, j, h => by
   rw [za0] at h;rw [q48, q8v cs _ _ _ (by rw [zcg]; omega), za0]
   by_cases h1 : p + 1 <= j /\ j < p + 1 + cs.length
   . rw [zam h1, zam (by omega), show j - p = (j - (p + 1)) + 1 by omega, zdh]
   . rw [zaj h1, zcd]
     by_cases h2 : p = j
     . subst h2
       rw [zam rfl, zam (by omega), zam (by omega), zda];rfl
     . rw [zaj h2, zaj (by omega)]
theorem qbz (a z b cs:List Value) (h:cs.length=z.length):q48 (a++(z++b)) a.length cs=a++(cs++b):=by
 apply zcl;intro j;rw[q8v _ _ _ _ (by simp;omega)]
 by_cases h1:j<a.length
 .rw[zaj (by omega),zbv h1,zbv h1]
 .by_cases h2:j<a.length+cs.length
  .rw[zam (by omega),zbc (by omega),zbv (by omega)]
  .rw[zaj (by omega),zbc (by omega),zbc (by omega),zbc (by omega),zbc (by omega),h]
theorem q41:∀(cs:List Value) {w:World} {base:Nat} {e:TypeId} {size g n cap:Nat} {xs:List Value} (p:Nat),w.ownsRow base e size (.slice (some ⟨g,0,none⟩) n cap) n xs->
  (q3u w g p cs).ownsRow base e size (.slice (some ⟨g,0,none⟩) n cap) n (q48 xs p cs)/\w.grownBy (q3u w g p cs) (some g)
 | [],w,base,e,size,g,n,cap,xs,p,h=>⟨h,⟨rfl,rfl,rfl,zad _,fun _ _ _=>rfl⟩⟩
 | c :: cs, w, base, e, size, g, n, cap, xs, p, h => by
   obtain ⟨h1, g1⟩ := h.stored p c;obtain ⟨f, a⟩ := q41 cs (p + 1) h1;exact ⟨f, ⟨a.os.trans g1.os, a.tape.trans g1.tape, a.output.trans g1.output, za7 g1.size a.size, fun k d b => (a.block k (zcu d g1.size) b).trans (g1.block k d b)⟩⟩
structure FillN {α:Type} (A:Sh α) (E:TypeId) (zc:List Value) (lo g n:Nat) (w:World) (xs:List α) (css:List (List Value)) (bls:List (List Nat)) (k:Nat):Prop where
 row:w.ownsRow 0 E A.m (.slice (some ⟨g,0,none⟩) n n) n (css.flatten++(List.replicate (n - k) zc).flatten)
 l1:css.length=k
 l2:bls.length=k
 all:∀c∈css,c.length=A.m
 el:∀(j:Nat) c x bk,css[j]?=some c->xs[j]?=some x->bls[j]?=some bk->A.own w c x bk
 nd:(g::bls.flatten).Nodup
 lo_:∀b∈g::bls.flatten,lo<=b/\b<w.heap.size
section
variable {α:Type} {A:Sh α} {E:TypeId} {zc:List Value} {lo g n:Nat} {w w':World} {xs:List α} {css:List (List Value)} {bls:List (List Nat)} {k:Nat}
theorem FillN.start (h:w.ownsRow lo E A.m (.slice (some ⟨g,0,none⟩) n n) n (List.replicate n zc).flatten):FillN A E zc lo g n w xs [] [] 0:=
 ⟨ql h (zah _),rfl,rfl,fun c a=>by simp at a,fun j c x e a=>by simp at a,by simp,fun b d=>by simp at d;subst d;exact h.lt b rfl⟩
theorem FillN.next (h:FillN A E zc lo g n w xs css bls k) (d:Below w.heap.size w w'):FillN A E zc lo g n w' xs css bls k:=
 ⟨qp h.row d,h.l1,h.l2,h.all,fun j c x e i l f=>A.osame (h.el j c x e i l f) fun b a=>d.block b (h.lo_ b (zap _ (zbm.2 ⟨e,zaf f,a⟩))).2,h.nd,
  fun b a=>⟨(h.lo_ b a).1,zcu (h.lo_ b a).2 d.size⟩⟩
theorem FillN.cell (h:FillN A E zc lo g n w xs css bls k) (f:zc.length=A.m) (d:k<n) {i:Nat} {u:Value} (hi:zc[i]?=some u):w.cell? ⟨g,k*A.m+i,none⟩=some u:=by
 have c:i<A.m:=by have:=(zag.1 hi).1;omega
 have b:=q3b h.all;rw[h.l1]at b;have a:k*A.m+i<n*A.m:=by
  have:=zd7 A.m (show k+1<=n from d);rw[zet]at this;omega
 rw[h.row.cellAt _ a,zbc (by omega),b,Nat.add_sub_cancel_left];have e:n - k=(n - (k+1))+1:=by omega
 rw[e,List.replicate_succ,zc6,zbv (by omega)];exact hi
theorem FillN.frozen (h:FillN A E zc lo g n w xs css bls k) (j:Nat):w.frozen? ⟨g,j,none⟩=false:=h.row.frozenAt j
theorem FillN.set_ (y:FillN A E zc lo g n w xs css bls k) (U:zc.length=A.m) (N:Below w.heap.size w w') (S:k<n) {x:α} {c:List Value} {p:List Nat} (Q:xs[k]?=some x) (u:A.own w' c x p) (H:p.Nodup) (l:∀b∈p,w.heap.size<=b) (P:lo<=w.heap.size):
  FillN A E zc lo g n (q3u w' g (k*A.m) c) xs (css++ [c]) (bls++ [p]) (k+1):=by
 have h:=y.next N;have B:=A.rd_len (A.ord u);have F:=q3b h.all;rw[h.l1]at F;have O:=(y.lo_ g (zaq ..)).2;obtain⟨t,r⟩:=q41 c (k*A.m) h.row;have e:n - k=(n - (k+1))+1:=by omega
 rw[e,List.replicate_succ,zc6,<-F,qbz _ _ _ _ (by omega),F]at t;have s:∀b∈g::bls.flatten,b<w.heap.size:=fun b d=>(y.lo_ b d).2
 refine⟨?_,by simp[h.l1],by simp[h.l2],?_,?_,?_,?_⟩
 .rw[zbu]
  simpa using t
 .intro v z
  rcases zau.1 z with f|f
  .exact h.all v f
  .simp at f
   subst f;exact B
 .intro j v R q f i o
  have K:∀b,b≠g->b<w'.heap.size->(q3u w' g (k*A.m) c).heap[b]?=w'.heap[b]?:=fun b I G=>r.block b G (by simpa using I)
  rcases zc9 j k with C|C
  .rw[zbv (by rw[h.l1];exact C)]at f
   rw[zbv (by rw[h.l2];exact C)]at o;refine A.osame (h.el j v R q f i o) fun b d=>?_
   have L:b∈bls.flatten:=zbm.2 ⟨q,zaf o,d⟩;exact K b (fun J=>(zd2.1 h.nd).1 (J ▸ L)) (h.lo_ b (zap _ L)).2
  .have D:j=k:=by
    have:=(zag.1 f).1;rw[zbs,h.l1]at this;simp at this;omega
   subst D;rw[zbc (by rw[h.l1];exact zad _),h.l1,zda]at f;rw[zbc (by rw[h.l2];exact zad _),h.l2,zda]at o;simp at f o;subst f;subst o;rw[Q]at i;injection i with i
   subst i;exact A.osame u fun b d=>K b (fun J=>by have:=l b d;omega) (A.olt u b d)
 .rw[zbu,<-List.cons_append,zbd]
  refine⟨h.nd,by simpa using H,fun a M b d=>?_⟩;have:=s a M;have:=l b (by simpa using d);omega
 .intro b d
  have T:w'.heap.size<=(q3u w' g (k*A.m) c).heap.size:=r.size;rw[zbu,<-List.cons_append]at d
  rcases zau.1 d with f|f
  .have:=h.lo_ b f
   omega
  .have i:b∈p:=by simpa using f
   have:=l b i;have:=A.olt u b i;omega
theorem FillN.done (h:FillN A E zc lo g n w xs css bls k) (c:xs.length=n) (i:¬k<n) (b:k<=n):(Sh.rows A E).own w [.slice (some ⟨g,0,none⟩) n n] xs (g::bls.flatten):=by
 have e:n - k=0:=by omega
 have a:=h.row;rw[e]at a;simp only[List.replicate_zero,List.flatten_nil,zc3]at a;have d:=h.l1;have f:=h.l2;exact⟨_,css,bls,rfl,⟨by rw[c];exact a,by omega,by omega,h.el⟩,rfl⟩
end
structure ChgB (bl:List Nat) (w w':World):Prop where
 os:w'.os=w.os
 tape:w'.tape=w.tape
 output:w'.output=w.output
 size:w.heap.size<=w'.heap.size
 block:∀b,b<w.heap.size->b∉bl->w'.heap[b]?=w.heap[b]?
theorem ChgB.refl (a:List Nat) (w:World):ChgB a w w:=⟨rfl,rfl,rfl,zad _,fun _ _ _=>rfl⟩
theorem ChgB.trans {d:List Nat} {a b c:World} (h:ChgB d a b) (k:ChgB d b c):ChgB d a c:=
 ⟨k.os.trans h.os,k.tape.trans h.tape,k.output.trans h.output,za7 h.size k.size,fun i f e=>(k.block i (zcu f h.size) e).trans (h.block i f e)⟩
theorem ChgB.mono {c a:List Nat} {w w':World} (h:ChgB c w w') (g:∀b∈c,b∈a):ChgB a w w':=
 ⟨h.os,h.tape,h.output,h.size,fun b d f=>h.block b d fun e=>f (g b e)⟩
theorem ChgB.chg {a:List Nat} {lo hi:Nat} {w w':World} (h:ChgB a w w') (e:∀b∈a,lo<=b/\b<hi):Chg lo hi w w':=
 ⟨h.os,h.tape,h.output,h.size,fun b c f=>h.block b c fun d=>by have:=e b d;omega⟩
theorem ChgB.ofBelow {a:List Nat} {w w':World} (h:Below w.heap.size w w'):ChgB a w w':=⟨h.os,h.tape,h.output,h.size,fun b c _=>h.block b c⟩
theorem ChgB.set {a:List Nat} {w:World} {p:Addr} (d:p.block∈a) (u:Value):ChgB a w (w.setCell p u):=
 ⟨rfl,rfl,rfl,by simp,fun b _ c=>za8 w p u b (fun e=>c (e ▸ d))⟩
theorem ChgB.grown {v:Value} {w w':World} (h:w.grownBy w' v.ownBlock):ChgB (obl v) w w':=⟨h.os,h.tape,h.output,h.size,fun b a c=>h.block b a fun e=>c (q1e.2 e.symm)⟩
theorem qa5:∀ {bls:List (List Nat)},bls.flatten.Nodup->∀ {i j:Nat} {x y:List Nat} {b:Nat},bls[i]?=some x->bls[j]?=some y->b∈x->b∈y->i=j
 | [],_,i,j,x,y,b,hi,_,_,_=>by simp at hi
 | z :: l, h, i, j, x, y, b, hi, hj, hx, hy => by
   rw [zc6, zbd] at h;have mem : ∀ {k : Nat} {u : List Nat}, l[k]? = some u -> b ∈ u -> b ∈ l.flatten := fun a c => zbm.2 ⟨_, zaf a, c⟩
   match i, j with
   | 0, 0 => rfl
   | 0, j + 1 =>
     simp at hi hj;subst hi;exact absurd rfl (h.2.2 b hx b (mem hj hy))
   | i + 1, 0 =>
     simp at hi hj;subst hj;exact absurd rfl (h.2.2 b hy b (mem hi hx))
   | i + 1, j + 1 =>
     simp at hi hj;rw [qa5 h.2.1 hi hj hx hy]
theorem Parts.put {α:Type} {A:Sh α} {E:TypeId} {w w':World} {v:Value} {xs:List α} {css:List (List Value)} {bls:List (List Nat)} (h:Parts A E w v xs css bls) (D:(obl v++bls.flatten).Nodup) {k:Nat} {r:List Nat} (n:bls[k]?=some r) {c':List Value} {x':α}
  (P:w'.ownsRow 0 E A.m v xs.length (q48 css.flatten (k*A.m) c')) (K:A.own w' c' x' r) (y:∀b∈bls.flatten,b∉r->w'.heap[b]?=w.heap[b]?):Parts A E w' v (xs.set k x') (css.set k c') bls:=by
 have d:=h.all;have o:=A.rd_len (A.ord K);have B:=h.l1;have C:=h.l2;have N:k<bls.length:=(zag.1 n).1;have u:=q3b d;have f:∀c∈css.set k c',c.length=A.m:=fun c M=>by
  rcases zdk M with a|a
  .exact d c a
  .rw[a];exact o
 have O:k*A.m+A.m<=css.length*A.m:=by
  have:=zd7 A.m (show k+1<=css.length by omega);rw[zet]at this;exact this
 have e:q48 css.flatten (k*A.m) c'=(css.set k c').flatten:=by
  have g:=q3b f;rw[zcg]at g;apply zcl;intro j;rw[q8v _ _ _ _ (by omega),o]
  rcases zdb A.m with t|t
  .rw[t]at u g⊢
   rw[zaj (by omega),zbl (by omega),zbl (by omega)]
  .have z:=Nat.div_add_mod j A.m
   have J:=zfn j t;rw[zfh]at z;have G:=q1j d (j / A.m) (j % A.m) J;have H:=q1j f (j / A.m) (j % A.m) J;rw[z]at G H;rw[H]
   by_cases hjk:j / A.m=k
   .have I:k*A.m+j % A.m=j:=by rw[<-hjk];exact z
    rw[zam (by omega),hjk,zeu (by omega),show j - k*A.m=j % A.m by omega];rfl
   .rw[zdr (fun s=>hjk s.symm),<-G,zaj]
    rintro⟨a,i⟩;apply hjk;exact Nat.div_eq_of_lt_le (by omega) (by rw[zet];omega)
 refine⟨by rw[zcg,<-e];exact P,by simp[B],by simp[C],fun j c x b a i l=>?_⟩
 by_cases hjk:j=k
 .subst hjk
  rw[zeu (by omega)]at a i;injection a with a
  injection i with i
  rw[n]at l;injection l with l
  subst a;subst i;subst l;exact K
 .rw[zdr (fun s=>hjk s.symm)]at a i
  refine A.osame (h.el j c x b a i l) fun q L=>y q (zbm.2 ⟨b,zaf l,L⟩) fun F=>?_
  have p:bls.flatten.Nodup:=(zbd.1 D).2.1;exact hjk (qa5 p l n L F)
section
open Go.ChangeShapes Go.WideShapes Go.ChangeAt Go.Joins Go.Deep
def szR (c:Nat) (left:Int):Int:=if left<c then -1 else left - c
theorem q5f (xs:List Int) (left:Int):qii xs left=szR xs.length left:=by
 unfold qii szR
 by_cases h:left - xs.length<0
 .rw[zam h,zam (by omega)]
 .rw[zaj h,zaj (by omega)]
theorem q3v {a b:Nat} {left:Int} (h:¬szR a left<0):szR b (szR a left)=szR (a+b) left:=by
 unfold szR at*
 split at h
 .omega
 .rename_i h1
  rw[zaj h1]
  by_cases h2:left - a<b
  .rw[zam h2,zam (by omega)]
  .rw[zaj h2,zaj (by omega)];omega
theorem qmq {a b:Nat} {left:Int} (h:szR a left<0) (c:0<=left):(-1:Int)=szR (a+b) left:=by
 unfold szR at*
 split at h
 .rw[zam (by omega)]
 .omega
theorem q4o (a:Nat) {left:Int} (b:0<=left): -1<=szR a left/\szR a left<=left:=by
 unfold szR
 split<;>omega
theorem qps {a:Nat} {left:Int} (h:¬szR a left<0):(a:Int)<=left:=by
 unfold szR at h
 split at h<;>omega
theorem q61 {left:Int} (h:0<=left):szR 0 left=left:=by
 have a:¬left<((0:Nat):Int):=by omega
 unfold szR;rw[zaj a];omega
theorem q7s {a:Nat} {left:Int} (h:left - a<0) (b:Nat):(-1:Int)=szR (a+b) left:=by
 unfold szR;rw[zam (by omega)]
theorem qh3 {a:Nat} {left:Int} (c:¬left - a<0) (b:Nat):szR b (left - a)=szR (a+b) left:=by
 unfold szR
 by_cases h2:left - a<b
 .rw[zam h2,zam (by omega)]
 .rw[zaj h2,zaj (by omega)];omega
def cntS {α:Type} (f:α->Nat) (xs:List α):Nat:=(xs.map f).sum
theorem q1h {α:Type} (f:α->Nat) (x:α) (xs:List α):cntS f (x::xs)=f x+cntS f xs:=by simp[cntS]
theorem qca {α:Type} (f:α->Nat):cntS f []=0:=rfl
theorem q3w {α:Type} {f:α->Nat}:∀ {xs:List α} {x:α},x∈xs->f x<=cntS f xs
 | y :: l, x, h => by
   rw [q1h]
   rcases zbf.1 h with rfl | h
   . omega
   . have := q3w (f := f) h
     omega
def SumAt {α:Type} (f:α->Nat) (xs:List α) (l0 left:Int) (k:Nat):Prop:=szR (cntS f (xs.drop k)) left=szR (cntS f xs) l0
section
variable {α:Type} {f:α->Nat} {xs:List α} {l0 left:Int} {k:Nat} {x:α}
theorem SumAt.start (f:α->Nat) (xs:List α) (a:Int):SumAt f xs a a 0:=rfl
theorem SumAt.step (h:SumAt f xs l0 left k) (a:xs.drop k=x::xs.drop (k+1)) (b:¬szR (f x) left<0):SumAt f xs l0 (szR (f x) left) (k+1):=by
 unfold SumAt at*;rw[<-h,a,q1h,q3v b]
theorem SumAt.stop (h:SumAt f xs l0 left k) (a:xs.drop k=x::xs.drop (k+1)) (b:szR (f x) left<0) (c:0<=left): -1=szR (cntS f xs) l0:=by
 unfold SumAt at*;rw[<-h,a,q1h];exact qmq b c
theorem SumAt.done (h:SumAt f xs l0 left k) (a:xs.drop k= []) (b:0<=left):left=szR (cntS f xs) l0:=by
 unfold SumAt at*;rw[<-h,a,qca,q61 b]
end
theorem q6n {a c:Nat} {left:Int} (h:szR a left<0) (d:a<=c) (e:0<=left):(-1:Int)=szR c left:=by
 have:=qmq (b:=c - a) h e
 rwa [show a+(c - a)=c by omega]at this
theorem qs3 {a c s:Nat} {left L:Int} (d:szR a left=L) (g:0<=L) (h:L - s<0) (b:a+s<=c) (f:0<=left):(-1:Int)=szR c left:=by
 have e:szR s L<0:=by unfold szR;rw[zam (by omega)];decide
 rw[<-d,q3v (by rw[d];omega)]at e;exact q6n e b f
theorem qs2 {a s:Nat} {left L:Int} (b:szR a left=L) (c:0<=L) (d:¬L - s<0):szR (a+s) left=L - s:=by
 rw[<-q3v (by rw[b];omega),b];unfold szR;rw[zaj (by omega)]
noncomputable def eqC {α:Type} (x y:α):Bool:= @decide (x=y) (Classical.propDecidable _)
theorem q2f {α:Type} {x y:α}:eqC x y=true↔x=y:=by unfold eqC;exact @zax _ (Classical.propDecidable _)
theorem q7a {α:Type} {x y:α}:eqC x y=false↔¬x=y:=by
 constructor
 .intro h e
  rw[q2f.2 e]at h;cases h
 .intro h
  rcases e:eqC x y with _|_
  .rfl
  .exact absurd (q2f.1 e) h
theorem q5o {α:Type} (x:α):eqC x x=true:=q2f.2 rfl
theorem q8k {α:Type} [DecidableEq α] (x y:α):eqC x y=decide (x=y):=by
 by_cases h:x=y
 .rw[q2f.2 h];simp[h]
 .rw[q7a.2 h];simp[h]
theorem q2w (xs a:List Int):eqL xs a=eqC xs a:=by
 rcases h:eqL xs a with _|_
 .symm;rw[q7a];intro e;rw[q8m.2 e]at h;exact absurd h (by decide)
 .symm;rw[q2f];exact q8m.1 h
theorem q3i {x y:Int} {b:Bool} (h:eqC x y=b):(x !=y)= !b:=by
 subst h;rw[q8k]
 by_cases e:x=y
 .subst e;simp
 .simp[e]
theorem qhf {x y:Bool} {b:Bool} (h:eqC x y=b):(x==y)=b:=by
 subst h;rw[q8k];cases x<;>cases y<;>rfl
theorem q3p {x y:ByteArray} {b:Bool} (h:eqC x y=b):(x.toList==y.toList)=b:=by
 subst h;rw[ByteArray.toList_eq,ByteArray.toList_eq]
 by_cases e:x=y
 .subst e;rw[q5o];simp
 .have c:¬x.data.toList=y.data.toList:=fun a=>e (qbj a)
  rw[q7a.2 e];exact zbj.2 c
def EqdAt {α:Type} (xs ys:List α) (k:Nat):Prop:=eqC (xs.drop k) (ys.drop k)=eqC xs ys
theorem qhe {α:Type} (x y:α) (xs a:List α):eqC (x::xs) (y::a)=(eqC x y &&eqC xs a):=by
 rw[zcc,zal,q2f,q2f,q2f];simp
section
variable {α:Type} {xs ys:List α} {k:Nat} {x y:α}
theorem EqdAt.start (xs a:List α):EqdAt xs a 0:=rfl
theorem EqdAt.step (h:EqdAt xs ys k) (a:xs.drop k=x::xs.drop (k+1)) (b:ys.drop k=y::ys.drop (k+1)) (c:eqC x y=true):EqdAt xs ys (k+1):=by
 unfold EqdAt at*;rw[<-h,a,b,qhe,c];rfl
theorem EqdAt.stop (h:EqdAt xs ys k) (a:xs.drop k=x::xs.drop (k+1)) (b:ys.drop k=y::ys.drop (k+1)) (c:eqC x y=false):false=eqC xs ys:=by
 unfold EqdAt at*;rw[<-h,a,b,qhe,c];rfl
theorem EqdAt.done (h:EqdAt xs ys k) (a:xs.drop k= []) (b:ys.drop k= []):true=eqC xs ys:=by
 unfold EqdAt at*;rw[<-h,a,b,q5o]
theorem qfs {n m:Nat} (a:xs.length=n) (b:ys.length=m) (h:¬n=m):false=eqC xs ys:=by
 symm;rw[q7a];intro e;subst e;omega
end
theorem q6x {α β:Type} (a c:α) (b d:β):eqC (a,b) (c,d)=(eqC a c &&eqC b d):=by
 rw[zcc,zal,q2f,q2f,q2f];simp
def Iv (lo hi:Nat) (bl:List Nat):Prop:=bl.Nodup/\∀b∈bl,lo<=b/\b<hi
theorem Iv.nil (lo hi:Nat):Iv lo hi []:=⟨List.nodup_nil,fun b a=>by simp at a⟩
theorem Iv.app {lo g c hi:Nat} {a b:List Nat} (d:Iv lo g a) (e:Iv c hi b) (j:lo<=c) (k:g<=c) (l:c<=hi):Iv lo hi (a++b):=by
 refine⟨zbd.2 ⟨d.1,e.1,fun x f y i=>?_⟩,fun x f=>?_⟩
 .have:=(d.2 x f).2
  have:=(e.2 y i).1;omega
 .rcases zau.1 f with h|h
  .have:=d.2 x h
   omega
  .have:=e.2 x h
   omega
theorem Iv.mono {lo hi lo' b:Nat} {a:List Nat} (h:Iv lo hi a) (d:lo'<=lo) (e:hi<=b):Iv lo' b a:=⟨h.1,fun x c=>by have:=h.2 x c;omega⟩
theorem Sh.onext {α:Type} {S:Sh α} {w w':World} {cs:List Value} {x:α} {c:List Nat} (h:S.own w cs x c) (d:Below w.heap.size w w'):S.own w' cs x c:=S.osame h fun b a=>d.block b (S.olt h b a)
theorem Sh.oset {α:Type} {S:Sh α} {w:World} {cs:List Value} {x:α} {a:List Nat} {lo hi:Nat} (h:S.own w cs x a) (c:Iv lo hi a) {p:Addr} (f:p.block<lo) (v:Value):S.own (w.setCell p v) cs x a:=
 S.osame h fun b d=>za8 w p v b (fun e=>by have:=(c.2 b d).1;omega)
theorem Sh.okept {α:Type} {S:Sh α} {w w':World} {cs:List Value} {x:α} {c:List Nat} {lo hi:Nat} (h:S.own w cs x c) (d:Iv lo hi c) {lo' a:Nat} (f:Chg lo' a w w') (g:a<=lo):S.own w' cs x c:=
 S.osame h fun b e=>f.block b (S.olt h b e) (.inr (by have:=(d.2 b e).1;omega))
def ToE {α:Type} (S:Sh α) (w:World) (x:α) (e:Ending) (w':World):Prop:=∃cs bl,e=.returned (.agg cs.toArray)/\S.own w' cs x bl/\Iv w.heap.size w'.heap.size bl/\Below w.heap.size w w'
def ToV {α:Type} (S:Sh α) (w:World) (x:α) (e:Ending) (w':World):Prop:=∃v bl,e=.returned v/\S.own w' [v] x bl/\Iv w.heap.size w'.heap.size bl/\Below w.heap.size w w'
theorem qal (a:List Value) (n:Nat) (d:0<a.length):(madeCells a.toArray (n*a.length)).toList=(List.replicate n a).flatten:=by
 have b:∀c∈List.replicate n a,c.length=a.length:=fun c j=>by rw[(List.mem_replicate.1 j).2]
 apply zcl;intro i;have hd:=Nat.div_add_mod i a.length;have e:=zfn i d;have f:=q1j b (i / a.length) (i % a.length) e;rw[zfh,hd]at f;rw[f,List.getElem?_replicate]
 by_cases hi:i<n*a.length
 .rw[zam ((Nat.div_lt_iff_lt_mul d).2 hi)]
  have g:a[i % a.length]?=some (a[i % a.length]'e):=zae e;simp[madeCells,hi,g]
 .rw[zaj (fun h=>hi ((Nat.div_lt_iff_lt_mul d).1 h))]
  simp[madeCells,hi]
theorem q7t (w:World) (c d b:Array Value) (tp a:TypeId):∃w3,w3=((w.alloc (.cells c tp)).alloc (.cells d a)).alloc (.cells b a)/\Below w.heap.size w w3/\w3.heap.size=w.heap.size+3/\Blk w3 w.heap.size tp c/\Blk w3 (w.heap.size+1) a d/\Blk w3 (w.heap.size+1+1) a b:=by
 refine⟨_,rfl,qbh _ _ _ _,by simp,((Blk.new w _ _).next (qm _ _)).next (qm _ _),?_,?_⟩
 .have:=(Blk.new (w.alloc (.cells c tp)) a d).next (qm _ (.cells b a))
  rwa [zfe]at this
 .have:=Blk.new ((w.alloc (.cells c tp)).alloc (.cells d a)) a b
  rwa [zfe,zfe]at this
theorem q1q (w:World) (a b:Array Value) (tp c:TypeId):∃w3,w3=(w.alloc (.cells a tp)).alloc (.cells b c)/\Below w.heap.size w w3/\w3.heap.size=w.heap.size+2/\Blk w3 w.heap.size tp a/\Blk w3 (w.heap.size+1) c b:=by
 refine⟨_,rfl,q6t _ _ _,by simp,(Blk.new w _ _).next (qm _ _),?_⟩;have:=Blk.new (w.alloc (.cells a tp)) c b
 rwa [zfe]at this
theorem q15 (w:World) (a:Array Value) (tp:TypeId):∃w3,w3=w.alloc (.cells a tp)/\Below w.heap.size w w3/\w3.heap.size=w.heap.size+1/\Blk w3 w.heap.size tp a:=⟨_,rfl,qm _ _,by simp,Blk.new _ _ _⟩
theorem q6l {α:Type} {S:Sh α} {w w':World} {cs:List Value} {x:α} (h:S.rd w cs x) (a:Below w.heap.size w w'):S.rd w' cs x:=S.stab h a.block
theorem qe {w w':World} {p:Addr} {v:Value} (a:Below w.heap.size w w') (h:w.cell? p=some v):w'.cell? p=some v:=(a.cell (q50 h)).trans h
theorem q4y {P:Program} {f:FuncId} {a:Array Value} {w:World} {v:Value} (h:Calls P f a w fun e w'=>e=.returned v/\w=w'):Calls P f a w (Bl w v):=q1n (q2b h)
section
variable {H:Type} {enc:TypeId×Value->H} {P:Program} {w:World}
def q3z {α:Type} (enc:TypeId×Value->H) (P:Program) (w:World) (t:TypeId) (S:Sh α):Prop:=
 S.m=P.cellsOf t/\∀(fuel:Nat) (cs:List Value) (y:DataW H×List MemPlace),DataW.trod enc P w 0 (fun _=>true) true fuel t cs=some y->∃x,S.rd w cs x
theorem qn8 {α:Type} {R:World->Value->α->Prop} {t:TypeId} (h:Opens enc P w t R) (c:∀(fuel:Nat) (cs:List Value) (y:DataW H×List MemPlace),DataW.trod enc P w 0 (fun _=>true) true fuel t cs=some y->cs.length=1):
  ∀(fuel:Nat) (cs:List Value) (y:DataW H×List MemPlace),DataW.trod enc P w 0 (fun _=>true) true fuel t cs=some y->∃x v,cs= [v]/\R w v x:=fun fuel cs y b=>by
 have a:=c fuel cs y b
 match cs,a with
 | [v], _ =>
   obtain ⟨x, d⟩ := h fuel v y b;exact ⟨x, v, rfl, d⟩
theorem q3s {t:TypeId} (b:P.underlying t=some (.int .i64)) (g:P.cellsOf t=1):q3z enc P w t Sh.int:=⟨g.symm,fun a d y h=>by
 obtain⟨x,v,e,i⟩:=qn8 (qes b) (fun f c z j=>by obtain⟨n,e,-⟩:=DataW.trod_int b j;rw[e];rfl) a d y h
 exact⟨x,v,e,i⟩⟩
theorem qgm {t:TypeId} (b:P.underlying t=some .bool) (g:P.cellsOf t=1):q3z enc P w t Sh.bool:=⟨g.symm,fun a d y h=>by
 obtain⟨x,v,e,i⟩:=qn8 (qjp b) (fun f c z j=>by obtain⟨n,e,-⟩:=DataW.trod_bool b j;rw[e];rfl) a d y h
 exact⟨x,v,e,i⟩⟩
theorem qjo {t:TypeId} (b:P.underlying t=some .string) (g:P.cellsOf t=1):q3z enc P w t Sh.str:=⟨g.symm,fun a d y h=>by
 obtain⟨x,v,e,i⟩:=qn8 (qet b) (fun f c z j=>by obtain⟨n,e,-⟩:=DataW.trod_string b j;rw[e];rfl) a d y h
 exact⟨x,v,e,i⟩⟩
theorem qjv {t e:TypeId} (d:P.underlying t=some (.slice e)) (b:Nat) (cs:List Value) (y:DataW H×List MemPlace) (h:DataW.trod enc P w 0 (fun _=>true) true b t cs=some y):cs.length=1:=by
 rcases open_slice d h with⟨e,-⟩|⟨a,f,c,m,n,D,g,e,-⟩
 .rw[e];rfl
 .rw[e];rfl
theorem q4l {t e E:TypeId} (c:P.underlying t=some (.slice e)) (f:P.cellsOf e=1) (g:P.underlying e=some (.int .i64)) (b:P.cellsOf t=1):q3z enc P w t (Sh.il E):=⟨b.symm,fun a d y h=>by
 obtain⟨x,v,e,i⟩:=qn8 (qgn c f (qes g)).bare (qjv c) a d y h
 exact⟨x,v,e,i⟩⟩
theorem q7n {α:Type} {t e E:TypeId} {A:Sh α} (T:0<A.m) (ht:P.underlying t=some (.slice e)) (V:q3z enc P w e A) (I:P.cellsOf t=1):q3z enc P w t (Sh.rows A E):=⟨I.symm,fun S cs y h=>by
 rcases open_slice ht h with⟨e,-⟩|⟨a,c,Y,m,n,D,Pl,e,-,C,hm,u,-,g⟩
 .exact⟨[],none,0,0,e,RdN.nil _ _ _ _⟩
 .simp only[if_true]at u
  subst u;have r:∀k,k<c->∃x f,w.cells? 0 (a.add (k*A.m)) A.m=some f/\A.rd w f x:=fun k s=>by
   obtain⟨f,F,O⟩:=g k (by omega);obtain⟨x,N⟩:=V.2 n f _ O;rw[<-V.1]at F;exact⟨x,f,F,N⟩
  obtain⟨X,R,z⟩:∃l:List α,l.length=c/\∀(k:Nat) x,l[k]?=some x->∃f,w.cells? 0 (a.add (k*A.m)) A.m=some f/\A.rd w f x:=by
   clear g C hm e
   induction c with
   |zero=>exact⟨[],rfl,fun k x g=>by simp at g⟩
   | succ c ih =>
     obtain ⟨l, C, hp⟩ := ih fun k s => r k (by omega)
     obtain ⟨x, g⟩ := r c (by omega);refine ⟨l ++ [x], by simp [C], fun k y j => ?_⟩
     by_cases s : k < c
     . rw [zbv (by omega)] at j
       exact hp k y j
     . have L := (zag.1 j).1
       simp at L;have M : k = c := by omega
       subst M;rw [zbc (by omega), C, zda] at j;simp at j;subst j;exact g
  refine⟨X,some a,c,m,e,R,by omega,fun k x s=>?_⟩;obtain⟨f,F,N⟩:=z k x s;obtain⟨_,H,G⟩:=World.cells?_some F;have d:a.spot=none:=by
   have K:0<X.length:=by have:=(zag.1 s).1;omega
   obtain⟨B,Q,-⟩:=z 0 _ (zae K);obtain⟨_,U,q⟩:=World.cells?_some Q;have p:=q 0 T;have h2:B[0]?=some (B[0]'(by omega)):=zae (by omega);rw[h2]at p;have:=World.cell?_spot p
   simpa[Addr.add]using this
  obtain⟨b,o,spot⟩:=a;simp only at d;subst d;refine⟨b,o,f,rfl,H,fun i v W=>?_,N⟩;have J:i<A.m:=by have:=(zag.1 W).1;omega
  have p:=G i J;rw[W,add_add]at p;have Z:(⟨b,o,none⟩:Addr).add (k*A.m+i)=⟨b,o+k*A.m+i,none⟩:=by
   unfold Addr.add
   split
   .rename_i T
    rw[Addr.mk.injEq];exact⟨rfl,by show o=o+k*A.m+i;omega,rfl⟩
   .rw[Addr.mk.injEq]
    exact⟨rfl,by show o+(k*A.m+i)=o+k*A.m+i;omega,rfl⟩
  rw[<-Z]
  exact p⟩
def qh7 {α:Type} (enc:TypeId×Value->H) (P:Program) (w:World) (fs:List Field) (off:Nat) (S:Sh α):Prop:=
 ∀(n:Nat) (cs:List Value),cs.length=off+S.m->(∀f∈fs,∃y,DataW.trod enc P w 0 (fun _=>true) true n f.type ((cs.drop f.offset).take (P.cellsOf f.type))=some y)->∃x,S.rd w (cs.drop off) x
theorem q3r {α:Type} {f:Field} {a:Nat} {A:Sh α} (e:f.offset=a) (h:q3z enc P w f.type A):qh7 enc P w [f] a A:=fun n g d c=>by
 obtain⟨y,b⟩:=c f (zb2.2 rfl);rw[e,zar (by rw[zct,d,<-h.1];omega)]at b;exact h.2 n _ y b
theorem q1x {α β:Type} {f:Field} {fs:List Field} {a:Nat} {A:Sh α} {B:Sh β} (o:f.offset=a) (h:q3z enc P w f.type A) (i:qh7 enc P w fs (a+A.m) B):qh7 enc P w (f::fs) a (Sh.pair A B):=fun n b k d=>by
 have l:b.length=a+(A.m+B.m):=k;obtain⟨y,p⟩:=d f (zaq ..);obtain⟨x,e⟩:=h.2 n _ y p;obtain⟨q,c⟩:=i n b (by omega) fun g j=>d g (zap _ j)
 rw[o,<-h.1]at e;refine⟨(x,q),(b.drop a).take A.m,b.drop (a+A.m),?_,e,c⟩;rw[<-List.drop_drop,zcv]
theorem q33 {α:Type} {t:TypeId} {fs:Array Field} {S:Sh α} (q:P.underlying t=some (.struct fs)) (e:S.m=P.cellsOf t) (h:qh7 enc P w fs.toList 0 S):q3z enc P w t S:=⟨e,fun d g y l=>by
 obtain⟨u,n,-,-,b,s,j⟩:=DataW.trod_struct q l;obtain⟨x,r⟩:=h n g (by rw[b,e,zcn]) fun f c=>by
  obtain⟨i,o⟩:=zbo c;have a:fs[i]?=some f:=by simpa using o
  have p:=(zd8.1 a).1;have k:=j i f a;exact⟨u[i]'(by omega),by rw[k];exact zae (by omega)⟩
 exact⟨x,by simpa using r⟩⟩
theorem qgl {α:Type} {r:Reach} {b:Nat} {t:TypeId} {fs:Array Field} {v:Value} {d:DataW H} {p:List MemPlace} {S:Sh α} (e:P.underlying t=some (.struct fs)) (hS:q3z enc P w t S)
  (f:Value.okWide P w r b t v) (h:DataW.Trod enc P w 0 (fun _=>true) true t v d p):∃cs x,v=.agg cs/\S.rd w cs.toList x:=by
 obtain⟨cs,rfl,-⟩:=okWide_struct e f;obtain⟨a,c⟩:=h;obtain⟨x,g⟩:=hS.2 a _ _ c;exact⟨cs,x,rfl,by simpa[Value.cells]using g⟩
theorem qjn {α:Type} {t:TypeId} {v:Value} {d:DataW H} {p:List MemPlace} {S:Sh α} (hS:q3z enc P w t S) (c:v.cells.toList= [v]) (h:DataW.Trod enc P w 0 (fun _=>true) true t v d p):∃x,S.rd w [v] x:=by
 obtain⟨a,e⟩:=h;obtain⟨x,b⟩:=hS.2 a _ _ e;rw[c]at b;exact⟨x,b⟩
end
end
section
variable {α:Type} (mk:Int->α->α) (mc:α->Nat)
def mkL:Int->List α->List α
 |_, []=> []
 |k,x::l=>mk k x::mkL (k+mc x) l
theorem qcz:∀(k:Int) (xs:List α),(mkL mk mc k xs).length=xs.length
 |_, []=>rfl
 |k,x::l=>by simp[mkL,qcz]
def MkAt (k0:Int) (xs ys:List α) (j:Nat) (k:Int):Prop:=ys.take j++mkL mk mc k (xs.drop j)=mkL mk mc k0 xs/\ys.drop j=xs.drop j/\ys.length=xs.length/\k+cntS mc (xs.drop j)=k0+cntS mc xs/\k0<=k
def HkAt (k0:Int) (xs:List α) (j:Nat) (k:Int):Prop:=mkL mk mc k (xs.drop j)=(mkL mk mc k0 xs).drop j/\k+cntS mc (xs.drop j)=k0+cntS mc xs/\k0<=k
end
section
variable {α:Type} {mk:Int->α->α} {mc:α->Nat} {k0 k:Int} {xs ys:List α} {j:Nat} {x:α}
theorem MkAt.start (a:Int) (xs:List α):MkAt mk mc a xs xs 0 a:=⟨by simp,rfl,rfl,by simp,Int.le_refl _⟩
theorem MkAt.step (h:MkAt mk mc k0 xs ys j k) (hd:xs.drop j=x::xs.drop (j+1)):MkAt mk mc k0 xs (ys.set j (mk k x)) (j+1) (k+mc x):=by
 obtain⟨c,d,e,f,i⟩:=h;have g:j<xs.length:=by
  rcases zc9 j xs.length with h|h
  .exact h
  .rw[zbk h]at hd;cases hd
 have a:j<ys.length:=by omega
 refine⟨?_,?_,by simp[e],?_,by omega⟩
 .rw[<-c,hd,mkL,zbp,zeu a,List.take_set_of_le (zad j)]
  simp
 .rw[List.drop_set_of_lt (by omega)]
  have b:(ys.drop j).drop 1=(xs.drop j).drop 1:=by rw[d]
  simpa[List.drop_drop]using b
 .rw[hd,q1h]at f
  omega
theorem MkAt.done (h:MkAt mk mc k0 xs ys j k) (d:xs.drop j= []):ys=mkL mk mc k0 xs/\k=k0+cntS mc xs:=by
 obtain⟨a,b,e,c,f⟩:=h;rw[d]at a b c;rw[mkL,zc3]at a;rw[qca]at c;refine⟨?_,by omega⟩;rw[<-a];have:=zcv j ys;rw[b,zc3]at this;exact this.symm
theorem MkAt.left (h:MkAt mk mc k0 xs ys j k) (hd:xs.drop j=x::xs.drop (j+1)):ys[j]?=some x/\k0<=k/\k+mc x<=k0+cntS mc xs:=by
 obtain⟨d,a,f,b,c⟩:=h;rw[hd,q1h]at b;have e:=zav (fun l=>l[0]?) (a.trans hd);simp[zds]at e;exact⟨e,c,by omega⟩
theorem HkAt.start (a:Int) (xs:List α):HkAt mk mc a xs 0 a:=⟨rfl,rfl,Int.le_refl _⟩
theorem HkAt.step (h:HkAt mk mc k0 xs j k) (hd:xs.drop j=x::xs.drop (j+1)):HkAt mk mc k0 xs (j+1) (k+mc x):=by
 obtain⟨a,b,c⟩:=h;rw[hd,mkL]at a;rw[hd,q1h]at b;refine⟨?_,by omega,by omega⟩;have:=zav (fun l=>l.drop 1) a
 simpa[List.drop_drop]using this
theorem HkAt.left (h:HkAt mk mc k0 xs j k) (hd:xs.drop j=x::xs.drop (j+1)):(mkL mk mc k0 xs)[j]?=some (mk k x)/\k0<=k/\k+mc x<=k0+cntS mc xs:=by
 obtain⟨a,b,c⟩:=h;rw[hd,mkL]at a;rw[hd,q1h]at b;have e:=zav (fun l=>l[0]?) a;simp[zds]at e;exact⟨e.symm,c,by omega⟩
theorem HkAt.done (h:HkAt mk mc k0 xs j k) (b:xs.drop j= []):k=k0+cntS mc xs:=by
 obtain⟨-,a,-⟩:=h;rw[b,qca]at a;omega
end
theorem q4b {l:List Value} {i:Nat} {v:Value} (h:l[i]?=some v):l.set i v=l:=by
 apply zcl;intro j;rw[zcd]
 by_cases e:i=j
 .subst e
  rw[zam rfl,zam (zag.1 h).1,h]
 .rw[zaj e]
theorem q17 {l:List Value} {i j:Nat} {v u:Value} (h:l[j]?=some u) (a:i≠j):(l.set i v)[j]?=some u:=by rw[zdr a,h]
theorem q4n {w w':World} {base size n:Nat} {e:TypeId} {v:Value} {xs:List Value} {a:List Nat} (h:w.ownsRow base e size v n xs) (d:ChgB a w w') (f:∀b,v.ownBlock=some b->b∉a):w'.ownsRow base e size v n xs:=
 q2p h fun b c=>d.block b (h.lt b c).2 (f b c)
theorem Sh.ochg {α:Type} {S:Sh α} {w w':World} {cs:List Value} {x:α} {a c:List Nat} (h:S.own w cs x a) (e:ChgB c w w') (f:∀b∈a,b∉c):S.own w' cs x a:=S.osame h fun b d=>e.block b (S.olt h b d) (f b d)
theorem Sh.oset' {α:Type} {S:Sh α} {w:World} {cs:List Value} {x:α} {a:List Nat} (h:S.own w cs x a) {p:Addr} (d:p.block∉a) (v:Value):S.own (w.setCell p v) cs x a:=
 S.osame h fun b c=>za8 w p v b (fun e=>d (e ▸ c))
theorem Parts.slice {α:Type} {A:Sh α} {E:TypeId} {w:World} {v:Value} {xs:List α} {css:List (List Value)} {bls:List (List Nat)} (h:Parts A E w v xs css bls) {j:Nat} (d:j<xs.length):∃g cap,v=.slice (some ⟨g,0,none⟩) xs.length cap:=by
 rcases h.row.2 with⟨_,c⟩|⟨g,cap,a,b,_⟩
 .omega
 .exact⟨g,cap,b⟩
def MkE {α:Type} (S:Sh α) (w:World) (cs:List Value) (x:α) (bl:List Nat) (k:Int) (e:Ending) (w':World):Prop:=e=.returned (.int .i64 k)/\S.own w' cs x bl/\ChgB bl w w'
theorem qap {v:Value} {bls:List (List Nat)} (h:(obl v++bls.flatten).Nodup) {g n c:Nat} (b:v=.slice (some ⟨g,0,none⟩) n c):g∉bls.flatten:=by
 subst b;have:=(zbd.1 h).2.2 g (q1e.2 rfl);exact fun a=>this g a rfl
theorem qls:∀ {bls:List (List Nat)},bls.flatten.Nodup->∀b∈bls,b.Nodup
 | [],_,b,hb=>by simp at hb
 | x :: l, h, b, hb => by
   rw [zc6, zbd] at h
   rcases zbf.1 hb with rfl | hb
   . exact h.1
   . exact qls h.2.1 b hb
theorem qqr {v:Value} {bls:List (List Nat)} (h:(obl v++bls.flatten).Nodup) {j:Nat} {a:List Nat} (c:bls[j]?=some a):a.Nodup:=by
 have b:=(zbd.1 h).2.1;exact qls b a (zaf c)
theorem nd_l {a b:List Nat} (h:(a++b).Nodup):a.Nodup:=(zbd.1 h).1
theorem nd_r {a b:List Nat} (h:(a++b).Nodup):b.Nodup:=(zbd.1 h).2.1
theorem nd_x {a b:List Nat} (h:(a++b).Nodup):∀x∈a,x∉b:=fun x c d=>(zbd.1 h).2.2 x c x d rfl
theorem nd_y {a b:List Nat} (h:(a++b).Nodup):∀x∈b,x∉a:=fun x c d=>(zbd.1 h).2.2 x d x c rfl
theorem q2i (v:Value) (xs:List Int) (a:List Nat) (k:Int) (w:World) (h:(Sh.il 3).own w [v] xs a) (d:0<=k) (f:k+xs.length<=4611686018427387904):
  Calls Tryz.prog 53 #[v,.int .i64 k] w fun e w'=>e=.returned (.int .i64 (k+xs.length))/\(Sh.il 3).own w' [v] (nums k xs.length) a/\ChgB a w w':=by
 obtain⟨m,e,g,l,rfl⟩:=h;injection e with e _
 subst e;obtain⟨A,c,rfl⟩:=qu g;refine(qei A xs.length c xs k 0 w g d f).mono fun e w' ⟨i,b,j⟩=>⟨i,⟨_,rfl,by rw[q73];exact b,qgj d f,rfl⟩,ChgB.grown j⟩
theorem q6z (A:Option Addr) (n c:Nat) (xs:List Int) (k:Int) (w:World) (h:RdL RI w A n (nums k xs.length)) (a:0<=k) (b:k+xs.length<=4611686018427387904):
  Calls Tryz.prog 93 #[.slice A n c,.int .i64 k] w (Bl w (.int .i64 (k+xs.length))):=by
 have d:n=xs.length:=by rw[<-h.len,q73]
 subst d;exact q4y (qe2 A _ c k w h a b)
theorem Blk.chg' {w w':World} {g lo hi:Nat} {t:TypeId} {cs:Array Value} (h:Blk w g t cs) (a:Chg lo hi w w') (b:g<lo\/hi<=g):Blk w' g t cs:=(a.block g h.lt b).trans h
theorem qn6 (b:Bool):(b !=b)=false:=by cases b<;>rfl
def OwA {α:Type} (S:Sh α) (w:World) (x:α) (ok:Bool) (e:Ending) (w':World):Prop:=∃cs bl,e=.returned (.tuple #[.agg cs.toArray,.bool ok])/\S.own w' cs x bl/\Iv w.heap.size w'.heap.size bl/\Below w.heap.size w w'
theorem kk3 {w w':World} {b c d:Addr} {e f g:Value} (a:Below w.heap.size w w') (h:w.cell? b=some e) (i:w.cell? c=some f) (j:w.cell? d=some g):w'.cell? b=some e/\w'.cell? c=some f/\w'.cell? d=some g:=⟨qe a h,qe a i,qe a j⟩
theorem kk4 {w w':World} {b c d e:Addr} {f g h i:Value} (a:Below w.heap.size w w') (j:w.cell? b=some f) (k:w.cell? c=some g) (l:w.cell? d=some h) (m:w.cell? e=some i):w'.cell? b=some f/\w'.cell? c=some g/\w'.cell? d=some h/\w'.cell? e=some i:=⟨qe a j,qe a k,qe a l,qe a m⟩
theorem kk5 {w w':World} {b c d e f:Addr} {g h i j k:Value} (a:Below w.heap.size w w') (l:w.cell? b=some g) (m:w.cell? c=some h) (n:w.cell? d=some i) (o:w.cell? e=some j) (p:w.cell? f=some k):w'.cell? b=some g/\w'.cell? c=some h/\w'.cell? d=some i/\w'.cell? e=some j/\w'.cell? f=some k:=⟨qe a l,qe a m,qe a n,qe a o,qe a p⟩
theorem kk6 {w w':World} {b c d e f g:Addr} {h i j k l m:Value} (a:Below w.heap.size w w') (n:w.cell? b=some h) (o:w.cell? c=some i) (p:w.cell? d=some j) (q:w.cell? e=some k) (r:w.cell? f=some l) (s:w.cell? g=some m):w'.cell? b=some h/\w'.cell? c=some i/\w'.cell? d=some j/\w'.cell? e=some k/\w'.cell? f=some l/\w'.cell? g=some m:=⟨qe a n,qe a o,qe a p,qe a q,qe a r,qe a s⟩
theorem kk9 {w w':World} {b c d e f g h i j:Addr} {k l m n o p q r s:Value} (a:Below w.heap.size w w') (t:w.cell? b=some k) (u:w.cell? c=some l) (v:w.cell? d=some m) (x:w.cell? e=some n) (y:w.cell? f=some o) (z:w.cell? g=some p) (A:w.cell? h=some q) (B:w.cell? i=some r) (C:w.cell? j=some s):w'.cell? b=some k/\w'.cell? c=some l/\w'.cell? d=some m/\w'.cell? e=some n/\w'.cell? f=some o/\w'.cell? g=some p/\w'.cell? h=some q/\w'.cell? i=some r/\w'.cell? j=some s:=⟨qe a t,qe a u,qe a v,qe a x,qe a y,qe a z,qe a A,qe a B,qe a C⟩
theorem kk10 {w w':World} {b c d e f g h i j k:Addr} {l m n o p q r s t u:Value} (a:Below w.heap.size w w') (v:w.cell? b=some l) (x:w.cell? c=some m) (y:w.cell? d=some n) (z:w.cell? e=some o) (A:w.cell? f=some p) (B:w.cell? g=some q) (C:w.cell? h=some r) (D:w.cell? i=some s) (E:w.cell? j=some t) (F:w.cell? k=some u):w'.cell? b=some l/\w'.cell? c=some m/\w'.cell? d=some n/\w'.cell? e=some o/\w'.cell? f=some p/\w'.cell? g=some q/\w'.cell? h=some r/\w'.cell? i=some s/\w'.cell? j=some t/\w'.cell? k=some u:=⟨qe a v,qe a x,qe a y,qe a z,qe a A,qe a B,qe a C,qe a D,qe a E,qe a F⟩
theorem kk14 {w w':World} {n o p q r s t u v x b c d e:Addr} {y z A B C D E F G H f g h i:Value} (a:Below w.heap.size w w') (I:w.cell? n=some y) (J:w.cell? o=some z) (K:w.cell? p=some A) (L:w.cell? q=some B) (M:w.cell? r=some C) (N:w.cell? s=some D) (O:w.cell? t=some E) (P:w.cell? u=some F) (Q:w.cell? v=some G) (R:w.cell? x=some H) (j:w.cell? b=some f) (k:w.cell? c=some g) (l:w.cell? d=some h) (m:w.cell? e=some i):w'.cell? n=some y/\w'.cell? o=some z/\w'.cell? p=some A/\w'.cell? q=some B/\w'.cell? r=some C/\w'.cell? s=some D/\w'.cell? t=some E/\w'.cell? u=some F/\w'.cell? v=some G/\w'.cell? x=some H/\w'.cell? b=some f/\w'.cell? c=some g/\w'.cell? d=some h/\w'.cell? e=some i:=⟨qe a I,qe a J,qe a K,qe a L,qe a M,qe a N,qe a O,qe a P,qe a Q,qe a R,qe a j,qe a k,qe a l,qe a m⟩
abbrev OpM:Type:=(Int×List Int)
def shOp:Sh OpM:=(Sh.pair Sh.int (Sh.il 3))
theorem rdOp {w:World} {cs:List Value} {x:OpM} (h:shOp.rd w cs x):∃(ATable:Option Addr) (nTable cTable:Nat),cs= [.int .i64 x.1,.slice ATable nTable cTable]/\InR x.1/\RdL RI w ATable nTable x.2:=by
 obtain⟨_,_,rfl,⟨_,rfl,rfl,b,a⟩,⟨_,rfl,ATable,nTable,cTable,rfl,c⟩⟩:=h;exact⟨ATable,nTable,cTable,rfl,⟨b,a⟩,c⟩
theorem qoq (cs:List Value) (x:OpM) (left:Int) (w:World) (h:shOp.rd w cs x) (t:0<=left) (y:left<=1048576):
  Calls Tryz.prog 120 #[.agg cs.toArray,.int .i64 left] w (Bl w (.int .i64 (szR (shOp.cnt x) left))):=by
 obtain⟨b,d,c,rfl,n,a⟩:=rdOp h;obtain⟨z,l,r,u,o⟩:=q15 w #[.int .i64 x.1,.slice b d c] 150;have m:=a.le;have i:Hid (szR 0 left=left):=q61 t;have j:Hid (shOp.cnt x=(0+x.2.length)):=rfl;replace a:=a.next qd r
 go_enter Tryz.func120,Tryz.ntmps120
 have q:=o.cell 1;simp at q;rw[l]at q;go_wp2_with fail;rw[<-l];refine(q4y (q5e _ _ _ _ left _ a (by omega) (by omega))).mono ?_;rintro e A ⟨rfl,g⟩;rw[q5f];have s:=q9 r g rfl;replace o:=o.next g;replace a:=a.next qd g;clear q;have f:Hid (szR (0+x.2.length) left=szR x.2.length left):=by show _=_;rw[<-q3v (by rw[i.out];omega),i.out]
 have k:=q4o x.2.length (left:=left) (by omega);obtain⟨v,p⟩:∃L,Hid (szR x.2.length left=L):=⟨_,rfl⟩;rw[p.out]at f k⊢
 by_cases z0:v<0
 .go_wp2_with fail
  go_ret;exact⟨q11 (q6n (by rw[f.out];omega) (by rw[j.out];omega) t),s⟩
 go_wp2_with fail;go_ret;exact⟨q11 (by simp only[j.out,<-f.out];first|done|(congr 1;omega)),s⟩
theorem qor (cs:List Value) (x:OpM) (w:World) (h:shOp.rd w cs x) (T:shOp.cnt x<=1048576):
  Calls Tryz.prog 124 #[.agg cs.toArray] w (ToE shOp w x):=by
 obtain⟨k,a,l,rfl,m,i⟩:=rdOp h;have S:(0+x.2.length)<=1048576:=T;obtain⟨W,M,N,P,t,o,s⟩:=q7t w #[.int .i64 x.1,.slice k a l] #[.int .i64 0,.slice none 0 0] #[.int .i64 x.1,.slice none 0 0] 150 122;have q:=i.len
 go_enter Tryz.func124,Tryz.ntmps124
 go_wp2_with fail;rw[<-M];refine(q5g _ _ _ _ _ (i.next qd N) (by omega)).mono ?_;rintro e F ⟨c,rfl,E,f,n⟩;have g:(Sh.il 3).own F [.slice (some ⟨c,0,none⟩) a a] x.2 [c]:=⟨_,rfl,by rw[q];exact ql f (zah _),i.bounds,rfl⟩;have d:Iv W.heap.size F.heap.size [c]:=⟨by simp,fun b O=>by simp at O;subst O;exact f.lt _ rfl⟩;clear f;have U:=n.size;have Q:=q9 N n rfl;replace t:=t.next n;replace o:=o.next n;replace s:=s.next n;clear n;have C:=o.cell 0;have J:=o.frozen 0;have D:=o.cell 1;have K:=o.frozen 1;simp at C D;have A:=t.cell 0;have B:=t.cell 1;have y:=s.cell 0;have H:=s.frozen 0;have z:=s.cell 1;have I:=s.frozen 1;simp at A y B z;go_wp2_with fail;clear A y H B z I;clear C J D K;obtain⟨r,j⟩:∃wb,wb=(F.setCell ⟨w.heap.size+1+1,1,none⟩ (.slice (some ⟨c,0,none⟩) a a)):=⟨_,rfl⟩;have u:Blk r (w.heap.size+1+1) 122 #[.int .i64 x.1,.slice (some ⟨c,0,none⟩) a a]:=by rw[j];simpa using(s.set_ 1 (.slice (some ⟨c,0,none⟩) a a))
 replace t:Blk r w.heap.size 150 #[.int .i64 x.1,.slice k a l]:=by rw[j];exact(t.far (p:=⟨w.heap.size+1+1,1,none⟩) (by simp;try omega) (.slice (some ⟨c,0,none⟩) a a))
 replace o:Blk r (w.heap.size+1) 122 #[.int .i64 0,.slice none 0 0]:=by rw[j];exact(o.far (p:=⟨w.heap.size+1+1,1,none⟩) (by simp;try omega) (.slice (some ⟨c,0,none⟩) a a))
 replace s:=u;clear u;have R:Below w.heap.size w r:=by rw[j];exact(Q.setCell (by simp;try omega) (.slice (some ⟨c,0,none⟩) a a))
 have V:r.heap.size=F.heap.size:=by rw[j];simp
 replace g:(Sh.il 3).own r [.slice (some ⟨c,0,none⟩) a a] x.2 [c]:=by rw[j];exact Sh.oset (p:=⟨w.heap.size+1+1,1,none⟩) (g) d (by show w.heap.size+1+1<_;omega) (.slice (some ⟨c,0,none⟩) a a)
 rw[<-j];have G:Blk ((r.setCell ⟨w.heap.size+1,0,none⟩ (.int .i64 x.1)).setCell ⟨w.heap.size+1,1,none⟩ (.slice (some ⟨c,0,none⟩) a a)) (w.heap.size+1) 122 #[.int .i64 x.1,.slice (some ⟨c,0,none⟩) a a]:=by simpa using((o).set_ 0 (.int .i64 x.1)).set_ 1 (.slice (some ⟨c,0,none⟩) a a)
 (try simp only[Exit.inBlock,Exit.then])
 refine zat (v:=.agg #[.int .i64 x.1,.slice (some ⟨c,0,none⟩) a a]) (zb0 rfl _ _ (w.heap.size+1) 122 #[.int .i64 x.1,.slice (some ⟨c,0,none⟩) a a] (0,0) _ (by simp) G Tryz.underlying122 rfl (by kernel_rfl)) rfl ?_;have L:((r.setCell ⟨w.heap.size+1,0,none⟩ (.int .i64 x.1)).setCell ⟨w.heap.size+1,1,none⟩ (.slice (some ⟨c,0,none⟩) a a)).heap.size=r.heap.size:=by simp
 refine⟨_, [c],rfl,⟨[.int .i64 x.1], [.slice (some ⟨c,0,none⟩) a a], [], [c],rfl,rfl,⟨_,rfl,⟨rfl,m.1,m.2⟩,rfl⟩,(Sh.oset (p:=⟨w.heap.size+1,1,none⟩) (Sh.oset (p:=⟨w.heap.size+1,0,none⟩) (g) d (by show w.heap.size+1<_;omega) (.int .i64 x.1)) d (by show w.heap.size+1<_;omega) (.slice (some ⟨c,0,none⟩) a a))⟩,?_,((R).setCell (by simp;try omega) (.int .i64 x.1)).setCell (by simp;try omega) (.slice (some ⟨c,0,none⟩) a a)⟩;rw[L];exact Iv.mono d (by omega) (by omega)
theorem qs7 (x y:OpM):eqC x y=(eqC (x.1) (y.1) &&eqC (x.2) (y.2)):=by
 obtain⟨a,b⟩:=x;obtain⟨c,d⟩:=y;simp only[q6x]
theorem qne (cs ds:List Value) (x y:OpM) (w:World) (h:shOp.rd w cs x) (E:shOp.rd w ds y):
  Calls Tryz.prog 155 #[.agg cs.toArray,.agg ds.toArray] w (Bl w (.bool (eqC x y))):=by
 obtain⟨o,r,q,rfl,z,b⟩:=rdOp h;obtain⟨k,n,m,rfl,v,a⟩:=rdOp E;obtain⟨H,d,u,D,s,t⟩:=q1q w #[.int .i64 x.1,.slice o r q] #[.int .i64 y.1,.slice k n m] 122 122;replace b:=b.next qd u;replace a:=a.next qd u;have A:=zaa (qs7 x y)
 go_enter Tryz.func155,Tryz.ntmps155
 rcases hd0:eqC (x.1) (y.1)with _|_
 .have G:(x.1 !=y.1)=true:=q3i hd0
  have p:=zaa hd0;clear hd0;have f:=s.cell 0;have i:=t.cell 0;simp at f i;rw[d]at f i;go_wp2_with fail;go_ret;exact⟨qg (by rw[A.out,p.out];first|rfl|simp),by first|exact u|(rw[<-d];exact u)⟩
 have C:(x.1 !=y.1)=false:=q3i hd0;have p:=zaa hd0;clear hd0;have f:=s.cell 0;have i:=t.cell 0;simp at f i;rw[d]at f i
 rcases hd1:eqC (x.2) (y.2)with _|_
 .have l:=zaa hd1
  clear hd1;have g:=s.cell 1;have j:=t.cell 1;simp at g j;rw[d]at g j;go_wp2_with fail;rw[<-d];refine(q1n (q2v _ _ _ _ _ _ _ _ _ b a)).mono ?_;rintro e F ⟨rfl,c⟩;rw[q2w];rw[l.out];have B:=q9 u c rfl;go_wp2_with fail;go_ret;exact⟨qg (by rw[A.out,p.out,l.out];first|rfl|simp),B⟩
 have l:=zaa hd1;clear hd1;have g:=s.cell 1;have j:=t.cell 1;simp at g j;rw[d]at g j;go_wp2_with fail;rw[<-d];refine(q1n (q2v _ _ _ _ _ _ _ _ _ b a)).mono ?_;rintro e F ⟨rfl,c⟩;rw[q2w];rw[l.out];have B:=q9 u c rfl;clear g j f i C;replace s:=s.next c;replace t:=t.next c;replace b:=b.next qd c;replace a:=a.next qd c;go_wp2_with fail;go_ret;exact⟨qg (by rw[A.out,p.out,l.out];first|rfl|simp),B⟩
theorem qmp (A:Option Addr) (n c:Nat) (xs:List OpM) (left:Int) (w:World) (h:RdN shOp.m shOp.rd w A n xs) (Q:0<=left) (R:left<=1048576):
  Calls Tryz.prog 66 #[.slice A n c,.int .i64 left] w (Bl w (.int .i64 (szR (xs.length+cntS shOp.cnt xs) left))):=by
 have P:=h.le;have s:=zaa h.len
 by_cases h2:left - n<0
 .go_enter Tryz.func66,Tryz.ntmps66
  go_wp2
  go_ret;exact⟨q11 (q7s (by rw[s.out];exact h2) _),zac _ _⟩
 .have E:=zaa (qh3 (a:=xs.length) (by rw[s.out];exact h2) (cntS shOp.cnt xs))
  go_enter Tryz.func66,Tryz.ntmps66
  go_wp2
  go_loopw [1,5] (fun l i wr=>∃(k:Nat) (d:Int),k<=n/\i=.int .i64 k/\l=.int .i64 d/\0<=d/\d<=1048576/\SumAt shOp.cnt xs (left - n) d k/\Below w.heap.size w wr) (fun _ i _=>n - (intOf i).toNat)
  case atStart=>exact⟨0,_,zah _,rfl,rfl,by omega,by omega,SumAt.start _ _ _,zac _ _⟩
  case round=>
   obtain⟨k,d,S,rfl,rfl,p,C,H,y⟩:=hrel;replace h:=h.next y
   by_cases hlt:k<n
   .obtain⟨b,o,T,x,rfl,-,B,G,hd,-⟩:=h.at hlt
    obtain⟨f,j,g,rfl,t,u⟩:=rdOp G;have J:wr.cell? ⟨b,o+k*2,none⟩=some (.int .i64 x.1):=B 0 _ rfl;have K:wr.cell? ⟨b,o+k*2+1,none⟩=some (.slice f j g):=B 1 _ rfl;clear B;have D:=zaa hd;clear hd;have M:=q4o (shOp.cnt x) (left:=d) p;have N:(0:Int)<=(k:Int):=by omega
    have O:(k:Int)<(n:Int):=by omega
    go_wp2_with fail;refine(qoq [.int .i64 x.1,.slice f j g] x d _ G p C).mono ?_;rintro e U ⟨rfl,z⟩;have q:=q9 y z rfl;obtain⟨L,r⟩:∃L,Hid (szR (shOp.cnt x) d=L):=⟨_,rfl⟩;rw[r.out]at M⊢
    by_cases hz:L<0
    .have v:Hid ((-1:Int)=szR (xs.length+cntS shOp.cnt xs) left):=(H.stop D.out (by rw[r.out];exact hz) p).trans (by rw[<-s.out];exact E.out)
     go_wp2_with fail;go_ret;exact⟨q11 v.out,q⟩
    .have I:Hid (SumAt shOp.cnt xs (left - n) L (k+1)):=by have:=H.step D.out (by rw[r.out];exact hz);rw[r.out]at this;exact this
     go_wp2_with fail
     go_roundw
     case rel=>exact⟨k+1,_,by omega,by go_num,rfl,by omega,by omega,I.out,q⟩
     case measure=>simp[intOf];omega
   .have v:Hid (d=szR (xs.length+cntS shOp.cnt xs) left):=(H.done (h.drop_end hlt) p).trans (by rw[<-s.out];exact E.out)
    have F:¬(k:Int)<(n:Int):=by omega
    go_wp2_with fail;go_ret;exact⟨q11 v.out,y⟩
theorem qkv:(Tryz.prog.info? 122).map (fun i=>(i.zero,i.size))=some (some (.agg #[.int .i64 0,.slice none 0 0]),2):=by kernel_rfl
theorem qnn:(Tryz.prog.info? 122).all (fun i=>decide (i.bytes<=256))=true:=by kernel_rfl
theorem qqj (w:World) {ops:Array Oper} {d:List Oper} {o:Oper} {a:Act} {Q:Exit->Act->World->Prop} (q:o.guard=none) (l c:Operand) (h:o.op=Op.makeSlice 22 l c)
  (n:Nat) (r:a.eval l=.int .i64 n) (p:a.eval c=.int .i64 n) (b:n<=1048576)
  (hK:∀w',w'.ownsRow w.heap.size 122 shOp.m (.slice (some ⟨w.heap.size,0,none⟩) n n) n (List.replicate n [.int .i64 0,.slice none 0 0]).flatten->w.grownBy w' none->wpList Tryz.prog ops Q d (a.put o.dst (.slice (some ⟨w.heap.size,0,none⟩) n n)) w'):
  wpList Tryz.prog ops Q (o::d) a w:=by
 rcases hi:Tryz.prog.info? 122 with _|i
 .exfalso
  have:=qkv;rw[hi]at this;simp at this
 have e:=qkv;have f:=qnn;rw[hi]at e f;simp only[Option.map_some,zc5,Prod.mk.injEq]at e;simp only[Option.all_some,decide_eq_true_eq]at f;have g:i.bytes*n<=256*1048576:=zci f b;refine wpList_make_full w q l c 22 h w.heap.size 122 i (.agg #[.int .i64 0,.slice none 0 0]) 2 ze7 hi e.1 e.2 .i64 .i64 n n n r p rfl rfl (by first|omega|(have:=Int.ofNat_le.2 g;simp at this⊢;omega)) (by unfold maxLen;omega) (zad _) ?_;intro w' j k;refine hK w' ?_ k;rw[<-qal [.int .i64 0,.slice none 0 0] n (by decide)];exact j
theorem qmt (A:Option Addr) (n c:Nat) (xs:List OpM) (w:World) (h:RdN shOp.m shOp.rd w A n xs) (M:xs.length+cntS shOp.cnt xs<=1048576):
  Calls Tryz.prog 72 #[.slice A n c] w (ToV (Sh.rows shOp 122) w xs):=by
 have C:=zaa h.len;have aa:n<=1048576:=by have:=h.len;omega
 have O:=zaa M;clear M
 go_enter Tryz.func72,Tryz.ntmps72
 go_wp2_with (at_make;refine qqj _ rfl _ _ rfl n rfl rfl (by omega) ?_;intro w1 a B)
 have t:=(zac w.heap.size w).grown B (zad _) (by simp);clear B
 go_loopw [4] (fun i wr=>∃(k:Nat) (z:List (List Value)) (bls:List (List Nat)),k<=n/\i=.int .i64 k/\FillN shOp 122 [.int .i64 0,.slice none 0 0] w.heap.size w.heap.size n wr xs z bls k/\Below w.heap.size w wr) (fun i _=>n - (intOf i).toNat)
 case atStart=>exact⟨0,_,_,zah _,rfl,FillN.start a,t⟩
 case round=>
  clear a t;obtain⟨k,z,bls,X,rfl,a,t⟩:=hrel;replace h:=h.next t
  by_cases hlt:k<n
  .obtain⟨b,o,vs,x,rfl,-,G,N,-,J⟩:=h.at hlt
   obtain⟨g,l,j,rfl,D,E⟩:=rdOp N;have P:wr.cell? ⟨b,o+k*2,none⟩=some (.int .i64 x.1):=G 0 _ rfl;have Q:wr.cell? ⟨b,o+k*2+1,none⟩=some (.slice g l j):=G 1 _ rfl;clear G;have V:=zaa J;have H:shOp.cnt x<=1048576:=by have:=q3w (f:=shOp.cnt) (zaf J);have:=O.out;omega
   clear J;have Y:(0:Int)<=(k:Int):=by omega
   have Z:(k:Int)<(n:Int):=by omega
   go_wp2_with fail;refine(qor [.int .i64 x.1,.slice g l j] x _ N H).mono ?_;rintro e K ⟨ds,bk,rfl,v,s,u⟩;obtain⟨p,r,q,rfl,-,-⟩:=rdOp (shOp.ord v);have F:=q9 t u rfl;have d:=a.next u;have I:w.heap.size<=wr.heap.size:=t.size;have y:=a.set_ rfl u hlt V.out v s.1 (fun b W=>(s.2 b W).1) I;have R:K.cell? ⟨w.heap.size,k*2,none⟩=some (.int .i64 0):=d.cell rfl hlt (i:=0) rfl;have T:=d.frozen (k*2);have S:K.cell? ⟨w.heap.size,k*2+1,none⟩=some (.slice none 0 0):=d.cell rfl hlt (i:=1) rfl;have U:=d.frozen (k*2+1);replace y:FillN shOp 122 [.int .i64 0,.slice none 0 0] w.heap.size w.heap.size n ((K.setCell ⟨w.heap.size,k*2,none⟩ (.int .i64 x.1)).setCell ⟨w.heap.size,k*2+1,none⟩ (.slice p r q)) xs _ _ (k+1):=y;clear a d v;go_wp2_with fail
   go_roundw
   case rel=>exact⟨k+1,_,_,by omega,by go_num,y,((F).setCell (zad _) _).setCell (zad _) _⟩
   case measure=>simp[intOf];omega
  .have hd:=a.done C.out hlt X
   have s:Iv w.heap.size wr.heap.size (w.heap.size::bls.flatten):=⟨a.nd,a.lo_⟩;have L:¬(k:Int)<(n:Int):=by omega
   clear a;go_wp2_with fail;go_ret;exact⟨_,_,rfl,hd,s,t⟩
theorem qdx (A B:Option Addr) (n m c d:Nat) (xs T:List OpM) (w:World) (h:RdN shOp.m shOp.rd w A n xs) (s:RdN shOp.m shOp.rd w B m T):
  Calls Tryz.prog 88 #[.slice A n c,.slice B m d] w (Bl w (.bool (eqC xs T))):=by
 have ac:=h.le;have W:=s.le
 by_cases hnm:n=m
 .subst hnm
  go_enter Tryz.func88,Tryz.ntmps88
  go_wp2
  go_loopw [5] (fun i wr=>∃k:Nat,k<=n/\i=.int .i64 k/\EqdAt xs T k/\Below w.heap.size w wr) (fun i _=>n - (intOf i).toNat)
  case atStart=>exact⟨0,zah _,rfl,EqdAt.start _ _,zac _ _⟩
  case round=>
   obtain⟨k,hk,rfl,H,M⟩:=hrel;replace h:=h.next M;replace s:=s.next M
   by_cases hlt:k<n
   .obtain⟨b,o,vs,x,rfl,-,S,Y,hd,-⟩:=h.at hlt
    obtain⟨K,N,ae,y,rfl,-,r,G,F,-⟩:=s.at hlt;obtain⟨j,p,l,rfl,O,P⟩:=rdOp Y;obtain⟨a,g,f,rfl,I,J⟩:=rdOp G;have t:wr.cell? ⟨b,o+k*2,none⟩=some (.int .i64 x.1):=S 0 _ rfl;have z:wr.cell? ⟨K,N+k*2,none⟩=some (.int .i64 y.1):=r 0 _ rfl;have u:wr.cell? ⟨b,o+k*2+1,none⟩=some (.slice j p l):=S 1 _ rfl;have C:wr.cell? ⟨K,N+k*2+1,none⟩=some (.slice a g f):=r 1 _ rfl;clear S r;have U:=zaa hd;have V:=zaa F;clear hd F;have aa:(0:Int)<=(k:Int):=by omega
    have ab:(k:Int)<(n:Int):=by omega
    obtain⟨L,Q⟩:∃L,Hid (eqC x y=L):=⟨_,rfl⟩;have q:Below wr.heap.size wr wr:=zac _ _;go_upto_region 6 with fail
    go_cut [26] (fun v wx=>v=.bool (!L)/\Below wr.heap.size wr wx)
    case first=>
     go_region_held3 (fun w'=>w'.cell? ⟨b,o+k*2,none⟩=some (.int .i64 x.1)/\w'.cell? ⟨K,N+k*2,none⟩=some (.int .i64 y.1)/\w'.cell? ⟨b,o+k*2+1,none⟩=some (.slice j p l)/\w'.cell? ⟨K,N+k*2+1,none⟩=some (.slice a g f)) (first|go_keep|exact⟨qe q t,qe q z,qe q u,qe q C⟩) ((go_at_call 155;refine(qne [.int .i64 x.1,.slice j p l] [.int .i64 y.1,.slice a g f] x y _ (shOp.stab Y (by first|exact q.block|exact(zai q).block)) (shOp.stab G (by first|exact q.block|exact(zai q).block))).mono ?_;rintro e wn ⟨rfl,R⟩;replace q:=q9 (by first|exact q|exact zai q) R rfl;rw[Q.out]))
     all_goals(go_wp2_with fail;go_meet;exact⟨rfl,q⟩)
    case rest=>
     obtain⟨rfl,E⟩:=hcut;have D:=q9 M E rfl;clear E q t z u C
     rcases L with _|_
     .go_wp2_with fail
      go_ret;exact⟨qg (H.stop U.out V.out Q.out),D⟩
     .go_wp2_with fail
      go_roundw
      case rel=>exact⟨k+1,by omega,by go_num,H.step U.out V.out Q.out,D⟩
      case measure=>simp[intOf];omega
   .have X:¬(k:Int)<(n:Int):=by omega
    go_wp2_with fail;go_ret;exact⟨qg (H.done (h.drop_end hlt) (s.drop_end hlt)),M⟩
 .have ad:((n:Int) !=(m:Int))=true:=by rw[bne_iff_ne];omega
  have Z:=zaa (qfs h.len s.len hnm)
  go_enter Tryz.func88,Tryz.ntmps88
  go_wp2_with fail;go_ret;exact⟨qg Z.out,zac _ _⟩
abbrev qi:Type:=(Int×List OpM)
def qf:Sh qi:=(Sh.pair Sh.int (Sh.rows shOp 122))
theorem qv {w:World} {cs:List Value} {x:qi} (h:qf.rd w cs x):∃(AOps:Option Addr) (nOps cOps:Nat),cs= [.int .i64 x.1,.slice AOps nOps cOps]/\InR x.1/\RdN shOp.m shOp.rd w AOps nOps x.2:=by
 obtain⟨_,_,rfl,⟨_,rfl,rfl,b,a⟩,⟨AOps,nOps,cOps,rfl,c⟩⟩:=h;exact⟨AOps,nOps,cOps,rfl,⟨b,a⟩,c⟩
theorem q30 {w:World} {x:qi} {a:Option Addr} {c cOps:Nat} (b:InR x.1) (d:RdN shOp.m shOp.rd w a c x.2):qf.rd w [.int .i64 x.1,.slice a c cOps] x:=
 ⟨[.int .i64 x.1], [.slice a c cOps],rfl,⟨_,rfl,rfl,b.1,b.2⟩,⟨_,_,_,rfl,d⟩⟩
theorem qdf (cs:List Value) (x:qi) (left:Int) (w:World) (h:qf.rd w cs x) (s:0<=left) (y:left<=1048576):
  Calls Tryz.prog 30 #[.agg cs.toArray,.int .i64 left] w (Bl w (.int .i64 (szR (qf.cnt x) left))):=by
 obtain⟨d,l,i,rfl,p,a⟩:=qv h;obtain⟨z,k,q,t,m⟩:=q15 w #[.int .i64 x.1,.slice d l i] 39;have u:=a.le;have f:Hid (szR 0 left=left):=q61 s;have g:Hid (qf.cnt x=(0+(x.2.length+cntS shOp.cnt x.2))):=rfl;replace a:=a.next q
 go_enter Tryz.func30,Tryz.ntmps30
 have o:=m.cell 1;simp at o;rw[k]at o;go_wp2_with fail;rw[<-k];refine(qmp _ _ _ _ left _ a (by omega) (by omega)).mono ?_;rintro e A ⟨rfl,c⟩;have r:=q9 q c rfl;replace m:=m.next c;replace a:=a.next c;clear o;have b:Hid (szR (0+(x.2.length+cntS shOp.cnt x.2)) left=szR (x.2.length+cntS shOp.cnt x.2) left):=by show _=_;rw[<-q3v (by rw[f.out];omega),f.out]
 have j:=q4o (x.2.length+cntS shOp.cnt x.2) (left:=left) (by omega);obtain⟨v,n⟩:∃L,Hid (szR (x.2.length+cntS shOp.cnt x.2) left=L):=⟨_,rfl⟩;rw[n.out]at b j⊢
 by_cases z0:v<0
 .go_wp2_with fail
  go_ret;exact⟨q11 (q6n (by rw[b.out];omega) (by rw[g.out];omega) s),r⟩
 go_wp2_with fail;go_ret;exact⟨q11 (by simp only[g.out,<-b.out];first|done|(congr 1;omega)),r⟩
theorem qdj (cs:List Value) (x:qi) (w:World) (h:qf.rd w cs x) (U:qf.cnt x<=1048576):
  Calls Tryz.prog 37 #[.agg cs.toArray] w (ToE qf w x):=by
 obtain⟨n,r,q,rfl,k,s⟩:=qv h;have T:(0+(x.2.length+cntS shOp.cnt x.2))<=1048576:=U;obtain⟨X,L,M,O,t,l,o⟩:=q7t w #[.int .i64 x.1,.slice n r q] #[.int .i64 0,.slice none 0 0] #[.int .i64 x.1,.slice none 0 0] 39 24;have N:=s.len
 go_enter Tryz.func37,Tryz.ntmps37
 go_wp2_with fail;rw[<-L];refine(qmt _ _ _ _ _ (s.next M) (by omega)).mono ?_;rintro e Q ⟨E,d,rfl,i,g,j⟩;obtain⟨a,c,b,P,-⟩:=(Sh.rows shOp 122).ord i;obtain rfl:E=.slice a c b:=by simpa using P
 clear P;have V:=j.size;have R:=q9 M j rfl;replace t:=t.next j;replace l:=l.next j;replace o:=o.next j;clear j;have C:=l.cell 0;have I:=l.frozen 0;have D:=l.cell 1;have J:=l.frozen 1;simp at C D;have A:=t.cell 0;have B:=t.cell 1;have y:=o.cell 0;have G:=o.frozen 0;have z:=o.cell 1;have H:=o.frozen 1;simp at A y B z;go_wp2_with fail;clear A y G B z H;clear C I D J;obtain⟨m,f⟩:∃wb,wb=(Q.setCell ⟨w.heap.size+1+1,1,none⟩ (.slice a c b)):=⟨_,rfl⟩;have u:Blk m (w.heap.size+1+1) 24 #[.int .i64 x.1,.slice a c b]:=by rw[f];simpa using(o.set_ 1 (.slice a c b))
 replace t:Blk m w.heap.size 39 #[.int .i64 x.1,.slice n r q]:=by rw[f];exact(t.far (p:=⟨w.heap.size+1+1,1,none⟩) (by simp;try omega) (.slice a c b))
 replace l:Blk m (w.heap.size+1) 24 #[.int .i64 0,.slice none 0 0]:=by rw[f];exact(l.far (p:=⟨w.heap.size+1+1,1,none⟩) (by simp;try omega) (.slice a c b))
 replace o:=u;clear u;have S:Below w.heap.size w m:=by rw[f];exact(R.setCell (by simp;try omega) (.slice a c b))
 have W:m.heap.size=Q.heap.size:=by rw[f];simp
 replace i:(Sh.rows shOp 122).own m [.slice a c b] x.2 d:=by rw[f];exact Sh.oset (p:=⟨w.heap.size+1+1,1,none⟩) (i) g (by show w.heap.size+1+1<_;omega) (.slice a c b)
 rw[<-f];have F:Blk ((m.setCell ⟨w.heap.size+1,0,none⟩ (.int .i64 x.1)).setCell ⟨w.heap.size+1,1,none⟩ (.slice a c b)) (w.heap.size+1) 24 #[.int .i64 x.1,.slice a c b]:=by simpa using((l).set_ 0 (.int .i64 x.1)).set_ 1 (.slice a c b)
 (try simp only[Exit.inBlock,Exit.then])
 refine zat (v:=.agg #[.int .i64 x.1,.slice a c b]) (zb0 rfl _ _ (w.heap.size+1) 24 #[.int .i64 x.1,.slice a c b] (0,0) _ (by simp) F zb4 rfl (by kernel_rfl)) rfl ?_;have K:((m.setCell ⟨w.heap.size+1,0,none⟩ (.int .i64 x.1)).setCell ⟨w.heap.size+1,1,none⟩ (.slice a c b)).heap.size=m.heap.size:=by simp
 refine⟨_,d,rfl,⟨[.int .i64 x.1], [.slice a c b], [],d,rfl,rfl,⟨_,rfl,⟨rfl,k.1,k.2⟩,rfl⟩,(Sh.oset (p:=⟨w.heap.size+1,1,none⟩) (Sh.oset (p:=⟨w.heap.size+1,0,none⟩) (i) g (by show w.heap.size+1<_;omega) (.int .i64 x.1)) g (by show w.heap.size+1<_;omega) (.slice a c b))⟩,?_,((S).setCell (by simp;try omega) (.int .i64 x.1)).setCell (by simp;try omega) (.slice a c b)⟩;rw[K];exact Iv.mono g (by omega) (by omega)
theorem qix (x y:qi):eqC x y=(eqC (x.1) (y.1) &&eqC (x.2) (y.2)):=by
 obtain⟨a,b⟩:=x;obtain⟨c,d⟩:=y;simp only[q6x]
theorem q7w (cs ds:List Value) (x y:qi) (w:World) (h:qf.rd w cs x) (E:qf.rd w ds y):
  Calls Tryz.prog 46 #[.agg cs.toArray,.agg ds.toArray] w (Bl w (.bool (eqC x y))):=by
 obtain⟨s,u,t,rfl,C,b⟩:=qv h;obtain⟨m,o,n,rfl,v,a⟩:=qv E;obtain⟨H,d,r,D,p,q⟩:=q1q w #[.int .i64 x.1,.slice s u t] #[.int .i64 y.1,.slice m o n] 24 24;replace b:=b.next r;replace a:=a.next r;have z:=zaa (qix x y)
 go_enter Tryz.func46,Tryz.ntmps46
 rcases hd0:eqC (x.1) (y.1)with _|_
 .have G:(x.1 !=y.1)=true:=q3i hd0
  have l:=zaa hd0;clear hd0;have f:=p.cell 0;have i:=q.cell 0;simp at f i;rw[d]at f i;go_wp2_with fail;go_ret;exact⟨qg (by rw[z.out,l.out];first|rfl|simp),by first|exact r|(rw[<-d];exact r)⟩
 have B:(x.1 !=y.1)=false:=q3i hd0;have l:=zaa hd0;clear hd0;have f:=p.cell 0;have i:=q.cell 0;simp at f i;rw[d]at f i
 rcases hd1:eqC (x.2) (y.2)with _|_
 .have k:=zaa hd1
  clear hd1;have g:=p.cell 1;have j:=q.cell 1;simp at g j;rw[d]at g j;go_wp2_with fail;rw[<-d];refine(qdx _ _ _ _ _ _ _ _ _ b a).mono ?_;rintro e F ⟨rfl,c⟩;rw[k.out];have A:=q9 r c rfl;go_wp2_with fail;go_ret;exact⟨qg (by rw[z.out,l.out,k.out];first|rfl|simp),A⟩
 have k:=zaa hd1;clear hd1;have g:=p.cell 1;have j:=q.cell 1;simp at g j;rw[d]at g j;go_wp2_with fail;rw[<-d];refine(qdx _ _ _ _ _ _ _ _ _ b a).mono ?_;rintro e F ⟨rfl,c⟩;rw[k.out];have A:=q9 r c rfl;clear g j f i B;replace p:=p.next c;replace q:=q.next c;replace b:=b.next c;replace a:=a.next c;go_wp2_with fail;go_ret;exact⟨qg (by rw[z.out,l.out,k.out];first|rfl|simp),A⟩
def mcOp (x:OpM):Nat:=1+x.2.length
def mqOp (k:Int) (x:OpM):OpM:=(k,nums (k+1) x.2.length)
def q1i (x:qi):Nat:=cntS mcOp x.2
def q6e (k:Int) (x:qi):qi:=(x.1,mkL mqOp mcOp k x.2)
theorem qgg (v:Value) (xs:List OpM) (bl:List Nat) (H:Int) (w:World) (h:(Sh.rows shOp 122).own w [v] xs bl) (S:bl.Nodup) (h0:0<=H) (h1:H+cntS mcOp xs<=4611686018427387904):
  Calls Tryz.prog 90 #[v,.int .i64 H] w (MkE (Sh.rows shOp 122) w [v] (mkL mqOp mcOp H xs) bl (H+cntS mcOp xs)):=by
 obtain⟨v',N,bls,e,y,rfl⟩:=h;injection e with e _
 subst e;obtain⟨A,c,rfl⟩:=qu y.row;have hnl:=q5b y.row;unfold maxLen at hnl;have L:=zaa S;clear S
 go_enter Tryz.func90,Tryz.ntmps90
 go_wp2
 go_loopw [1,5] (fun q i wr=>∃(j:Nat) (k:Int) (J:List OpM) (a:List (List Value)),j<=xs.length/\i=.int .i64 j/\q=.int .i64 k/\MkAt mqOp mcOp H xs J j k/\Parts shOp 122 wr (.slice A xs.length c) J a bls/\ChgB (obl (.slice A xs.length c)++bls.flatten) w wr) (fun _ i _=>xs.length - (intOf i).toNat)
 case atStart=>exact⟨0,H,xs,N,zah _,rfl,rfl,MkAt.start _ _,y,ChgB.refl _ _⟩
 case round=>
  clear y;obtain⟨j,k,J,a,hj,rfl,rfl,K,t,CH⟩:=hrel;have C:J.length=xs.length:=K.2.2.1
  by_cases hlt:j<xs.length
  .have hd:xs.drop j=xs[j]::xs.drop (j+1):=zbq hlt
   generalize xs[j]=x at hd
   obtain⟨T,hk0,hk1⟩:=K.left hd;have HS:=zaa (K.step hd);obtain⟨g,cap,hv⟩:=t.slice (by omega:j<J.length);injection hv with hA hn2 z
   subst hA;clear hn2 z;have hl1:=t.l1;have hl2:=t.l2;have n:a[j]?=some (a[j]'(by omega)):=zae (by omega);have r:bls[j]?=some (bls[j]'(by omega)):=zae (by omega)
   generalize a[j]'(by omega)=cj at n
   generalize bls[j]'(by omega)=bk at r
   have ho:=t.el j cj x bk n T r;obtain⟨c0,c1,b0,I,rfl,rfl,O0,O1⟩:=ho;obtain⟨_,rfl,⟨rfl,lo0,hi0⟩,rfl⟩:=O0;obtain⟨_,rfl,B,m,d,rfl,-⟩:=(Sh.il 3).ord O1;have P:=qap L.out (g:=g) rfl;have O:∀b∈I,b∈bls.flatten:=fun b f=>zbm.2 ⟨_,zaf r,by simpa using f⟩
   have Q:g∉I:=fun hh=>P (O g hh)
   have hmb:j*2+2<=xs.length*2:=by omega
   have l:=t.row;rw[C]at l;have F:=t.all;have q0:j*2<xs.length*shOp.m:=by show _<_*2;omega
   have q1:j*2+1<xs.length*shOp.m:=by show _<_*2;omega
   have F0:a.flatten[j*2]?=some (.int .i64 x.1):=by have:=q1j F j 0 (by decide);rw[n]at this;exact this
   have X:a.flatten[j*2+1]?=some (.slice B m d):=by have:=q1j F j 1 (by decide);rw[n]at this;exact this
   have cc0:wr.cell? ⟨g,j*2,none⟩=some (.int .i64 x.1):=(l.cellAt _ q0).trans F0;have cc1:wr.cell? ⟨g,j*2+1,none⟩=some (.slice B m d):=(l.cellAt _ q1).trans X;have ff0:wr.frozen? ⟨g,j*2,none⟩=false:=l.frozenAt _;obtain⟨U,s⟩:∃wb,wb=wr.setCell ⟨g,j*2,none⟩ (.int .i64 k):=⟨_,rfl⟩;have D:U.ownsRow 0 122 shOp.m (.slice (some ⟨g,0,none⟩) xs.length c) xs.length (a.flatten.set (j*2) (.int .i64 k)):=by rw[s];exact(l.stored (j*2) (.int .i64 k)).1
   have O2:(Sh.il 3).own U [.slice B m d] x.2 I:=by rw[s];exact Sh.oset' (p:=⟨g,j*2,none⟩) O1 Q _
   have C1:ChgB (g::I) wr U:=by rw[s];exact ChgB.set (p:=⟨g,j*2,none⟩) (zaq ..) _
   have HCJ:=zaa n;have Y:=zaa r;have HP:=zaa t;have HD:=zaa hd;have aa:=zaa C;have Z:=zaa X;have hj0:(0:Int)<=(j:Int):=by omega
   have hj1:(j:Int)<(xs.length:Int):=by omega
   have hmc:mcOp x=1+x.2.length:=rfl;clear hd K t C n r T l O1 F0 X;go_wp2_with fail;rw[<-s];clear s cc0 cc1 ff0;refine(q2i _ x.2 I (k+1) U O2 (by omega) (by omega)).mono ?_;rintro e w2 ⟨rfl,O3,z⟩;have o:=q4n D z (fun b f=>by injection f with f;subst f;exact Q);have V:=C1.trans (z.mono fun b f=>zap _ f);have G:a.flatten.set (j*2) (.int .i64 k)=q48 a.flatten (j*shOp.m) [.int .i64 k,.slice B m d]:=by
    show _=(a.flatten.set (j*2) (.int .i64 k)).set (j*2+1) (.slice B m d)
    rw[q4b (q17 Z.out (by omega))]
   rw[G]at o;have E:w2.ownsRow 0 122 shOp.m (.slice (some ⟨g,0,none⟩) xs.length c) J.length (q48 a.flatten (j*shOp.m) [.int .i64 k,.slice B m d]):=by rw[aa.out];exact o
   have R:InR k:=⟨by omega,by omega⟩;have u:=HP.out.put L.out Y.out (c':= [.int .i64 k,.slice B m d]) (x':=mqOp k x) E ⟨[.int .i64 k], [.slice B m d], [],I,rfl,rfl,⟨_,rfl,⟨rfl,R.1,R.2⟩,rfl⟩,O3⟩
    (fun b f hn=>V.block b (HP.out.lt b (zaz _ f)) (by simp;exact⟨fun e=>P (e ▸ f),by simpa using hn⟩))
   have W:=CH.trans (V.mono fun b f=>by
    rcases zbf.1 f with rfl|f
    .exact zbb _ (q1e.2 rfl)
    .exact zaz _ (O b f))
   clear G o E V O3 C1 O2 D;have M:=zaa u;clear u;go_wp2_with fail
   go_roundw
   case rel=>exact⟨j+1,_,_,_,by omega,by go_num,rfl,by rw[show k+1+((x.2.length:Nat):Int)=k+mcOp x from by rw[hmc];omega];exact HS.out,M.out,W⟩
   case measure=>simp[intOf];omega
  .have hj':j=xs.length:=by omega
   obtain⟨rfl,hk⟩:=K.done (zbk (by omega));have HK:=zaa hk;have u:=zaa t;clear t hk C;have hlt':¬(j:Int)<(xs.length:Int):=by omega
   have hl:=qcz mqOp mcOp H xs;have HL:=zaa hl;clear hl hj';go_wp2_with fail;go_ret;exact⟨q11 HK.out,⟨_,a,bls,rfl,u.out,rfl⟩,CH⟩
theorem qfw (A:Option Addr) (n c:Nat) (xs:List OpM) (a:Int) (w:World) (h:RdN shOp.m shOp.rd w A n (mkL mqOp mcOp a xs)) (S:0<=a) (T:a+cntS mcOp xs<=4611686018427387904):
  Calls Tryz.prog 92 #[.slice A n c,.int .i64 a] w (Bl w (.int .i64 (a+cntS mcOp xs))):=by
 have O:=h.le;have l:xs.length=n:=by rw[<-qcz mqOp mcOp a xs];exact h.len
 have f:=zaa l;clear l
 go_enter Tryz.func92,Tryz.ntmps92
 go_wp2
 go_loopw [1,5] (fun q i wr=>∃(j:Nat) (k:Int),j<=n/\i=.int .i64 j/\q=.int .i64 k/\HkAt mqOp mcOp a xs j k/\Below w.heap.size w wr) (fun _ i _=>n - (intOf i).toNat)
 case atStart=>exact⟨0,a,zah _,rfl,rfl,HkAt.start _ _,zac _ _⟩
 case round=>
  obtain⟨j,k,U,rfl,rfl,r,u⟩:=hrel;have J:=h.next u
  by_cases hlt:j<n
  .have D:j<xs.length:=by rw[f.out];exact hlt
   have hd:xs.drop j=xs[j]::xs.drop (j+1):=zbq D
   generalize xs[j]=x at hd
   obtain⟨g,M,N⟩:=r.left hd;have I:=zaa (r.step hd);obtain⟨b,o,W,y,rfl,-,C,G,-,p⟩:=J.at hlt;rw[g]at p;injection p with p
   subst p;obtain⟨B,m,d,rfl,V,R⟩:=rdOp G;have s:wr.cell? ⟨b,o+j*2,none⟩=some (.int .i64 k):=C 0 _ rfl;have t:wr.cell? ⟨b,o+j*2+1,none⟩=some (.slice B m d):=C 1 _ rfl;have E:mcOp x=1+x.2.length:=rfl;have P:(k !=k)=false:=by simp
   have K:(0:Int)<=(j:Int):=by omega
   have L:(j:Int)<(n:Int):=by omega
   clear C hd g G;go_wp2_with fail;refine(q6z B m d x.2 (k+1) wr R (by omega) (by omega)).mono ?_;rintro e X ⟨rfl,z⟩;have v:=q9 u z rfl;have Q:¬k+1+(x.2.length:Int)<0:=by omega
   clear s t;go_wp2_with fail
   go_roundw
   case rel=>exact⟨j+1,_,by omega,by go_num,rfl,by rw[show k+1+((x.2.length:Nat):Int)=k+mcOp x from by rw[E];omega];exact I.out,v⟩
   case measure=>simp[intOf];omega
  .have H:=zaa (r.done (zbk (by rw[f.out];omega)))
   have F:¬(j:Int)<(n:Int):=by omega
   go_wp2_with fail;go_ret;exact⟨q11 H.out,u⟩
theorem q6c (cs:List Value) (x:qi) (f:List Nat) (a:Int) (w:World) (h:qf.own w cs x f) (i:f.Nodup) (s:0<=a) (t:a+q1i x<=4611686018427387904):
  Calls Tryz.prog 50 #[.agg cs.toArray,.int .i64 a] w (MkE qf w cs (q6e a x) f (a+q1i x)):=by
 obtain⟨C,D,A,n,rfl,rfl,p,k⟩:=h;obtain⟨_,rfl,⟨rfl,j,g⟩,rfl⟩:=p;obtain⟨B,m,d,rfl,-⟩:=(Sh.rows shOp 122).ord k;obtain⟨y,c,l,o,z⟩:=q15 w #[.int .i64 x.1,.slice B m d] 24;have q:=Sh.onext k l
 go_enter Tryz.func50,Tryz.ntmps50
 go_wp2_with fail;rw[<-c];clear c;refine(qgg _ x.2 n a y q (by simpa using i) s t).mono ?_;rintro e E ⟨rfl,r,v⟩;go_wp2_with fail;go_ret;exact⟨rfl,⟨[.int .i64 x.1], [.slice B m d], [],n,rfl,rfl,⟨_,rfl,⟨rfl,j,g⟩,rfl⟩,r⟩,(ChgB.ofBelow l).trans (v.mono fun b u=>by simpa using u)⟩
theorem qa8 (cs:List Value) (x:qi) (b:Int) (w:World) (h:qf.rd w cs (q6e b x)) (l:0<=b) (n:b+q1i x<=4611686018427387904):
  Calls Tryz.prog 54 #[.agg cs.toArray,.int .i64 b] w (Bl w (.int .i64 (b+q1i x))):=by
 obtain⟨B,m,d,rfl,r,p⟩:=qv h;obtain⟨j,c,g,i,q⟩:=q15 w #[.int .i64 x.1,.slice B m d] 24
 go_enter Tryz.func54,Tryz.ntmps54
 go_wp2_with fail;have a:w.alloc (.cells #[.int .i64 (q6e b x).1,.slice B m d] 24)=j:=c.symm;rw[a];clear a c;refine(qfw _ _ _ x.2 b j (p.next g) l n).mono ?_;rintro e s ⟨rfl,f⟩;have k:=q9 g f rfl;have o:¬b+(cntS mcOp x.2:Int)<0:=by omega
 go_wp2_with fail;go_ret;exact⟨rfl,k⟩
end Go.Proofs.YtfnmkbpogbekpaaGreatDoor
