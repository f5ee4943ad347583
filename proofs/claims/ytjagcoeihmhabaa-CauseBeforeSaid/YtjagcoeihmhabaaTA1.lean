/- Lemmas for a law of the seat: what functions of the program do, each stated as a contract of its own (TA1). -/
import Derived.Test.YtjagcoeihmhabaaLayT
import Derived.Test.YtjagcoeihmhabaaLayS29
import Derived.Test.YtjagcoeihmhabaaAb3
import Derived.Test.YtjagcoeihmhabaaChecked
import Derived.Test.YtjagcoeihmhabaaTAd
set_option linter.unusedVariables false
set_option maxRecDepth 100000
namespace Go.Ab
open Go.RowKit Go.Shelf Go.Proofs Go.Eng
abbrev Y1 : Ty := .st (.pair (.int .i64) (.pair (.int .i64) (.pair (.int .i64) (.pair (.int .i64) .str))))
theorem zero50 : Eng.Zero Try.prog 50 (.agg #[.int .i64 0, .int .i64 0, .int .i64 0, .int .i64 0, .string ByteArray.empty]) := fun w => by kernel_rfl
theorem bt50 : BuildT Try.prog 50 (.agg #[.int .i64 0, .int .i64 0, .int .i64 0, .int .i64 0, .string ByteArray.empty]) (fun i => [(0, 1), (1, 1), (2, 1), (3, 1), (4, 1)][i]?) := buildT_struct zero50 (fs := Try.prog.fieldsOf 50) (by kernel_rfl) (fun w => by kernel_rfl)
theorem bs30 : BuildS Try.prog 30 50 Y1 := buildS_of (z := .agg #[.int .i64 0, .int .i64 0, .int .i64 0, .int .i64 0, .string ByteArray.empty]) (by kernel_rfl) (by kernel_rfl) rfl
theorem fa50_1 : FieldAt Try.prog 50 1 1 := fun b o w => by kernel_rfl
theorem ts3 : TyS Try.prog 3 false 1 := ⟨fun w => by kernel_rfl, fun w => by kernel_rfl⟩
theorem mixed : Try.prog.follows .mixedOrders = true := by kernel_rfl
theorem fa50_2 : FieldAt Try.prog 50 2 2 := fun b o w => by kernel_rfl
theorem fa50_3 : FieldAt Try.prog 50 3 3 := fun b o w => by kernel_rfl
theorem fa50_4 : FieldAt Try.prog 50 4 4 := fun b o w => by kernel_rfl
theorem ts9 : TyS Try.prog 9 false 1 := ⟨fun w => by kernel_rfl, fun w => by kernel_rfl⟩
theorem und9 : Und Try.prog 9 .string := by unfold Und; kernel_rfl
theorem fa50_0 : FieldAt Try.prog 50 0 0 := fun b o w => by kernel_rfl
theorem fa64_0 : FieldAt Try.prog 64 0 0 := fun b o w => by kernel_rfl
theorem ts50 : TyS Try.prog 50 true 5 := ⟨fun w => by kernel_rfl, fun w => by kernel_rfl⟩
theorem ent80 : Enters Try.prog 80 := enters_of Try.func80 (by kernel_rfl) rfl
theorem fa64_2 : FieldAt Try.prog 64 2 2 := fun b o w => by kernel_rfl
theorem ts62 : TyS Try.prog 62 false 1 := ⟨fun w => by kernel_rfl, fun w => by kernel_rfl⟩
theorem und62 : Und Try.prog 62 (.map 3 3) := by unfold Und; kernel_rfl
theorem kt3 : KeyT Try.prog 3 (.int .i64) := keyT_int (by kernel_rfl)
theorem zw3 : ZeroW Try.prog 3 (.int .i64) := zeroW_of (z := .int .i64 0) (fun w => by kernel_rfl) rfl (fun _ => rfl)
theorem fa64_3 : FieldAt Try.prog 64 3 3 := fun b o w => by kernel_rfl
theorem fa64_1 : FieldAt Try.prog 64 1 1 := fun b o w => by kernel_rfl
theorem ts61 : TyS Try.prog 61 false 1 := ⟨fun w => by kernel_rfl, fun w => by kernel_rfl⟩
theorem und61 : Und Try.prog 61 (.map 3 4) := by unfold Und; kernel_rfl
theorem zw4 : ZeroW Try.prog 4 .bool := zeroW_of (z := .bool false) (fun w => by kernel_rfl) rfl (fun _ => rfl)
theorem zero64 : Eng.Zero Try.prog 64 (.agg #[.int .i64 0, .map none, .map none, .map none]) := fun w => by kernel_rfl
theorem bt64 : BuildT Try.prog 64 (.agg #[.int .i64 0, .map none, .map none, .map none]) (fun i => [(0, 1), (1, 1), (2, 1), (3, 1)][i]?) := buildT_struct zero64 (fs := Try.prog.fieldsOf 64) (by kernel_rfl) (fun w => by kernel_rfl)
theorem und30 : Und Try.prog 30 (.slice 50) := by unfold Und; kernel_rfl
theorem sz50 : Sz Try.prog 50 5 := fun w => by kernel_rfl
theorem ent49 : Enters Try.prog 49 := enters_of Try.func49 (by kernel_rfl) rfl
theorem ent15 : Enters Try.prog 15 := enters_of Try.func15 (by kernel_rfl) rfl
theorem ts30 : TyS Try.prog 30 false 1 := ⟨fun w => by kernel_rfl, fun w => by kernel_rfl⟩
theorem und22 : Und Try.prog 22 (.slice 3) := by unfold Und; kernel_rfl
theorem sz3 : Sz Try.prog 3 1 := fun w => by kernel_rfl
theorem ent86 : Enters Try.prog 86 := enters_of Try.func86 (by kernel_rfl) rfl
theorem ent17 : Enters Try.prog 17 := enters_of Try.func17 (by kernel_rfl) rfl
theorem ent81 : Enters Try.prog 81 := enters_of Try.func81 (by kernel_rfl) rfl
theorem ent75 : Enters Try.prog 75 := enters_of Try.func75 (by kernel_rfl) rfl
theorem zt3 : ZeroT Try.prog 3 (.int .i64) 8 := zeroT_of (z := .int .i64 0) (by kernel_rfl) rfl
theorem bs22 : BuildS Try.prog 22 3 (.int .i64) := buildS_of (z := .int .i64 0) (by kernel_rfl) (by kernel_rfl) rfl
theorem app22 : AppT Try.prog 22 3 (Ty.cells (.int .i64)) 8 := appT_of (z := .int .i64 0) (by kernel_rfl) (by kernel_rfl) rfl rfl
theorem ent73 : Enters Try.prog 73 := enters_of Try.func73 (by kernel_rfl) rfl
theorem ent83 : Enters Try.prog 83 := enters_of Try.func83 (by kernel_rfl) rfl
theorem f44_runs {r : (List (Int × Int × Int × Int × Str))} (hr : f44 = some r) : RunsP Try.prog 44 [] [.sl Y1 r] := by
  refine runs_w Try.func44 Try.ntmps44 rfl (rs := [.tmp 0]) rfl rfl fun w0 X hX => ?_
  refine awc_seq ?_
  refine awc_region ?_
  refine awl_v (av_assign rfl) ?_
  refine awl_nil (athen_norm (awc_seq ?_))
  refine awc_region ?_
  refine awl_v (av_build (qs := [(1, [.int .i64 1])]) (cs := [.int .i64 0, .int .i64 1, .int .i64 0, .int .i64 0, .str ([] : Str)]) bt50 rfl rfl rfl) ?_
  refine awl_v (av_build (qs := [(1, [.int .i64 2]), (2, [.int .i64 1])]) (cs := [.int .i64 0, .int .i64 2, .int .i64 1, .int .i64 0, .str ([] : Str)]) bt50 rfl rfl rfl) ?_
  refine awl_v (av_build (qs := [(0, [.int .i64 1]), (1, [.int .i64 1])]) (cs := [.int .i64 1, .int .i64 1, .int .i64 0, .int .i64 0, .str ([] : Str)]) bt50 rfl rfl rfl) ?_
  refine awl_v (av_build (qs := [(0, [.int .i64 1]), (1, [.int .i64 3]), (2, [.int .i64 1])]) (cs := [.int .i64 1, .int .i64 3, .int .i64 1, .int .i64 0, .str ([] : Str)]) bt50 rfl rfl rfl) ?_
  refine awl_op (aop_buildSlice (t := Y1) (qs := [(0, [.int .i64 0, .int .i64 1, .int .i64 0, .int .i64 0, .str ([] : Str)]), (1, [.int .i64 0, .int .i64 2, .int .i64 1, .int .i64 0, .str ([] : Str)]), (2, [.int .i64 1, .int .i64 1, .int .i64 0, .int .i64 0, .str ([] : Str)]), (3, [.int .i64 1, .int .i64 3, .int .i64 1, .int .i64 0, .str ([] : Str)])]) (ys := [(0, 1, 0, 0, ([] : Str)), (0, 2, 1, 0, ([] : Str)), (1, 1, 0, 0, ([] : Str)), (1, 3, 1, 0, ([] : Str))]) bs30 rfl rfl rfl rfl rfl rfl rfl rfl ?_)
  refine awl_v (av_assign rfl) ?_
  have hr := Option.some.inj hr
  subst hr
  exact awl_nil (athen_norm (awc_ret (ret_q (l' := [(0, .sl Y1 [(0, 1, 0, 0, ([] : Str)), (0, 2, 1, 0, ([] : Str)), (1, 1, 0, 0, ([] : Str)), (1, 3, 1, 0, ([] : Str))])]) (wk_of hX [] 4 rfl rfl ⟨⟨_, rfl, cv0⟩, trivial⟩ trivial) rfl ⟨rfl, trivial⟩)))
theorem f80_runs {p0 : Int × Int × Int × Int × Str} {r : Bool} (hr : f80 p0 = some r) : RunsP Try.prog 80 [.agg [.int .i64 p0.1, .int .i64 p0.2.1, .int .i64 p0.2.2.1, .int .i64 p0.2.2.2.1, .str p0.2.2.2.2]] [.bool r] := by
  refine runs_w Try.func80 Try.ntmps80 rfl (rs := [.tmp 2]) rfl rfl fun w0 X hX => ?_
  refine awc_seq ?_
  refine awc_region ?_
  refine awl_op (aop_box rfl rfl ?_)
  refine awl_v (av_assign rfl) ?_
  refine awl_nil (athen_norm (awc_seq ?_))
  refine awc_draw mixed [1, 2] [(true, .ptr 0 1), (true, .int .i64 p0.2.1), (true, .bool (decide (p0.2.1 = 2))), (true, .bool (decide (p0.2.1 = 2))), (!(decide (p0.2.1 = 2)), .ptr 0 1), (!(decide (p0.2.1 = 2)), .int .i64 p0.2.1), (!(decide (p0.2.1 = 2)), .bool (decide (p0.2.1 = 3))), (true, .bool ((decide (p0.2.1 = 2)) || (decide (p0.2.1 = 3)))), (true, .ptr 0 1), (true, .int .i64 p0.2.1), (true, .bool (decide (p0.2.1 = 4))), (true, .bool (decide (p0.2.1 = 4))), (!(decide (p0.2.1 = 4)), .ptr 0 1), (!(decide (p0.2.1 = 4)), .int .i64 p0.2.1), (!(decide (p0.2.1 = 4)), .bool (decide (p0.2.1 = 5))), (true, .bool ((decide (p0.2.1 = 4)) || (decide (p0.2.1 = 5)))), (true, .bool ((decide (p0.2.1 = 2)) || (decide (p0.2.1 = 3)))), (true, .bool ((decide (p0.2.1 = 4)) || (decide (p0.2.1 = 5))))] [[], [0], [1], [2], [3], [4, 3], [5, 3], [6, 3], [], [8], [9], [10], [11], [12, 11], [13, 11], [14, 11], [7], [15]] [16, 17] rfl rfl rfl rfl rfl ⟨?_, ?_, ?_, ?_, ?_, ?_, ?_, ?_, ?_, ?_, ?_, ?_, ?_, ?_, ?_, ?_, ?_, ?_, trivial⟩ (allT_of ⟨rfl, rfl, trivial⟩) ?_
  · exact ob_v rfl (fun hg => allT_of trivial) (fun hg => av_fa_ptr fa50_1 rfl rfl)
  · exact ob_v rfl (fun hg => allT_of ⟨rfl, trivial⟩) (fun hg => av_load_ptr ts3 rfl rfl rfl)
  · exact ob_v rfl (fun hg => allT_of ⟨rfl, trivial⟩) (fun hg => av_eql rfl rfl)
  · exact ob_v rfl (fun hg => allT_of ⟨rfl, trivial⟩) (fun hg => av_move rfl)
  · exact ob_v ⟨rfl, rfl, rfl, _, rfl, rfl⟩ (fun hg => allT_of ⟨rfl, trivial⟩) (fun hg => av_fa_ptr fa50_1 rfl rfl)
  · exact ob_v ⟨rfl, rfl, rfl, _, rfl, rfl⟩ (fun hg => allT_of ⟨hg, rfl, trivial⟩) (fun hg => av_load_ptr ts3 rfl rfl rfl)
  · exact ob_v ⟨rfl, rfl, rfl, _, rfl, rfl⟩ (fun hg => allT_of ⟨hg, rfl, trivial⟩) (fun hg => av_eql rfl rfl)
  · exact ob_pick (b := false) (p := decide (p0.2.1 = 2)) (q := decide (p0.2.1 = 3)) rfl rfl rfl (fun hg => allT_of ⟨rfl, trivial⟩) rfl rfl rfl rfl rfl
  · exact ob_v rfl (fun hg => allT_of trivial) (fun hg => av_fa_ptr fa50_1 rfl rfl)
  · exact ob_v rfl (fun hg => allT_of ⟨rfl, trivial⟩) (fun hg => av_load_ptr ts3 rfl rfl rfl)
  · exact ob_v rfl (fun hg => allT_of ⟨rfl, trivial⟩) (fun hg => av_eql rfl rfl)
  · exact ob_v rfl (fun hg => allT_of ⟨rfl, trivial⟩) (fun hg => av_move rfl)
  · exact ob_v ⟨rfl, rfl, rfl, _, rfl, rfl⟩ (fun hg => allT_of ⟨rfl, trivial⟩) (fun hg => av_fa_ptr fa50_1 rfl rfl)
  · exact ob_v ⟨rfl, rfl, rfl, _, rfl, rfl⟩ (fun hg => allT_of ⟨hg, rfl, trivial⟩) (fun hg => av_load_ptr ts3 rfl rfl rfl)
  · exact ob_v ⟨rfl, rfl, rfl, _, rfl, rfl⟩ (fun hg => allT_of ⟨hg, rfl, trivial⟩) (fun hg => av_eql rfl rfl)
  · exact ob_pick (b := false) (p := decide (p0.2.1 = 4)) (q := decide (p0.2.1 = 5)) rfl rfl rfl (fun hg => allT_of ⟨rfl, trivial⟩) rfl rfl rfl rfl rfl
  · exact ob_v rfl (fun hg => allT_of ⟨rfl, trivial⟩) (fun hg => av_assign rfl)
  · exact ob_v rfl (fun hg => allT_of ⟨rfl, trivial⟩) (fun hg => av_assign rfl)
  refine athen_norm (awc_seq ?_)
  refine awc_text [1, 3, 4] [(true, .ptr 0 1), (true, .int .i64 p0.2.1), (true, .bool (decide (1 ≤ p0.2.1))), (true, .bool (decide (1 ≤ p0.2.1))), (decide (1 ≤ p0.2.1), .ptr 0 1), (decide (1 ≤ p0.2.1), .int .i64 p0.2.1), (decide (1 ≤ p0.2.1), .bool (decide (p0.2.1 ≤ 5))), (true, .bool ((decide (1 ≤ p0.2.1)) && (decide (p0.2.1 ≤ 5)))), (true, .bool ((decide (1 ≤ p0.2.1)) && (decide (p0.2.1 ≤ 5)))), ((decide (1 ≤ p0.2.1)) && (decide (p0.2.1 ≤ 5)), .bool ((decide (p0.2.1 = 2)) || (decide (p0.2.1 = 3)))), ((decide (1 ≤ p0.2.1)) && (decide (p0.2.1 ≤ 5)), .bool ((decide (p0.2.1 = 2)) || (decide (p0.2.1 = 3)))), (((decide (1 ≤ p0.2.1)) && (decide (p0.2.1 ≤ 5))) && (!((decide (p0.2.1 = 2)) || (decide (p0.2.1 = 3)))), .ptr 0 2), (((decide (1 ≤ p0.2.1)) && (decide (p0.2.1 ≤ 5))) && (!((decide (p0.2.1 = 2)) || (decide (p0.2.1 = 3)))), .int .i64 p0.2.2.1), (((decide (1 ≤ p0.2.1)) && (decide (p0.2.1 ≤ 5))) && (!((decide (p0.2.1 = 2)) || (decide (p0.2.1 = 3)))), .bool (decide (p0.2.2.1 = 0))), ((decide (1 ≤ p0.2.1)) && (decide (p0.2.1 ≤ 5)), .bool (((decide (p0.2.1 = 2)) || (decide (p0.2.1 = 3))) || (decide (p0.2.2.1 = 0)))), (true, .bool (((decide (1 ≤ p0.2.1)) && (decide (p0.2.1 ≤ 5))) && (((decide (p0.2.1 = 2)) || (decide (p0.2.1 = 3))) || (decide (p0.2.2.1 = 0))))), (true, .bool (((decide (1 ≤ p0.2.1)) && (decide (p0.2.1 ≤ 5))) && (((decide (p0.2.1 = 2)) || (decide (p0.2.1 = 3))) || (decide (p0.2.2.1 = 0))))), (((decide (1 ≤ p0.2.1)) && (decide (p0.2.1 ≤ 5))) && (((decide (p0.2.1 = 2)) || (decide (p0.2.1 = 3))) || (decide (p0.2.2.1 = 0))), .bool ((decide (p0.2.1 = 4)) || (decide (p0.2.1 = 5)))), (((decide (1 ≤ p0.2.1)) && (decide (p0.2.1 ≤ 5))) && (((decide (p0.2.1 = 2)) || (decide (p0.2.1 = 3))) || (decide (p0.2.2.1 = 0))), .bool ((decide (p0.2.1 = 4)) || (decide (p0.2.1 = 5)))), ((((decide (1 ≤ p0.2.1)) && (decide (p0.2.1 ≤ 5))) && (((decide (p0.2.1 = 2)) || (decide (p0.2.1 = 3))) || (decide (p0.2.2.1 = 0)))) && (!((decide (p0.2.1 = 4)) || (decide (p0.2.1 = 5)))), .ptr 0 3), ((((decide (1 ≤ p0.2.1)) && (decide (p0.2.1 ≤ 5))) && (((decide (p0.2.1 = 2)) || (decide (p0.2.1 = 3))) || (decide (p0.2.2.1 = 0)))) && (!((decide (p0.2.1 = 4)) || (decide (p0.2.1 = 5)))), .int .i64 p0.2.2.2.1), ((((decide (1 ≤ p0.2.1)) && (decide (p0.2.1 ≤ 5))) && (((decide (p0.2.1 = 2)) || (decide (p0.2.1 = 3))) || (decide (p0.2.2.1 = 0)))) && (!((decide (p0.2.1 = 4)) || (decide (p0.2.1 = 5)))), .bool (decide (p0.2.2.2.1 = 0))), (((decide (1 ≤ p0.2.1)) && (decide (p0.2.1 ≤ 5))) && (((decide (p0.2.1 = 2)) || (decide (p0.2.1 = 3))) || (decide (p0.2.2.1 = 0))), .bool (((decide (p0.2.1 = 4)) || (decide (p0.2.1 = 5))) || (decide (p0.2.2.2.1 = 0)))), (true, .bool ((((decide (1 ≤ p0.2.1)) && (decide (p0.2.1 ≤ 5))) && (((decide (p0.2.1 = 2)) || (decide (p0.2.1 = 3))) || (decide (p0.2.2.1 = 0)))) && (((decide (p0.2.1 = 4)) || (decide (p0.2.1 = 5))) || (decide (p0.2.2.2.1 = 0))))), (true, .bool ((((decide (1 ≤ p0.2.1)) && (decide (p0.2.1 ≤ 5))) && (((decide (p0.2.1 = 2)) || (decide (p0.2.1 = 3))) || (decide (p0.2.2.1 = 0)))) && (((decide (p0.2.1 = 4)) || (decide (p0.2.1 = 5))) || (decide (p0.2.2.2.1 = 0))))), ((((decide (1 ≤ p0.2.1)) && (decide (p0.2.1 ≤ 5))) && (((decide (p0.2.1 = 2)) || (decide (p0.2.1 = 3))) || (decide (p0.2.2.1 = 0)))) && (((decide (p0.2.1 = 4)) || (decide (p0.2.1 = 5))) || (decide (p0.2.2.2.1 = 0))), .ptr 0 4), ((((decide (1 ≤ p0.2.1)) && (decide (p0.2.1 ≤ 5))) && (((decide (p0.2.1 = 2)) || (decide (p0.2.1 = 3))) || (decide (p0.2.2.1 = 0)))) && (((decide (p0.2.1 = 4)) || (decide (p0.2.1 = 5))) || (decide (p0.2.2.2.1 = 0))), .str p0.2.2.2.2), ((((decide (1 ≤ p0.2.1)) && (decide (p0.2.1 ≤ 5))) && (((decide (p0.2.1 = 2)) || (decide (p0.2.1 = 3))) || (decide (p0.2.2.1 = 0)))) && (((decide (p0.2.1 = 4)) || (decide (p0.2.1 = 5))) || (decide (p0.2.2.2.1 = 0))), .int .i64 (List.length p0.2.2.2.2 : Int)), ((((decide (1 ≤ p0.2.1)) && (decide (p0.2.1 ≤ 5))) && (((decide (p0.2.1 = 2)) || (decide (p0.2.1 = 3))) || (decide (p0.2.2.1 = 0)))) && (((decide (p0.2.1 = 4)) || (decide (p0.2.1 = 5))) || (decide (p0.2.2.2.1 = 0))), .bool (decide ((List.length p0.2.2.2.2 : Int) ≤ 32))), (true, .bool (((((decide (1 ≤ p0.2.1)) && (decide (p0.2.1 ≤ 5))) && (((decide (p0.2.1 = 2)) || (decide (p0.2.1 = 3))) || (decide (p0.2.2.1 = 0)))) && (((decide (p0.2.1 = 4)) || (decide (p0.2.1 = 5))) || (decide (p0.2.2.2.1 = 0)))) && (decide ((List.length p0.2.2.2.2 : Int) ≤ 32)))), (true, .bool (((((decide (1 ≤ p0.2.1)) && (decide (p0.2.1 ≤ 5))) && (((decide (p0.2.1 = 2)) || (decide (p0.2.1 = 3))) || (decide (p0.2.2.1 = 0)))) && (((decide (p0.2.1 = 4)) || (decide (p0.2.1 = 5))) || (decide (p0.2.2.2.1 = 0)))) && (decide ((List.length p0.2.2.2.2 : Int) ≤ 32))))] [[], [0], [1], [2], [3], [4, 3], [5, 3], [6, 3], [7], [8], [9, 8], [10], [11, 10], [12, 10], [13, 10, 8], [14, 8], [15], [16], [17, 16], [18], [19, 18], [20, 18], [21, 18, 16], [22, 16], [23], [24], [25, 24], [26, 24], [27, 24], [28, 24], [29]] [30] rfl rfl rfl rfl rfl ⟨?_, ?_, ?_, ?_, ?_, ?_, ?_, ?_, ?_, ?_, ?_, ?_, ?_, ?_, ?_, ?_, ?_, ?_, ?_, ?_, ?_, ?_, ?_, ?_, ?_, ?_, ?_, ?_, ?_, ?_, ?_, trivial⟩ (allT_of ⟨rfl, trivial⟩) ?_
  · exact ob_v rfl (fun hg => allT_of trivial) (fun hg => av_fa_ptr fa50_1 rfl rfl)
  · exact ob_v rfl (fun hg => allT_of ⟨rfl, trivial⟩) (fun hg => av_load_ptr ts3 rfl rfl rfl)
  · exact ob_v rfl (fun hg => allT_of ⟨rfl, trivial⟩) (fun hg => av_geq rfl rfl)
  · exact ob_v rfl (fun hg => allT_of ⟨rfl, trivial⟩) (fun hg => av_move rfl)
  · exact ob_v ⟨rfl, rfl, rfl, _, rfl, rfl⟩ (fun hg => allT_of ⟨rfl, trivial⟩) (fun hg => av_fa_ptr fa50_1 rfl rfl)
  · exact ob_v ⟨rfl, rfl, rfl, _, rfl, rfl⟩ (fun hg => allT_of ⟨hg, rfl, trivial⟩) (fun hg => av_load_ptr ts3 rfl rfl rfl)
  · exact ob_v ⟨rfl, rfl, rfl, _, rfl, rfl⟩ (fun hg => allT_of ⟨hg, rfl, trivial⟩) (fun hg => av_leq rfl rfl)
  · exact ob_pick (b := true) (p := decide (1 ≤ p0.2.1)) (q := decide (p0.2.1 ≤ 5)) rfl rfl rfl (fun hg => allT_of ⟨rfl, trivial⟩) rfl rfl rfl rfl rfl
  · exact ob_v rfl (fun hg => allT_of ⟨rfl, trivial⟩) (fun hg => av_move rfl)
  · exact ob_v ⟨rfl, rfl, rfl, _, rfl, rfl⟩ (fun hg => allT_of ⟨rfl, trivial⟩) (fun hg => av_move rfl)
  · exact ob_v ⟨rfl, rfl, rfl, _, rfl, rfl⟩ (fun hg => allT_of ⟨hg, rfl, trivial⟩) (fun hg => av_move rfl)
  · exact ob_v ⟨rfl, rfl, rfl, _, rfl, rfl⟩ (fun hg => allT_of ⟨(and_l hg), trivial⟩) (fun hg => av_fa_ptr fa50_2 rfl rfl)
  · exact ob_v ⟨rfl, rfl, rfl, _, rfl, rfl⟩ (fun hg => allT_of ⟨hg, (and_l hg), trivial⟩) (fun hg => av_load_ptr ts3 rfl rfl rfl)
  · exact ob_v ⟨rfl, rfl, rfl, _, rfl, rfl⟩ (fun hg => allT_of ⟨hg, (and_l hg), trivial⟩) (fun hg => av_eql rfl rfl)
  · exact ob_pick (b := false) (p := (decide (p0.2.1 = 2)) || (decide (p0.2.1 = 3))) (q := decide (p0.2.2.1 = 0)) ⟨rfl, rfl, rfl, _, rfl, rfl⟩ rfl rfl (fun hg => allT_of ⟨hg, rfl, trivial⟩) rfl rfl rfl rfl rfl
  · exact ob_pick (b := true) (p := (decide (1 ≤ p0.2.1)) && (decide (p0.2.1 ≤ 5))) (q := ((decide (p0.2.1 = 2)) || (decide (p0.2.1 = 3))) || (decide (p0.2.2.1 = 0))) rfl rfl rfl (fun hg => allT_of ⟨rfl, trivial⟩) rfl rfl rfl rfl rfl
  · exact ob_v rfl (fun hg => allT_of ⟨rfl, trivial⟩) (fun hg => av_move rfl)
  · exact ob_v ⟨rfl, rfl, rfl, _, rfl, rfl⟩ (fun hg => allT_of ⟨rfl, trivial⟩) (fun hg => av_move rfl)
  · exact ob_v ⟨rfl, rfl, rfl, _, rfl, rfl⟩ (fun hg => allT_of ⟨hg, rfl, trivial⟩) (fun hg => av_move rfl)
  · exact ob_v ⟨rfl, rfl, rfl, _, rfl, rfl⟩ (fun hg => allT_of ⟨(and_l hg), trivial⟩) (fun hg => av_fa_ptr fa50_3 rfl rfl)
  · exact ob_v ⟨rfl, rfl, rfl, _, rfl, rfl⟩ (fun hg => allT_of ⟨hg, (and_l hg), trivial⟩) (fun hg => av_load_ptr ts3 rfl rfl rfl)
  · exact ob_v ⟨rfl, rfl, rfl, _, rfl, rfl⟩ (fun hg => allT_of ⟨hg, (and_l hg), trivial⟩) (fun hg => av_eql rfl rfl)
  · exact ob_pick (b := false) (p := (decide (p0.2.1 = 4)) || (decide (p0.2.1 = 5))) (q := decide (p0.2.2.2.1 = 0)) ⟨rfl, rfl, rfl, _, rfl, rfl⟩ rfl rfl (fun hg => allT_of ⟨hg, rfl, trivial⟩) rfl rfl rfl rfl rfl
  · exact ob_pick (b := true) (p := ((decide (1 ≤ p0.2.1)) && (decide (p0.2.1 ≤ 5))) && (((decide (p0.2.1 = 2)) || (decide (p0.2.1 = 3))) || (decide (p0.2.2.1 = 0)))) (q := ((decide (p0.2.1 = 4)) || (decide (p0.2.1 = 5))) || (decide (p0.2.2.2.1 = 0))) rfl rfl rfl (fun hg => allT_of ⟨rfl, trivial⟩) rfl rfl rfl rfl rfl
  · exact ob_v rfl (fun hg => allT_of ⟨rfl, trivial⟩) (fun hg => av_move rfl)
  · exact ob_v ⟨rfl, rfl, rfl, _, rfl, rfl⟩ (fun hg => allT_of ⟨rfl, trivial⟩) (fun hg => av_fa_ptr fa50_4 rfl rfl)
  · exact ob_v ⟨rfl, rfl, rfl, _, rfl, rfl⟩ (fun hg => allT_of ⟨hg, rfl, trivial⟩) (fun hg => av_load_ptr ts9 rfl rfl rfl)
  · exact ob_v ⟨rfl, rfl, rfl, _, rfl, rfl⟩ (fun hg => allT_of ⟨hg, rfl, trivial⟩) (fun hg => av_len_str rfl rfl und9 rfl)
  · exact ob_v ⟨rfl, rfl, rfl, _, rfl, rfl⟩ (fun hg => allT_of ⟨hg, rfl, trivial⟩) (fun hg => av_leq rfl rfl)
  · exact ob_pick (b := true) (p := (((decide (1 ≤ p0.2.1)) && (decide (p0.2.1 ≤ 5))) && (((decide (p0.2.1 = 2)) || (decide (p0.2.1 = 3))) || (decide (p0.2.2.1 = 0)))) && (((decide (p0.2.1 = 4)) || (decide (p0.2.1 = 5))) || (decide (p0.2.2.2.1 = 0)))) (q := decide ((List.length p0.2.2.2.2 : Int) ≤ 32)) rfl rfl rfl (fun hg => allT_of ⟨rfl, trivial⟩) rfl rfl rfl rfl rfl
  · exact ob_v rfl (fun hg => allT_of ⟨rfl, trivial⟩) (fun hg => av_assign rfl)
  have hr := Option.some.inj hr
  subst hr
  exact athen_norm (awc_ret (ret_q (l' := [(2, .bool (((((decide (1 ≤ p0.2.1)) && (decide (p0.2.1 ≤ 5))) && (((decide (p0.2.1 = 2)) || (decide (p0.2.1 = 3))) || (decide (p0.2.2.1 = 0)))) && (((decide (p0.2.1 = 4)) || (decide (p0.2.1 = 5))) || (decide (p0.2.2.2.1 = 0)))) && (decide ((List.length p0.2.2.2.2 : Int) ≤ 32))))]) (wk_of hX [] 4 rfl rfl ⟨⟨_, rfl, cv0⟩, trivial⟩ trivial) rfl ⟨rfl, trivial⟩))
theorem f49_runs {p0_0 : Int} {p0_1 : List (Int × Bool)} {p0_2 : List (Int × Int)} {p0_3 : List (Int × Int)} {p1 : Int × Int × Int × Int × Str} {r : Int × (List (Int × Bool)) × (List (Int × Int)) × (List (Int × Int))} (hr : f49 p0_0 p0_1 p0_2 p0_3 p1 = some r) : Runs Try.prog 49 [.ptr 0 0, .agg [.int .i64 p1.1, .int .i64 p1.2.1, .int .i64 p1.2.2.1, .int .i64 p1.2.2.2.1, .str p1.2.2.2.2]] [.var 64 [.int .i64 p0_0, .map 1, .map 2, .map 3], .map (.int .i64) .bool p0_1, .map (.int .i64) (.int .i64) p0_2, .map (.int .i64) (.int .i64) p0_3] (fun q Hq => q = [.int .i64 r.1] ∧ Hq = [.var 64 [.int .i64 p0_0, .map 1, .map 2, .map 3], .map (.int .i64) .bool r.2.1, .map (.int .i64) (.int .i64) r.2.2.1, .map (.int .i64) (.int .i64) r.2.2.2]) := by
  refine runs_w Try.func49 Try.ntmps49 rfl (rs := [.tmp 4]) rfl rfl fun w0 X hX => ?_
  refine awc_seq ?_
  refine awc_region ?_
  refine awl_op (aop_box rfl rfl ?_)
  refine awl_v (av_assign rfl) ?_
  refine awl_nil (athen_norm (awc_seq (awc_block (awc_seq ?_))))
  refine awc_draw mixed [0, 3, 4] [(true, .ptr 4 0), (true, .int .i64 p1.1), (true, .bool (decide (p1.1 < 0))), (true, .bool (decide (p1.1 < 0))), (!(decide (p1.1 < 0)), .ptr 4 0), (!(decide (p1.1 < 0)), .int .i64 p1.1), (!(decide (p1.1 < 0)), .ptr 0 0), (!(decide (p1.1 < 0)), .ptr 0 0), (!(decide (p1.1 < 0)), .ptr 0 0), (!(decide (p1.1 < 0)), .int .i64 p0_0), (!(decide (p1.1 < 0)), .bool (decide (p0_0 ≤ p1.1))), (true, .bool ((decide (p1.1 < 0)) || (decide (p0_0 ≤ p1.1)))), (true, .bool ((decide (p1.1 < 0)) || (decide (p0_0 ≤ p1.1))))] [[], [0], [1], [2], [3], [4, 3], [3], [6, 3], [7, 3], [8, 3], [5, 9, 3], [10, 3], [11]] [12] rfl rfl rfl rfl rfl ⟨?_, ?_, ?_, ?_, ?_, ?_, ?_, ?_, ?_, ?_, ?_, ?_, ?_, trivial⟩ (allT_of ⟨rfl, trivial⟩) ?_
  · exact ob_v rfl (fun hg => allT_of trivial) (fun hg => av_fa_ptr fa50_0 rfl rfl)
  · exact ob_v rfl (fun hg => allT_of ⟨rfl, trivial⟩) (fun hg => av_load_ptr ts3 rfl rfl rfl)
  · exact ob_v rfl (fun hg => allT_of ⟨rfl, trivial⟩) (fun hg => av_lss rfl rfl)
  · exact ob_v rfl (fun hg => allT_of ⟨rfl, trivial⟩) (fun hg => av_move rfl)
  · exact ob_v ⟨rfl, rfl, rfl, _, rfl, rfl⟩ (fun hg => allT_of ⟨rfl, trivial⟩) (fun hg => av_fa_ptr fa50_0 rfl rfl)
  · exact ob_v ⟨rfl, rfl, rfl, _, rfl, rfl⟩ (fun hg => allT_of ⟨hg, rfl, trivial⟩) (fun hg => av_load_ptr ts3 rfl rfl rfl)
  · exact ob_v ⟨rfl, rfl, rfl, _, rfl, rfl⟩ (fun hg => allT_of ⟨rfl, trivial⟩) (fun hg => av_move rfl)
  · exact ob_v ⟨rfl, rfl, rfl, _, rfl, rfl⟩ (fun hg => allT_of ⟨hg, rfl, trivial⟩) (fun hg => av_nilCheck_ptr rfl)
  · exact ob_v ⟨rfl, rfl, rfl, _, rfl, rfl⟩ (fun hg => allT_of ⟨hg, rfl, trivial⟩) (fun hg => av_fa_ptr fa64_0 rfl rfl)
  · exact ob_v ⟨rfl, rfl, rfl, _, rfl, rfl⟩ (fun hg => allT_of ⟨hg, rfl, trivial⟩) (fun hg => av_load_ptr ts3 rfl rfl rfl)
  · exact ob_v ⟨rfl, rfl, rfl, _, rfl, rfl⟩ (fun hg => allT_of ⟨hg, hg, rfl, trivial⟩) (fun hg => av_geq rfl rfl)
  · exact ob_pick (b := false) (p := decide (p1.1 < 0)) (q := decide (p0_0 ≤ p1.1)) rfl rfl rfl (fun hg => allT_of ⟨rfl, trivial⟩) rfl rfl rfl rfl rfl
  · exact ob_v rfl (fun hg => allT_of ⟨rfl, trivial⟩) (fun hg => av_assign rfl)
  refine athen_norm ?_
  refine awc_cond (b := (decide (p1.1 < 0)) || (decide (p0_0 ≤ p1.1))) rfl (fun hc4 => ?_) (fun hc4 => ?_)
  · have hr := if_t hc4 hr
    refine awc_seq ?_
    refine awc_region ?_
    refine awl_v (av_assign rfl) ?_
    have hr := Option.some.inj hr
    subst hr
    exact awl_nil (athen_norm (awc_ret (ablock_ret (athen_ret (ret_o (l' := [(4, .int .i64 7)]) (Hs := [(0, .var 64 [.int .i64 p0_0, .map 1, .map 2, .map 3]), (1, .map (.int .i64) .bool p0_1), (2, .map (.int .i64) (.int .i64) p0_2), (3, .map (.int .i64) (.int .i64) p0_3)]) (n := 4) (wk_of hX [0, 1, 2, 3] 4 rfl rfl ⟨⟨_, rfl, cv0⟩, trivial⟩ ⟨cvo0, cvo0, cvo0, cvo0, trivial⟩) rfl rfl rfl ⟨rfl, trivial⟩)))))
  · have hr := if_f hc4 hr
    refine awc_seq ?_
    refine awc_text [0, 3, 4] [(true, .ptr 4 1), (true, .int .i64 p1.2.1), (true, .bool (decide (p1.2.1 = 2))), (true, .bool (decide (p1.2.1 = 2))), (!(decide (p1.2.1 = 2)), .ptr 4 1), (!(decide (p1.2.1 = 2)), .int .i64 p1.2.1), (!(decide (p1.2.1 = 2)), .bool (decide (p1.2.1 = 3))), (true, .bool ((decide (p1.2.1 = 2)) || (decide (p1.2.1 = 3)))), (true, .bool ((decide (p1.2.1 = 2)) || (decide (p1.2.1 = 3)))), ((decide (p1.2.1 = 2)) || (decide (p1.2.1 = 3)), .ptr 4 2), ((decide (p1.2.1 = 2)) || (decide (p1.2.1 = 3)), .int .i64 p1.2.2.1), ((decide (p1.2.1 = 2)) || (decide (p1.2.1 = 3)), .bool (decide (p1.2.2.1 < 1))), (true, .bool (((decide (p1.2.1 = 2)) || (decide (p1.2.1 = 3))) && (decide (p1.2.2.1 < 1)))), (true, .bool (((decide (p1.2.1 = 2)) || (decide (p1.2.1 = 3))) && (decide (p1.2.2.1 < 1)))), (!(((decide (p1.2.1 = 2)) || (decide (p1.2.1 = 3))) && (decide (p1.2.2.1 < 1))), .ptr 4 1), (!(((decide (p1.2.1 = 2)) || (decide (p1.2.1 = 3))) && (decide (p1.2.2.1 < 1))), .int .i64 p1.2.1), (!(((decide (p1.2.1 = 2)) || (decide (p1.2.1 = 3))) && (decide (p1.2.2.1 < 1))), .bool (decide (p1.2.1 = 4))), (!(((decide (p1.2.1 = 2)) || (decide (p1.2.1 = 3))) && (decide (p1.2.2.1 < 1))), .bool (decide (p1.2.1 = 4))), ((!(((decide (p1.2.1 = 2)) || (decide (p1.2.1 = 3))) && (decide (p1.2.2.1 < 1)))) && (!(decide (p1.2.1 = 4))), .ptr 4 1), ((!(((decide (p1.2.1 = 2)) || (decide (p1.2.1 = 3))) && (decide (p1.2.2.1 < 1)))) && (!(decide (p1.2.1 = 4))), .int .i64 p1.2.1), ((!(((decide (p1.2.1 = 2)) || (decide (p1.2.1 = 3))) && (decide (p1.2.2.1 < 1)))) && (!(decide (p1.2.1 = 4))), .bool (decide (p1.2.1 = 5))), (!(((decide (p1.2.1 = 2)) || (decide (p1.2.1 = 3))) && (decide (p1.2.2.1 < 1))), .bool ((decide (p1.2.1 = 4)) || (decide (p1.2.1 = 5)))), (!(((decide (p1.2.1 = 2)) || (decide (p1.2.1 = 3))) && (decide (p1.2.2.1 < 1))), .bool ((decide (p1.2.1 = 4)) || (decide (p1.2.1 = 5)))), ((!(((decide (p1.2.1 = 2)) || (decide (p1.2.1 = 3))) && (decide (p1.2.2.1 < 1)))) && ((decide (p1.2.1 = 4)) || (decide (p1.2.1 = 5))), .ptr 4 3), ((!(((decide (p1.2.1 = 2)) || (decide (p1.2.1 = 3))) && (decide (p1.2.2.1 < 1)))) && ((decide (p1.2.1 = 4)) || (decide (p1.2.1 = 5))), .int .i64 p1.2.2.2.1), ((!(((decide (p1.2.1 = 2)) || (decide (p1.2.1 = 3))) && (decide (p1.2.2.1 < 1)))) && ((decide (p1.2.1 = 4)) || (decide (p1.2.1 = 5))), .bool (decide (p1.2.2.2.1 < 1))), (!(((decide (p1.2.1 = 2)) || (decide (p1.2.1 = 3))) && (decide (p1.2.2.1 < 1))), .bool (((decide (p1.2.1 = 4)) || (decide (p1.2.1 = 5))) && (decide (p1.2.2.2.1 < 1)))), (true, .bool ((((decide (p1.2.1 = 2)) || (decide (p1.2.1 = 3))) && (decide (p1.2.2.1 < 1))) || (((decide (p1.2.1 = 4)) || (decide (p1.2.1 = 5))) && (decide (p1.2.2.2.1 < 1))))), (true, .bool ((((decide (p1.2.1 = 2)) || (decide (p1.2.1 = 3))) && (decide (p1.2.2.1 < 1))) || (((decide (p1.2.1 = 4)) || (decide (p1.2.1 = 5))) && (decide (p1.2.2.2.1 < 1)))))] [[], [0], [1], [2], [3], [4, 3], [5, 3], [6, 3], [7], [8], [9, 8], [10, 8], [11, 8], [12], [13], [14, 13], [15, 13], [16, 13], [17], [18, 17], [19, 17], [20, 17, 13], [21, 13], [22], [23, 22], [24, 22], [25, 22, 13], [26, 13], [27]] [28] rfl rfl rfl rfl rfl ⟨?_, ?_, ?_, ?_, ?_, ?_, ?_, ?_, ?_, ?_, ?_, ?_, ?_, ?_, ?_, ?_, ?_, ?_, ?_, ?_, ?_, ?_, ?_, ?_, ?_, ?_, ?_, ?_, ?_, trivial⟩ (allT_of ⟨rfl, trivial⟩) ?_
    · exact ob_v rfl (fun hg => allT_of trivial) (fun hg => av_fa_ptr fa50_1 rfl rfl)
    · exact ob_v rfl (fun hg => allT_of ⟨rfl, trivial⟩) (fun hg => av_load_ptr ts3 rfl rfl rfl)
    · exact ob_v rfl (fun hg => allT_of ⟨rfl, trivial⟩) (fun hg => av_eql rfl rfl)
    · exact ob_v rfl (fun hg => allT_of ⟨rfl, trivial⟩) (fun hg => av_move rfl)
    · exact ob_v ⟨rfl, rfl, rfl, _, rfl, rfl⟩ (fun hg => allT_of ⟨rfl, trivial⟩) (fun hg => av_fa_ptr fa50_1 rfl rfl)
    · exact ob_v ⟨rfl, rfl, rfl, _, rfl, rfl⟩ (fun hg => allT_of ⟨hg, rfl, trivial⟩) (fun hg => av_load_ptr ts3 rfl rfl rfl)
    · exact ob_v ⟨rfl, rfl, rfl, _, rfl, rfl⟩ (fun hg => allT_of ⟨hg, rfl, trivial⟩) (fun hg => av_eql rfl rfl)
    · exact ob_pick (b := false) (p := decide (p1.2.1 = 2)) (q := decide (p1.2.1 = 3)) rfl rfl rfl (fun hg => allT_of ⟨rfl, trivial⟩) rfl rfl rfl rfl rfl
    · exact ob_v rfl (fun hg => allT_of ⟨rfl, trivial⟩) (fun hg => av_move rfl)
    · exact ob_v ⟨rfl, rfl, rfl, _, rfl, rfl⟩ (fun hg => allT_of ⟨rfl, trivial⟩) (fun hg => av_fa_ptr fa50_2 rfl rfl)
    · exact ob_v ⟨rfl, rfl, rfl, _, rfl, rfl⟩ (fun hg => allT_of ⟨hg, rfl, trivial⟩) (fun hg => av_load_ptr ts3 rfl rfl rfl)
    · exact ob_v ⟨rfl, rfl, rfl, _, rfl, rfl⟩ (fun hg => allT_of ⟨hg, rfl, trivial⟩) (fun hg => av_lss rfl rfl)
    · exact ob_pick (b := true) (p := (decide (p1.2.1 = 2)) || (decide (p1.2.1 = 3))) (q := decide (p1.2.2.1 < 1)) rfl rfl rfl (fun hg => allT_of ⟨rfl, trivial⟩) rfl rfl rfl rfl rfl
    · exact ob_v rfl (fun hg => allT_of ⟨rfl, trivial⟩) (fun hg => av_move rfl)
    · exact ob_v ⟨rfl, rfl, rfl, _, rfl, rfl⟩ (fun hg => allT_of ⟨rfl, trivial⟩) (fun hg => av_fa_ptr fa50_1 rfl rfl)
    · exact ob_v ⟨rfl, rfl, rfl, _, rfl, rfl⟩ (fun hg => allT_of ⟨hg, rfl, trivial⟩) (fun hg => av_load_ptr ts3 rfl rfl rfl)
    · exact ob_v ⟨rfl, rfl, rfl, _, rfl, rfl⟩ (fun hg => allT_of ⟨hg, rfl, trivial⟩) (fun hg => av_eql rfl rfl)
    · exact ob_v ⟨rfl, rfl, rfl, _, rfl, rfl⟩ (fun hg => allT_of ⟨hg, rfl, trivial⟩) (fun hg => av_move rfl)
    · exact ob_v ⟨rfl, rfl, rfl, _, rfl, rfl⟩ (fun hg => allT_of ⟨(and_l hg), trivial⟩) (fun hg => av_fa_ptr fa50_1 rfl rfl)
    · exact ob_v ⟨rfl, rfl, rfl, _, rfl, rfl⟩ (fun hg => allT_of ⟨hg, (and_l hg), trivial⟩) (fun hg => av_load_ptr ts3 rfl rfl rfl)
    · exact ob_v ⟨rfl, rfl, rfl, _, rfl, rfl⟩ (fun hg => allT_of ⟨hg, (and_l hg), trivial⟩) (fun hg => av_eql rfl rfl)
    · exact ob_pick (b := false) (p := decide (p1.2.1 = 4)) (q := decide (p1.2.1 = 5)) ⟨rfl, rfl, rfl, _, rfl, rfl⟩ rfl rfl (fun hg => allT_of ⟨hg, rfl, trivial⟩) rfl rfl rfl rfl rfl
    · exact ob_v ⟨rfl, rfl, rfl, _, rfl, rfl⟩ (fun hg => allT_of ⟨hg, rfl, trivial⟩) (fun hg => av_move rfl)
    · exact ob_v ⟨rfl, rfl, rfl, _, rfl, rfl⟩ (fun hg => allT_of ⟨(and_l hg), trivial⟩) (fun hg => av_fa_ptr fa50_3 rfl rfl)
    · exact ob_v ⟨rfl, rfl, rfl, _, rfl, rfl⟩ (fun hg => allT_of ⟨hg, (and_l hg), trivial⟩) (fun hg => av_load_ptr ts3 rfl rfl rfl)
    · exact ob_v ⟨rfl, rfl, rfl, _, rfl, rfl⟩ (fun hg => allT_of ⟨hg, (and_l hg), trivial⟩) (fun hg => av_lss rfl rfl)
    · exact ob_pick (b := true) (p := (decide (p1.2.1 = 4)) || (decide (p1.2.1 = 5))) (q := decide (p1.2.2.2.1 < 1)) ⟨rfl, rfl, rfl, _, rfl, rfl⟩ rfl rfl (fun hg => allT_of ⟨hg, rfl, trivial⟩) rfl rfl rfl rfl rfl
    · exact ob_pick (b := false) (p := ((decide (p1.2.1 = 2)) || (decide (p1.2.1 = 3))) && (decide (p1.2.2.1 < 1))) (q := ((decide (p1.2.1 = 4)) || (decide (p1.2.1 = 5))) && (decide (p1.2.2.2.1 < 1))) rfl rfl rfl (fun hg => allT_of ⟨rfl, trivial⟩) rfl rfl rfl rfl rfl
    · exact ob_v rfl (fun hg => allT_of ⟨rfl, trivial⟩) (fun hg => av_assign rfl)
    refine athen_norm ?_
    refine awc_cond (b := (((decide (p1.2.1 = 2)) || (decide (p1.2.1 = 3))) && (decide (p1.2.2.1 < 1))) || (((decide (p1.2.1 = 4)) || (decide (p1.2.1 = 5))) && (decide (p1.2.2.2.1 < 1)))) rfl (fun hc5 => ?_) (fun hc5 => ?_)
    · have hr := if_t hc5 hr
      refine awc_seq ?_
      refine awc_region ?_
      refine awl_v (av_assign rfl) ?_
      have hr := Option.some.inj hr
      subst hr
      exact awl_nil (athen_norm (awc_ret (ablock_ret (athen_ret (ret_o (l' := [(4, .int .i64 7)]) (Hs := [(0, .var 64 [.int .i64 p0_0, .map 1, .map 2, .map 3]), (1, .map (.int .i64) .bool p0_1), (2, .map (.int .i64) (.int .i64) p0_2), (3, .map (.int .i64) (.int .i64) p0_3)]) (n := 4) (wk_of hX [0, 1, 2, 3] 4 rfl rfl ⟨⟨_, rfl, cv0⟩, trivial⟩ ⟨cvo0, cvo0, cvo0, cvo0, trivial⟩) rfl rfl rfl ⟨rfl, trivial⟩)))))
    · have hr := if_f hc5 hr
      refine awc_seq ?_
      refine awc_region ?_
      refine awl_v (av_load_ptrN ts50 rfl rfl rfl rfl) ?_
      obtain ⟨x6, e7, hr⟩ := bnd_some hr
      refine awl_v (av_call (f80_runs e7) ent80 rfl rfl) ?_
      refine awl_v (av_not rfl) ?_
      refine awl_v (av_assign rfl) ?_
      refine awl_nil (athen_norm ?_)
      refine awc_cond (b := !x6) rfl (fun hc8 => ?_) (fun hc8 => ?_)
      · have hr := if_t hc8 hr
        refine awc_seq ?_
        refine awc_region ?_
        refine awl_v (av_assign rfl) ?_
        have hr := Option.some.inj hr
        subst hr
        exact awl_nil (athen_norm (awc_ret (ablock_ret (athen_ret (ret_o (l' := [(4, .int .i64 10)]) (Hs := [(0, .var 64 [.int .i64 p0_0, .map 1, .map 2, .map 3]), (1, .map (.int .i64) .bool p0_1), (2, .map (.int .i64) (.int .i64) p0_2), (3, .map (.int .i64) (.int .i64) p0_3)]) (n := 4) (wk_of hX [0, 1, 2, 3] 4 rfl rfl ⟨⟨_, rfl, cv0⟩, trivial⟩ ⟨cvo0, cvo0, cvo0, cvo0, trivial⟩) rfl rfl rfl ⟨rfl, trivial⟩)))))
      · have hr := if_f hc8 hr
        refine awc_skip (ablock_norm (athen_norm (awc_seq ?_)))
        refine awc_draw mixed [0, 3, 4] [(true, .ptr 0 0), (true, .ptr 0 0), (true, .ptr 0 2), (true, .map 2), (true, .ptr 4 3), (true, .int .i64 p1.2.2.2.1), (true, .tup [.int .i64 ((mget p0_2 p1.2.2.2.1).getD 0), .bool ((mget p0_2 p1.2.2.2.1).isSome)]), (true, .tup [.int .i64 ((mget p0_2 p1.2.2.2.1).getD 0), .bool ((mget p0_2 p1.2.2.2.1).isSome)]), (true, .int .i64 ((mget p0_2 p1.2.2.2.1).getD 0)), (true, .bool ((mget p0_2 p1.2.2.2.1).isSome)), (true, .int .i64 ((mget p0_2 p1.2.2.2.1).getD 0)), (true, .bool ((mget p0_2 p1.2.2.2.1).isSome))] [[], [0], [1], [2], [], [4], [3, 5], [6], [7], [7], [8], [9]] [10, 11] rfl rfl rfl rfl rfl ⟨?_, ?_, ?_, ?_, ?_, ?_, ?_, ?_, ?_, ?_, ?_, ?_, trivial⟩ (allT_of ⟨rfl, rfl, trivial⟩) ?_
        · exact ob_v rfl (fun hg => allT_of trivial) (fun hg => av_move rfl)
        · exact ob_v rfl (fun hg => allT_of ⟨rfl, trivial⟩) (fun hg => av_nilCheck_ptr rfl)
        · exact ob_v rfl (fun hg => allT_of ⟨rfl, trivial⟩) (fun hg => av_fa_ptr fa64_2 rfl rfl)
        · exact ob_v rfl (fun hg => allT_of ⟨rfl, trivial⟩) (fun hg => av_load_ptr ts62 rfl rfl rfl)
        · exact ob_v rfl (fun hg => allT_of trivial) (fun hg => av_fa_ptr fa50_3 rfl rfl)
        · exact ob_v rfl (fun hg => allT_of ⟨rfl, trivial⟩) (fun hg => av_load_ptr ts3 rfl rfl rfl)
        · exact ob_v rfl (fun hg => allT_of ⟨rfl, rfl, trivial⟩) (fun hg => av_lookup2 (kx := p1.2.2.2.1) (r := .tup [.int .i64 ((mget p0_2 p1.2.2.2.1).getD 0), .bool ((mget p0_2 p1.2.2.2.1).isSome)]) und62 kt3 zw3 rfl rfl rfl rfl rfl)
        · exact ob_v rfl (fun hg => allT_of ⟨rfl, trivial⟩) (fun hg => av_move rfl)
        · exact ob_v rfl (fun hg => allT_of ⟨rfl, trivial⟩) (fun hg => av_extract rfl rfl)
        · exact ob_v rfl (fun hg => allT_of ⟨rfl, trivial⟩) (fun hg => av_extract rfl rfl)
        · exact ob_v rfl (fun hg => allT_of ⟨rfl, trivial⟩) (fun hg => av_assign rfl)
        · exact ob_v rfl (fun hg => allT_of ⟨rfl, trivial⟩) (fun hg => av_assign rfl)
        refine athen_norm (awc_seq ?_)
        refine awc_draw mixed [0, 3, 4, 5, 6] [(true, .ptr 0 0), (true, .ptr 0 0), (true, .ptr 0 3), (true, .map 3), (true, .ptr 4 3), (true, .int .i64 p1.2.2.2.1), (true, .tup [.int .i64 ((mget p0_3 p1.2.2.2.1).getD 0), .bool ((mget p0_3 p1.2.2.2.1).isSome)]), (true, .tup [.int .i64 ((mget p0_3 p1.2.2.2.1).getD 0), .bool ((mget p0_3 p1.2.2.2.1).isSome)]), (true, .int .i64 ((mget p0_3 p1.2.2.2.1).getD 0)), (true, .bool ((mget p0_3 p1.2.2.2.1).isSome)), (true, .int .i64 ((mget p0_3 p1.2.2.2.1).getD 0)), (true, .bool ((mget p0_3 p1.2.2.2.1).isSome))] [[], [0], [1], [2], [], [4], [3, 5], [6], [7], [7], [8], [9]] [11] rfl rfl rfl rfl rfl ⟨?_, ?_, ?_, ?_, ?_, ?_, ?_, ?_, ?_, ?_, ?_, ?_, trivial⟩ (allT_of ⟨rfl, trivial⟩) ?_
        · exact ob_v rfl (fun hg => allT_of trivial) (fun hg => av_move rfl)
        · exact ob_v rfl (fun hg => allT_of ⟨rfl, trivial⟩) (fun hg => av_nilCheck_ptr rfl)
        · exact ob_v rfl (fun hg => allT_of ⟨rfl, trivial⟩) (fun hg => av_fa_ptr fa64_3 rfl rfl)
        · exact ob_v rfl (fun hg => allT_of ⟨rfl, trivial⟩) (fun hg => av_load_ptr ts62 rfl rfl rfl)
        · exact ob_v rfl (fun hg => allT_of trivial) (fun hg => av_fa_ptr fa50_3 rfl rfl)
        · exact ob_v rfl (fun hg => allT_of ⟨rfl, trivial⟩) (fun hg => av_load_ptr ts3 rfl rfl rfl)
        · exact ob_v rfl (fun hg => allT_of ⟨rfl, rfl, trivial⟩) (fun hg => av_lookup2 (kx := p1.2.2.2.1) (r := .tup [.int .i64 ((mget p0_3 p1.2.2.2.1).getD 0), .bool ((mget p0_3 p1.2.2.2.1).isSome)]) und62 kt3 zw3 rfl rfl rfl rfl rfl)
        · exact ob_v rfl (fun hg => allT_of ⟨rfl, trivial⟩) (fun hg => av_move rfl)
        · exact ob_v rfl (fun hg => allT_of ⟨rfl, trivial⟩) (fun hg => av_extract rfl rfl)
        · exact ob_v rfl (fun hg => allT_of ⟨rfl, trivial⟩) (fun hg => av_extract rfl rfl)
        · exact ob_v rfl (fun hg => allT_of ⟨rfl, trivial⟩) (fun hg => av_assign rfl)
        · exact ob_v rfl (fun hg => allT_of ⟨rfl, trivial⟩) (fun hg => av_assign rfl)
        refine athen_norm (awc_seq (awc_block (awc_seq ?_)))
        refine awc_draw mixed [0, 3, 4, 5, 6, 8] [(true, .ptr 4 1), (true, .int .i64 p1.2.1), (true, .bool (decide (p1.2.1 = 2))), (true, .bool (decide (p1.2.1 = 2))), (decide (p1.2.1 = 2), .ptr 0 0), (decide (p1.2.1 = 2), .ptr 0 0), (decide (p1.2.1 = 2), .ptr 0 1), (decide (p1.2.1 = 2), .map 1), (decide (p1.2.1 = 2), .ptr 4 2), (decide (p1.2.1 = 2), .int .i64 p1.2.2.1), (decide (p1.2.1 = 2), .bool ((mget p0_1 p1.2.2.1).getD false)), (true, .bool ((decide (p1.2.1 = 2)) && ((mget p0_1 p1.2.2.1).getD false))), (true, .bool ((decide (p1.2.1 = 2)) && ((mget p0_1 p1.2.2.1).getD false))), (!((decide (p1.2.1 = 2)) && ((mget p0_1 p1.2.2.1).getD false)), .ptr 4 1), (!((decide (p1.2.1 = 2)) && ((mget p0_1 p1.2.2.1).getD false)), .int .i64 p1.2.1), (!((decide (p1.2.1 = 2)) && ((mget p0_1 p1.2.2.1).getD false)), .bool (decide (p1.2.1 = 4))), (!((decide (p1.2.1 = 2)) && ((mget p0_1 p1.2.2.1).getD false)), .bool (decide (p1.2.1 = 4))), ((!((decide (p1.2.1 = 2)) && ((mget p0_1 p1.2.2.1).getD false))) && (decide (p1.2.1 = 4)), .bool ((mget p0_2 p1.2.2.2.1).isSome)), (!((decide (p1.2.1 = 2)) && ((mget p0_1 p1.2.2.1).getD false)), .bool ((decide (p1.2.1 = 4)) && ((mget p0_2 p1.2.2.2.1).isSome))), (true, .bool (((decide (p1.2.1 = 2)) && ((mget p0_1 p1.2.2.1).getD false)) || ((decide (p1.2.1 = 4)) && ((mget p0_2 p1.2.2.2.1).isSome)))), (true, .bool (((decide (p1.2.1 = 2)) && ((mget p0_1 p1.2.2.1).getD false)) || ((decide (p1.2.1 = 4)) && ((mget p0_2 p1.2.2.2.1).isSome)))), (!(((decide (p1.2.1 = 2)) && ((mget p0_1 p1.2.2.1).getD false)) || ((decide (p1.2.1 = 4)) && ((mget p0_2 p1.2.2.2.1).isSome))), .ptr 4 1), (!(((decide (p1.2.1 = 2)) && ((mget p0_1 p1.2.2.1).getD false)) || ((decide (p1.2.1 = 4)) && ((mget p0_2 p1.2.2.2.1).isSome))), .int .i64 p1.2.1), (!(((decide (p1.2.1 = 2)) && ((mget p0_1 p1.2.2.1).getD false)) || ((decide (p1.2.1 = 4)) && ((mget p0_2 p1.2.2.2.1).isSome))), .bool (decide (p1.2.1 = 5))), (!(((decide (p1.2.1 = 2)) && ((mget p0_1 p1.2.2.1).getD false)) || ((decide (p1.2.1 = 4)) && ((mget p0_2 p1.2.2.2.1).isSome))), .bool (decide (p1.2.1 = 5))), ((!(((decide (p1.2.1 = 2)) && ((mget p0_1 p1.2.2.1).getD false)) || ((decide (p1.2.1 = 4)) && ((mget p0_2 p1.2.2.2.1).isSome)))) && (decide (p1.2.1 = 5)), .bool ((mget p0_3 p1.2.2.2.1).isSome)), (!(((decide (p1.2.1 = 2)) && ((mget p0_1 p1.2.2.1).getD false)) || ((decide (p1.2.1 = 4)) && ((mget p0_2 p1.2.2.2.1).isSome))), .bool ((decide (p1.2.1 = 5)) && ((mget p0_3 p1.2.2.2.1).isSome))), (true, .bool ((((decide (p1.2.1 = 2)) && ((mget p0_1 p1.2.2.1).getD false)) || ((decide (p1.2.1 = 4)) && ((mget p0_2 p1.2.2.2.1).isSome))) || ((decide (p1.2.1 = 5)) && ((mget p0_3 p1.2.2.2.1).isSome)))), (true, .bool ((((decide (p1.2.1 = 2)) && ((mget p0_1 p1.2.2.1).getD false)) || ((decide (p1.2.1 = 4)) && ((mget p0_2 p1.2.2.2.1).isSome))) || ((decide (p1.2.1 = 5)) && ((mget p0_3 p1.2.2.2.1).isSome))))] [[], [0], [1], [2], [3], [4, 3], [5, 3], [6, 3], [3], [8, 3], [7, 9, 3], [10, 3], [11], [12], [13, 12], [14, 12], [15, 12], [16], [17, 16, 12], [18, 12], [19], [20], [21, 20], [22, 20], [23, 20], [24], [25, 24, 20], [26, 20], [27]] [28] rfl rfl rfl rfl rfl ⟨?_, ?_, ?_, ?_, ?_, ?_, ?_, ?_, ?_, ?_, ?_, ?_, ?_, ?_, ?_, ?_, ?_, ?_, ?_, ?_, ?_, ?_, ?_, ?_, ?_, ?_, ?_, ?_, ?_, trivial⟩ (allT_of ⟨rfl, trivial⟩) ?_
        · exact ob_v rfl (fun hg => allT_of trivial) (fun hg => av_fa_ptr fa50_1 rfl rfl)
        · exact ob_v rfl (fun hg => allT_of ⟨rfl, trivial⟩) (fun hg => av_load_ptr ts3 rfl rfl rfl)
        · exact ob_v rfl (fun hg => allT_of ⟨rfl, trivial⟩) (fun hg => av_eql rfl rfl)
        · exact ob_v rfl (fun hg => allT_of ⟨rfl, trivial⟩) (fun hg => av_move rfl)
        · exact ob_v ⟨rfl, rfl, rfl, _, rfl, rfl⟩ (fun hg => allT_of ⟨rfl, trivial⟩) (fun hg => av_move rfl)
        · exact ob_v ⟨rfl, rfl, rfl, _, rfl, rfl⟩ (fun hg => allT_of ⟨hg, rfl, trivial⟩) (fun hg => av_nilCheck_ptr rfl)
        · exact ob_v ⟨rfl, rfl, rfl, _, rfl, rfl⟩ (fun hg => allT_of ⟨hg, rfl, trivial⟩) (fun hg => av_fa_ptr fa64_1 rfl rfl)
        · exact ob_v ⟨rfl, rfl, rfl, _, rfl, rfl⟩ (fun hg => allT_of ⟨hg, rfl, trivial⟩) (fun hg => av_load_ptr ts61 rfl rfl rfl)
        · exact ob_v ⟨rfl, rfl, rfl, _, rfl, rfl⟩ (fun hg => allT_of ⟨rfl, trivial⟩) (fun hg => av_fa_ptr fa50_2 rfl rfl)
        · exact ob_v ⟨rfl, rfl, rfl, _, rfl, rfl⟩ (fun hg => allT_of ⟨hg, rfl, trivial⟩) (fun hg => av_load_ptr ts3 rfl rfl rfl)
        · exact ob_v ⟨rfl, rfl, rfl, _, rfl, rfl⟩ (fun hg => allT_of ⟨hg, hg, rfl, trivial⟩) (fun hg => av_lookup (kx := p1.2.2.1) (r := .bool ((mget p0_1 p1.2.2.1).getD false)) und61 kt3 zw4 rfl rfl rfl rfl rfl)
        · exact ob_pick (b := true) (p := decide (p1.2.1 = 2)) (q := ((mget p0_1 p1.2.2.1).getD false)) rfl rfl rfl (fun hg => allT_of ⟨rfl, trivial⟩) rfl rfl rfl rfl rfl
        · exact ob_v rfl (fun hg => allT_of ⟨rfl, trivial⟩) (fun hg => av_move rfl)
        · exact ob_v ⟨rfl, rfl, rfl, _, rfl, rfl⟩ (fun hg => allT_of ⟨rfl, trivial⟩) (fun hg => av_fa_ptr fa50_1 rfl rfl)
        · exact ob_v ⟨rfl, rfl, rfl, _, rfl, rfl⟩ (fun hg => allT_of ⟨hg, rfl, trivial⟩) (fun hg => av_load_ptr ts3 rfl rfl rfl)
        · exact ob_v ⟨rfl, rfl, rfl, _, rfl, rfl⟩ (fun hg => allT_of ⟨hg, rfl, trivial⟩) (fun hg => av_eql rfl rfl)
        · exact ob_v ⟨rfl, rfl, rfl, _, rfl, rfl⟩ (fun hg => allT_of ⟨hg, rfl, trivial⟩) (fun hg => av_move rfl)
        · exact ob_v ⟨rfl, rfl, rfl, _, rfl, rfl⟩ (fun hg => allT_of ⟨(and_l hg), trivial⟩) (fun hg => av_move rfl)
        · exact ob_pick (b := true) (p := decide (p1.2.1 = 4)) (q := (mget p0_2 p1.2.2.2.1).isSome) ⟨rfl, rfl, rfl, _, rfl, rfl⟩ rfl rfl (fun hg => allT_of ⟨hg, rfl, trivial⟩) rfl rfl rfl rfl rfl
        · exact ob_pick (b := false) (p := (decide (p1.2.1 = 2)) && ((mget p0_1 p1.2.2.1).getD false)) (q := (decide (p1.2.1 = 4)) && ((mget p0_2 p1.2.2.2.1).isSome)) rfl rfl rfl (fun hg => allT_of ⟨rfl, trivial⟩) rfl rfl rfl rfl rfl
        · exact ob_v rfl (fun hg => allT_of ⟨rfl, trivial⟩) (fun hg => av_move rfl)
        · exact ob_v ⟨rfl, rfl, rfl, _, rfl, rfl⟩ (fun hg => allT_of ⟨rfl, trivial⟩) (fun hg => av_fa_ptr fa50_1 rfl rfl)
        · exact ob_v ⟨rfl, rfl, rfl, _, rfl, rfl⟩ (fun hg => allT_of ⟨hg, rfl, trivial⟩) (fun hg => av_load_ptr ts3 rfl rfl rfl)
        · exact ob_v ⟨rfl, rfl, rfl, _, rfl, rfl⟩ (fun hg => allT_of ⟨hg, rfl, trivial⟩) (fun hg => av_eql rfl rfl)
        · exact ob_v ⟨rfl, rfl, rfl, _, rfl, rfl⟩ (fun hg => allT_of ⟨hg, rfl, trivial⟩) (fun hg => av_move rfl)
        · exact ob_v ⟨rfl, rfl, rfl, _, rfl, rfl⟩ (fun hg => allT_of ⟨(and_l hg), trivial⟩) (fun hg => av_move rfl)
        · exact ob_pick (b := true) (p := decide (p1.2.1 = 5)) (q := (mget p0_3 p1.2.2.2.1).isSome) ⟨rfl, rfl, rfl, _, rfl, rfl⟩ rfl rfl (fun hg => allT_of ⟨hg, rfl, trivial⟩) rfl rfl rfl rfl rfl
        · exact ob_pick (b := false) (p := ((decide (p1.2.1 = 2)) && ((mget p0_1 p1.2.2.1).getD false)) || ((decide (p1.2.1 = 4)) && ((mget p0_2 p1.2.2.2.1).isSome))) (q := (decide (p1.2.1 = 5)) && ((mget p0_3 p1.2.2.2.1).isSome)) rfl rfl rfl (fun hg => allT_of ⟨rfl, trivial⟩) rfl rfl rfl rfl rfl
        · exact ob_v rfl (fun hg => allT_of ⟨rfl, trivial⟩) (fun hg => av_assign rfl)
        refine athen_norm ?_
        refine awc_cond (b := (((decide (p1.2.1 = 2)) && ((mget p0_1 p1.2.2.1).getD false)) || ((decide (p1.2.1 = 4)) && ((mget p0_2 p1.2.2.2.1).isSome))) || ((decide (p1.2.1 = 5)) && ((mget p0_3 p1.2.2.2.1).isSome))) rfl (fun hc9 => ?_) (fun hc9 => ?_)
        · have hr := if_t hc9 hr
          refine awc_seq ?_
          refine awc_region ?_
          refine awl_v (av_assign rfl) ?_
          have hr := Option.some.inj hr
          subst hr
          exact awl_nil (athen_norm (awc_ret (ablock_ret (athen_ret (ret_o (l' := [(4, .int .i64 6)]) (Hs := [(0, .var 64 [.int .i64 p0_0, .map 1, .map 2, .map 3]), (1, .map (.int .i64) .bool p0_1), (2, .map (.int .i64) (.int .i64) p0_2), (3, .map (.int .i64) (.int .i64) p0_3)]) (n := 4) (wk_of hX [0, 1, 2, 3] 4 rfl rfl ⟨⟨_, rfl, cv0⟩, trivial⟩ ⟨cvo0, cvo0, cvo0, cvo0, trivial⟩) rfl rfl rfl ⟨rfl, trivial⟩)))))
        · have hr := if_f hc9 hr
          refine awc_seq ?_
          refine awc_draw mixed [0, 3, 4, 5, 6] [(true, .ptr 4 1), (true, .int .i64 p1.2.1), (true, .bool (decide (p1.2.1 = 3))), (true, .bool (decide (p1.2.1 = 3))), (decide (p1.2.1 = 3), .ptr 0 0), (decide (p1.2.1 = 3), .ptr 0 0), (decide (p1.2.1 = 3), .ptr 0 1), (decide (p1.2.1 = 3), .map 1), (decide (p1.2.1 = 3), .ptr 4 2), (decide (p1.2.1 = 3), .int .i64 p1.2.2.1), (decide (p1.2.1 = 3), .bool ((mget p0_1 p1.2.2.1).getD false)), (decide (p1.2.1 = 3), .bool (!((mget p0_1 p1.2.2.1).getD false))), (true, .bool ((decide (p1.2.1 = 3)) && (!((mget p0_1 p1.2.2.1).getD false)))), (true, .bool ((decide (p1.2.1 = 3)) && (!((mget p0_1 p1.2.2.1).getD false)))), (!((decide (p1.2.1 = 3)) && (!((mget p0_1 p1.2.2.1).getD false))), .ptr 4 1), (!((decide (p1.2.1 = 3)) && (!((mget p0_1 p1.2.2.1).getD false))), .int .i64 p1.2.1), (!((decide (p1.2.1 = 3)) && (!((mget p0_1 p1.2.2.1).getD false))), .bool (decide (p1.2.1 = 5))), (!((decide (p1.2.1 = 3)) && (!((mget p0_1 p1.2.2.1).getD false))), .bool (decide (p1.2.1 = 5))), ((!((decide (p1.2.1 = 3)) && (!((mget p0_1 p1.2.2.1).getD false)))) && (decide (p1.2.1 = 5)), .bool ((mget p0_2 p1.2.2.2.1).isSome)), ((!((decide (p1.2.1 = 3)) && (!((mget p0_1 p1.2.2.1).getD false)))) && (decide (p1.2.1 = 5)), .bool (!((mget p0_2 p1.2.2.2.1).isSome))), (!((decide (p1.2.1 = 3)) && (!((mget p0_1 p1.2.2.1).getD false))), .bool ((decide (p1.2.1 = 5)) && (!((mget p0_2 p1.2.2.2.1).isSome)))), (true, .bool (((decide (p1.2.1 = 3)) && (!((mget p0_1 p1.2.2.1).getD false))) || ((decide (p1.2.1 = 5)) && (!((mget p0_2 p1.2.2.2.1).isSome))))), (true, .bool (((decide (p1.2.1 = 3)) && (!((mget p0_1 p1.2.2.1).getD false))) || ((decide (p1.2.1 = 5)) && (!((mget p0_2 p1.2.2.2.1).isSome)))))] [[], [0], [1], [2], [3], [4, 3], [5, 3], [6, 3], [3], [8, 3], [7, 9, 3], [10, 3], [11, 3], [12], [13], [14, 13], [15, 13], [16, 13], [17], [18, 17], [19, 17, 13], [20, 13], [21]] [22] rfl rfl rfl rfl rfl ⟨?_, ?_, ?_, ?_, ?_, ?_, ?_, ?_, ?_, ?_, ?_, ?_, ?_, ?_, ?_, ?_, ?_, ?_, ?_, ?_, ?_, ?_, ?_, trivial⟩ (allT_of ⟨rfl, trivial⟩) ?_
          · exact ob_v rfl (fun hg => allT_of trivial) (fun hg => av_fa_ptr fa50_1 rfl rfl)
          · exact ob_v rfl (fun hg => allT_of ⟨rfl, trivial⟩) (fun hg => av_load_ptr ts3 rfl rfl rfl)
          · exact ob_v rfl (fun hg => allT_of ⟨rfl, trivial⟩) (fun hg => av_eql rfl rfl)
          · exact ob_v rfl (fun hg => allT_of ⟨rfl, trivial⟩) (fun hg => av_move rfl)
          · exact ob_v ⟨rfl, rfl, rfl, _, rfl, rfl⟩ (fun hg => allT_of ⟨rfl, trivial⟩) (fun hg => av_move rfl)
          · exact ob_v ⟨rfl, rfl, rfl, _, rfl, rfl⟩ (fun hg => allT_of ⟨hg, rfl, trivial⟩) (fun hg => av_nilCheck_ptr rfl)
          · exact ob_v ⟨rfl, rfl, rfl, _, rfl, rfl⟩ (fun hg => allT_of ⟨hg, rfl, trivial⟩) (fun hg => av_fa_ptr fa64_1 rfl rfl)
          · exact ob_v ⟨rfl, rfl, rfl, _, rfl, rfl⟩ (fun hg => allT_of ⟨hg, rfl, trivial⟩) (fun hg => av_load_ptr ts61 rfl rfl rfl)
          · exact ob_v ⟨rfl, rfl, rfl, _, rfl, rfl⟩ (fun hg => allT_of ⟨rfl, trivial⟩) (fun hg => av_fa_ptr fa50_2 rfl rfl)
          · exact ob_v ⟨rfl, rfl, rfl, _, rfl, rfl⟩ (fun hg => allT_of ⟨hg, rfl, trivial⟩) (fun hg => av_load_ptr ts3 rfl rfl rfl)
          · exact ob_v ⟨rfl, rfl, rfl, _, rfl, rfl⟩ (fun hg => allT_of ⟨hg, hg, rfl, trivial⟩) (fun hg => av_lookup (kx := p1.2.2.1) (r := .bool ((mget p0_1 p1.2.2.1).getD false)) und61 kt3 zw4 rfl rfl rfl rfl rfl)
          · exact ob_v ⟨rfl, rfl, rfl, _, rfl, rfl⟩ (fun hg => allT_of ⟨hg, rfl, trivial⟩) (fun hg => av_not rfl)
          · exact ob_pick (b := true) (p := decide (p1.2.1 = 3)) (q := !((mget p0_1 p1.2.2.1).getD false)) rfl rfl rfl (fun hg => allT_of ⟨rfl, trivial⟩) rfl rfl rfl rfl rfl
          · exact ob_v rfl (fun hg => allT_of ⟨rfl, trivial⟩) (fun hg => av_move rfl)
          · exact ob_v ⟨rfl, rfl, rfl, _, rfl, rfl⟩ (fun hg => allT_of ⟨rfl, trivial⟩) (fun hg => av_fa_ptr fa50_1 rfl rfl)
          · exact ob_v ⟨rfl, rfl, rfl, _, rfl, rfl⟩ (fun hg => allT_of ⟨hg, rfl, trivial⟩) (fun hg => av_load_ptr ts3 rfl rfl rfl)
          · exact ob_v ⟨rfl, rfl, rfl, _, rfl, rfl⟩ (fun hg => allT_of ⟨hg, rfl, trivial⟩) (fun hg => av_eql rfl rfl)
          · exact ob_v ⟨rfl, rfl, rfl, _, rfl, rfl⟩ (fun hg => allT_of ⟨hg, rfl, trivial⟩) (fun hg => av_move rfl)
          · exact ob_v ⟨rfl, rfl, rfl, _, rfl, rfl⟩ (fun hg => allT_of ⟨(and_l hg), trivial⟩) (fun hg => av_move rfl)
          · exact ob_v ⟨rfl, rfl, rfl, _, rfl, rfl⟩ (fun hg => allT_of ⟨hg, (and_l hg), trivial⟩) (fun hg => av_not rfl)
          · exact ob_pick (b := true) (p := decide (p1.2.1 = 5)) (q := !((mget p0_2 p1.2.2.2.1).isSome)) ⟨rfl, rfl, rfl, _, rfl, rfl⟩ rfl rfl (fun hg => allT_of ⟨hg, rfl, trivial⟩) rfl rfl rfl rfl rfl
          · exact ob_pick (b := false) (p := (decide (p1.2.1 = 3)) && (!((mget p0_1 p1.2.2.1).getD false))) (q := (decide (p1.2.1 = 5)) && (!((mget p0_2 p1.2.2.2.1).isSome))) rfl rfl rfl (fun hg => allT_of ⟨rfl, trivial⟩) rfl rfl rfl rfl rfl
          · exact ob_v rfl (fun hg => allT_of ⟨rfl, trivial⟩) (fun hg => av_assign rfl)
          refine athen_norm ?_
          refine awc_cond (b := ((decide (p1.2.1 = 3)) && (!((mget p0_1 p1.2.2.1).getD false))) || ((decide (p1.2.1 = 5)) && (!((mget p0_2 p1.2.2.2.1).isSome)))) rfl (fun hc10 => ?_) (fun hc10 => ?_)
          · have hr := if_t hc10 hr
            refine awc_seq ?_
            refine awc_region ?_
            refine awl_v (av_assign rfl) ?_
            have hr := Option.some.inj hr
            subst hr
            exact awl_nil (athen_norm (awc_ret (ablock_ret (athen_ret (ret_o (l' := [(4, .int .i64 8)]) (Hs := [(0, .var 64 [.int .i64 p0_0, .map 1, .map 2, .map 3]), (1, .map (.int .i64) .bool p0_1), (2, .map (.int .i64) (.int .i64) p0_2), (3, .map (.int .i64) (.int .i64) p0_3)]) (n := 4) (wk_of hX [0, 1, 2, 3] 4 rfl rfl ⟨⟨_, rfl, cv0⟩, trivial⟩ ⟨cvo0, cvo0, cvo0, cvo0, trivial⟩) rfl rfl rfl ⟨rfl, trivial⟩)))))
          · have hr := if_f hc10 hr
            refine awc_seq ?_
            refine awc_text [0, 3, 4, 5] [(true, .ptr 4 1), (true, .int .i64 p1.2.1), (true, .bool (decide (p1.2.1 = 5))), (true, .bool (decide (p1.2.1 = 5))), (decide (p1.2.1 = 5), .int .i64 ((mget p0_2 p1.2.2.2.1).getD 0)), (decide (p1.2.1 = 5), .ptr 4 0), (decide (p1.2.1 = 5), .int .i64 p1.1), (decide (p1.2.1 = 5), .bool (!decide (((mget p0_2 p1.2.2.2.1).getD 0) = p1.1))), (true, .bool ((decide (p1.2.1 = 5)) && (!decide (((mget p0_2 p1.2.2.2.1).getD 0) = p1.1)))), (true, .bool ((decide (p1.2.1 = 5)) && (!decide (((mget p0_2 p1.2.2.2.1).getD 0) = p1.1))))] [[], [0], [1], [2], [3], [3], [5, 3], [4, 6, 3], [7, 3], [8]] [9] rfl rfl rfl rfl rfl ⟨?_, ?_, ?_, ?_, ?_, ?_, ?_, ?_, ?_, ?_, trivial⟩ (allT_of ⟨rfl, trivial⟩) ?_
            · exact ob_v rfl (fun hg => allT_of trivial) (fun hg => av_fa_ptr fa50_1 rfl rfl)
            · exact ob_v rfl (fun hg => allT_of ⟨rfl, trivial⟩) (fun hg => av_load_ptr ts3 rfl rfl rfl)
            · exact ob_v rfl (fun hg => allT_of ⟨rfl, trivial⟩) (fun hg => av_eql rfl rfl)
            · exact ob_v rfl (fun hg => allT_of ⟨rfl, trivial⟩) (fun hg => av_move rfl)
            · exact ob_v ⟨rfl, rfl, rfl, _, rfl, rfl⟩ (fun hg => allT_of ⟨rfl, trivial⟩) (fun hg => av_move rfl)
            · exact ob_v ⟨rfl, rfl, rfl, _, rfl, rfl⟩ (fun hg => allT_of ⟨rfl, trivial⟩) (fun hg => av_fa_ptr fa50_0 rfl rfl)
            · exact ob_v ⟨rfl, rfl, rfl, _, rfl, rfl⟩ (fun hg => allT_of ⟨hg, rfl, trivial⟩) (fun hg => av_load_ptr ts3 rfl rfl rfl)
            · exact ob_v ⟨rfl, rfl, rfl, _, rfl, rfl⟩ (fun hg => allT_of ⟨hg, hg, rfl, trivial⟩) (fun hg => av_neq rfl rfl)
            · exact ob_pick (b := true) (p := decide (p1.2.1 = 5)) (q := !decide (((mget p0_2 p1.2.2.2.1).getD 0) = p1.1)) rfl rfl rfl (fun hg => allT_of ⟨rfl, trivial⟩) rfl rfl rfl rfl rfl
            · exact ob_v rfl (fun hg => allT_of ⟨rfl, trivial⟩) (fun hg => av_assign rfl)
            refine athen_norm ?_
            refine awc_cond (b := (decide (p1.2.1 = 5)) && (!decide (((mget p0_2 p1.2.2.2.1).getD 0) = p1.1))) rfl (fun hc11 => ?_) (fun hc11 => ?_)
            · have hr := if_t hc11 hr
              refine awc_seq ?_
              refine awc_region ?_
              refine awl_v (av_assign rfl) ?_
              have hr := Option.some.inj hr
              subst hr
              exact awl_nil (athen_norm (awc_ret (ablock_ret (athen_ret (ret_o (l' := [(4, .int .i64 9)]) (Hs := [(0, .var 64 [.int .i64 p0_0, .map 1, .map 2, .map 3]), (1, .map (.int .i64) .bool p0_1), (2, .map (.int .i64) (.int .i64) p0_2), (3, .map (.int .i64) (.int .i64) p0_3)]) (n := 4) (wk_of hX [0, 1, 2, 3] 4 rfl rfl ⟨⟨_, rfl, cv0⟩, trivial⟩ ⟨cvo0, cvo0, cvo0, cvo0, trivial⟩) rfl rfl rfl ⟨rfl, trivial⟩)))))
            · have hr := if_f hc11 hr
              refine awc_skip (ablock_norm (athen_norm ?_))
              obtain ⟨o15, e16, hr⟩ := bnd_some hr
              refine awc_join (S := (List (Int × Bool)) × (List (Int × Int)) × (List (Int × Int))) (R := Unit) (fun s => match s with | (s12, s13, s14) => (⟨[(4, .int .i64 0)], [(0, .var 64 [.int .i64 p0_0, .map 1, .map 2, .map 3]), (1, .map (.int .i64) .bool s12), (2, .map (.int .i64) (.int .i64) s13), (3, .map (.int .i64) (.int .i64) s14)], 4⟩ : AS)) (fun _ _ _ => False) e16 (fun hr => ?_) ?_ ?_
              · refine awc_seq ?_
                refine awc_region ?_
                refine awl_v (av_fa_ptr fa50_1 rfl rfl) ?_
                refine awl_v (av_load_ptr ts3 rfl rfl rfl) ?_
                refine awl_nil (athen_norm (awc_block (awc_seq ?_)))
                refine awc_region ?_
                refine awl_v (av_eql rfl rfl) ?_
                refine awl_v (av_assign rfl) ?_
                refine awl_nil (athen_norm ?_)
                refine awc_cond (b := decide (p1.2.1 = 2)) rfl (fun hc17 => ?_) (fun hc17 => ?_)
                · have hr := if_t hc17 hr
                  refine awc_draw_tail2 6 [6, 6, 6, 6, 6, 6] mixed [0, 3, 4] [(true, .ptr 0 0), (true, .ptr 0 0), (true, .ptr 0 1), (true, .map 1), (true, .ptr 4 2), (true, .int .i64 p1.2.2.1)] [[], [0], [1], [2], [], [4]] [3, 5] rfl rfl rfl rfl rfl rfl rfl rfl ⟨?_, ?_, ?_, ?_, ?_, ?_, trivial⟩ (allT_of ⟨rfl, rfl, trivial⟩) ?_
                  · exact ob_v rfl (fun hg => allT_of trivial) (fun hg => av_move rfl)
                  · exact ob_v rfl (fun hg => allT_of ⟨rfl, trivial⟩) (fun hg => av_nilCheck_ptr rfl)
                  · exact ob_v rfl (fun hg => allT_of ⟨rfl, trivial⟩) (fun hg => av_fa_ptr fa64_1 rfl rfl)
                  · exact ob_v rfl (fun hg => allT_of ⟨rfl, trivial⟩) (fun hg => av_load_ptr ts61 rfl rfl rfl)
                  · exact ob_v rfl (fun hg => allT_of trivial) (fun hg => av_fa_ptr fa50_2 rfl rfl)
                  · exact ob_v rfl (fun hg => allT_of ⟨rfl, trivial⟩) (fun hg => av_load_ptr ts3 rfl rfl rfl)
                  refine awl_op (aop_mapSet (kx := p1.2.2.1) (vx := true) und61 kt3 (.inl rfl) rfl rfl rfl rfl rfl rfl rfl ?_)
                  have hr := Option.some.inj hr
                  subst hr
                  exact awl_nil (ablock_norm ((wk_of hX [0, 1, 2, 3] 4 rfl rfl ⟨⟨_, rfl, cv0⟩, trivial⟩ ⟨cvo0, cvo0, cvo0, cvo0, trivial⟩)))
                · have hr := if_f hc17 hr
                  refine awc_seq ?_
                  refine awc_region ?_
                  refine awl_v (av_eql rfl rfl) ?_
                  refine awl_v (av_assign rfl) ?_
                  refine awl_nil (athen_norm ?_)
                  refine awc_cond (b := decide (p1.2.1 = 4)) rfl (fun hc18 => ?_) (fun hc18 => ?_)
                  · have hr := if_t hc18 hr
                    refine awc_draw_tail2 8 [8, 8, 8, 8, 8, 8, 8, 8] mixed [0, 3, 4] [(true, .ptr 0 0), (true, .ptr 0 0), (true, .ptr 0 2), (true, .map 2), (true, .ptr 4 3), (true, .int .i64 p1.2.2.2.1), (true, .ptr 4 0), (true, .int .i64 p1.1)] [[], [0], [1], [2], [], [4], [], [6]] [3, 5, 7] rfl rfl rfl rfl rfl rfl rfl rfl ⟨?_, ?_, ?_, ?_, ?_, ?_, ?_, ?_, trivial⟩ (allT_of ⟨rfl, rfl, rfl, trivial⟩) ?_
                    · exact ob_v rfl (fun hg => allT_of trivial) (fun hg => av_move rfl)
                    · exact ob_v rfl (fun hg => allT_of ⟨rfl, trivial⟩) (fun hg => av_nilCheck_ptr rfl)
                    · exact ob_v rfl (fun hg => allT_of ⟨rfl, trivial⟩) (fun hg => av_fa_ptr fa64_2 rfl rfl)
                    · exact ob_v rfl (fun hg => allT_of ⟨rfl, trivial⟩) (fun hg => av_load_ptr ts62 rfl rfl rfl)
                    · exact ob_v rfl (fun hg => allT_of trivial) (fun hg => av_fa_ptr fa50_3 rfl rfl)
                    · exact ob_v rfl (fun hg => allT_of ⟨rfl, trivial⟩) (fun hg => av_load_ptr ts3 rfl rfl rfl)
                    · exact ob_v rfl (fun hg => allT_of trivial) (fun hg => av_fa_ptr fa50_0 rfl rfl)
                    · exact ob_v rfl (fun hg => allT_of ⟨rfl, trivial⟩) (fun hg => av_load_ptr ts3 rfl rfl rfl)
                    refine awl_op (aop_mapSet (kx := p1.2.2.2.1) (vx := p1.1) und62 kt3 (.inl rfl) rfl rfl rfl rfl rfl rfl rfl ?_)
                    have hr := Option.some.inj hr
                    subst hr
                    exact awl_nil (ablock_norm ((wk_of hX [0, 1, 2, 3] 4 rfl rfl ⟨⟨_, rfl, cv0⟩, trivial⟩ ⟨cvo0, cvo0, cvo0, cvo0, trivial⟩)))
                  · have hr := if_f hc18 hr
                    refine awc_seq ?_
                    refine awc_region ?_
                    refine awl_v (av_eql rfl rfl) ?_
                    refine awl_v (av_assign rfl) ?_
                    refine awl_nil (athen_norm ?_)
                    refine awc_cond (b := decide (p1.2.1 = 5)) rfl (fun hc19 => ?_) (fun hc19 => ?_)
                    · have hr := if_t hc19 hr
                      refine awc_draw_tail2 8 [8, 8, 8, 8, 8, 8, 8, 8] mixed [0, 3, 4] [(true, .ptr 0 0), (true, .ptr 0 0), (true, .ptr 0 3), (true, .map 3), (true, .ptr 4 3), (true, .int .i64 p1.2.2.2.1), (true, .ptr 4 0), (true, .int .i64 p1.1)] [[], [0], [1], [2], [], [4], [], [6]] [3, 5, 7] rfl rfl rfl rfl rfl rfl rfl rfl ⟨?_, ?_, ?_, ?_, ?_, ?_, ?_, ?_, trivial⟩ (allT_of ⟨rfl, rfl, rfl, trivial⟩) ?_
                      · exact ob_v rfl (fun hg => allT_of trivial) (fun hg => av_move rfl)
                      · exact ob_v rfl (fun hg => allT_of ⟨rfl, trivial⟩) (fun hg => av_nilCheck_ptr rfl)
                      · exact ob_v rfl (fun hg => allT_of ⟨rfl, trivial⟩) (fun hg => av_fa_ptr fa64_3 rfl rfl)
                      · exact ob_v rfl (fun hg => allT_of ⟨rfl, trivial⟩) (fun hg => av_load_ptr ts62 rfl rfl rfl)
                      · exact ob_v rfl (fun hg => allT_of trivial) (fun hg => av_fa_ptr fa50_3 rfl rfl)
                      · exact ob_v rfl (fun hg => allT_of ⟨rfl, trivial⟩) (fun hg => av_load_ptr ts3 rfl rfl rfl)
                      · exact ob_v rfl (fun hg => allT_of trivial) (fun hg => av_fa_ptr fa50_0 rfl rfl)
                      · exact ob_v rfl (fun hg => allT_of ⟨rfl, trivial⟩) (fun hg => av_load_ptr ts3 rfl rfl rfl)
                      refine awl_op (aop_mapSet (kx := p1.2.2.2.1) (vx := p1.1) und62 kt3 (.inl rfl) rfl rfl rfl rfl rfl rfl rfl ?_)
                      have hr := Option.some.inj hr
                      subst hr
                      exact awl_nil (ablock_norm ((wk_of hX [0, 1, 2, 3] 4 rfl rfl ⟨⟨_, rfl, cv0⟩, trivial⟩ ⟨cvo0, cvo0, cvo0, cvo0, trivial⟩)))
                    · have hr := if_f hc19 hr
                      have hr := Option.some.inj hr
                      subst hr
                      exact awc_skip (ablock_norm ((wk_of hX [0, 1, 2, 3] 4 rfl rfl ⟨⟨_, rfl, cv0⟩, trivial⟩ ⟨cvo0, cvo0, cvo0, cvo0, trivial⟩)))
              · rintro ⟨s12, s13, s14⟩ rfl
                refine awc_seq ?_
                refine awc_region ?_
                refine awl_v (av_assign rfl) ?_
                have hr := Option.some.inj hr
                subst hr
                exact awl_nil (athen_norm (awc_ret (ret_o (l' := [(4, .int .i64 0)]) (Hs := [(0, .var 64 [.int .i64 p0_0, .map 1, .map 2, .map 3]), (1, .map (.int .i64) .bool s12), (2, .map (.int .i64) (.int .i64) s13), (3, .map (.int .i64) (.int .i64) s14)]) (n := 4) (wk_of hX [0, 1, 2, 3] 4 rfl rfl ⟨⟨_, rfl, cv0⟩, trivial⟩ ⟨cvo0, cvo0, cvo0, cvo0, trivial⟩) rfl rfl rfl ⟨rfl, trivial⟩)))
              · exact fun r h e st hne hx => hx.elim
theorem f15_runs {p0 : Int} {p1 : List (Int × Int × Int × Int × Str)} {r : Int × Int} (hr : f15 p0 p1 = some r) : RunsP Try.prog 15 [.int .i64 p0, .sl Y1 p1] [.int .i64 r.1, .int .i64 r.2] := by
  refine runs_w Try.func15 Try.ntmps15 rfl (rs := [.tmp 4, .tmp 5]) rfl rfl fun w0 X hX => ?_
  refine awc_seq ?_
  refine awc_region ?_
  refine awl_v (av_assign rfl) ?_
  refine awl_v (av_assign rfl) ?_
  refine awl_nil (athen_norm (awc_seq (awc_seq ?_)))
  refine awc_text [0, 1, 4, 5] [(true, .int .i64 p0), (true, .bool (decide (p0 < 1))), (true, .bool (decide (p0 < 1))), (!(decide (p0 < 1)), .int .i64 p0), (!(decide (p0 < 1)), .bool (decide (16 < p0))), (true, .bool ((decide (p0 < 1)) || (decide (16 < p0))))] [[], [0], [1], [2], [3, 2], [4, 2]] [5] rfl rfl rfl rfl rfl ⟨?_, ?_, ?_, ?_, ?_, ?_, trivial⟩ (allT_of ⟨rfl, trivial⟩) ?_
  · exact ob_v rfl (fun hg => allT_of trivial) (fun hg => av_move rfl)
  · exact ob_v rfl (fun hg => allT_of ⟨rfl, trivial⟩) (fun hg => av_lss rfl rfl)
  · exact ob_v rfl (fun hg => allT_of ⟨rfl, trivial⟩) (fun hg => av_move rfl)
  · exact ob_v ⟨rfl, rfl, rfl, _, rfl, rfl⟩ (fun hg => allT_of ⟨rfl, trivial⟩) (fun hg => av_move rfl)
  · exact ob_v ⟨rfl, rfl, rfl, _, rfl, rfl⟩ (fun hg => allT_of ⟨hg, rfl, trivial⟩) (fun hg => av_gtr rfl rfl)
  · exact ob_pick (b := false) (p := decide (p0 < 1)) (q := decide (16 < p0)) rfl rfl rfl (fun hg => allT_of ⟨rfl, trivial⟩) rfl rfl rfl rfl rfl
  refine athen_norm ?_
  refine awc_cond (b := (decide (p0 < 1)) || (decide (16 < p0))) rfl (fun hc1 => ?_) (fun hc1 => ?_)
  · have hr := if_t hc1 hr
    refine awc_seq ?_
    refine awc_region ?_
    refine awl_v (av_assign rfl) ?_
    refine awl_v (av_assign rfl) ?_
    have hr := Option.some.inj hr
    subst hr
    exact awl_nil (athen_norm (awc_ret (athen_ret (ret_q (l' := [(4, .int .i64 0), (5, .int .i64 7)]) (wk_of hX [] 4 rfl rfl ⟨⟨_, rfl, cv0⟩, ⟨_, rfl, cv0⟩, trivial⟩ trivial) rfl ⟨rfl, rfl, trivial⟩))))
  · have hr := if_f hc1 hr
    refine awc_skip (athen_norm (awc_seq ?_))
    refine awc_region ?_
    refine awl_v (av_move rfl) ?_
    refine awl_op (aop_makeMap (.int .i64) .bool rfl ?_)
    refine awl_op (aop_makeMap (.int .i64) (.int .i64) rfl ?_)
    refine awl_op (aop_makeMap (.int .i64) (.int .i64) rfl ?_)
    refine awl_v (av_build (qs := [(0, [.int .i64 p0]), (1, [.map 0]), (2, [.map 1]), (3, [.map 2])]) (cs := [.int .i64 p0, .map 0, .map 1, .map 2]) bt64 rfl rfl rfl) ?_
    refine awl_op (aop_box rfl rfl ?_)
    refine awl_v (av_assign rfl) ?_
    refine awl_nil (athen_norm (awc_seq (awc_seq ?_)))
    refine awc_region ?_
    refine awl_v (av_move rfl) ?_
    refine awl_v (av_len_sl (t := Y1) rfl rfl und30 rfl) ?_
    refine awl_v (av_move rfl) ?_
    refine awl_nil (athen_norm (awc_block ?_))
    obtain ⟨o13, e14, hr⟩ := bnd_some hr
    refine awc_len (t := 1) rfl (fun hl => ?_)
    refine awc_range (S := (List (Int × Bool)) × (List (Int × Int)) × (List (Int × Int))) (R := Int × Int) (List.length p1 : Int) (f15_b0 p0 p1) (fun p => match p with | (i2, s4, s5, s6) => (⟨[(4, .int .i64 0), (5, .int .i64 0), (6, .ptr 0 0), (22, .sl Y1 p1), (23, .int .i64 (List.length p1 : Int)), (24, .int .i64 i2)], [(0, .var 64 [.int .i64 p0, .map 1, .map 2, .map 3]), (1, .map (.int .i64) .bool s4), (2, .map (.int .i64) (.int .i64) s5), (3, .map (.int .i64) (.int .i64) s6)], 4⟩ : AS)) (fun o e st => match o with | .inl (s4, s5, s6) => e = .exit 0 ∧ Wk X st ⟨[(4, .int .i64 0), (5, .int .i64 0)], [], 0⟩ | .inr (s11, s12) => e = .ret ∧ Wk X st ⟨[(4, .int .i64 s11), (5, .int .i64 s12)], [], 0⟩) (len_ok hl) e14 (wk_of hX [3, 0, 1, 2] 4 rfl rfl ⟨⟨_, rfl, cv0⟩, ⟨_, rfl, cv0⟩, ⟨_, rfl, cv0⟩, ⟨_, rfl, cv0⟩, ⟨_, rfl, cv0⟩, ⟨_, rfl, cv0⟩, trivial⟩ ⟨cvo0, cvo0, cvo0, cvo0, trivial⟩) ?_ ?_
    · intro e st hx
      rcases o13 with ⟨s4, s5, s6⟩ | ⟨s11, s12⟩
      · obtain ⟨rfl, hw⟩ := hx
        refine ablock_here (athen_norm ((awc_wk hw) (awc_seq ?_)))
        refine awc_region ?_
        refine awl_v (av_assign rfl) ?_
        refine awl_v (av_assign rfl) ?_
        have hr := Option.some.inj hr
        subst hr
        exact awl_nil (athen_norm (awc_ret (ret_q (l' := [(4, .int .i64 (-1)), (5, .int .i64 0)]) (wk_of hX [] 4 rfl rfl ⟨⟨_, rfl, cv0⟩, ⟨_, rfl, cv0⟩, trivial⟩ trivial) rfl ⟨rfl, rfl, trivial⟩)))
      · obtain ⟨rfl, hw⟩ := hx
        have hr := Option.some.inj hr
        subst hr
        exact ablock_ret (athen_ret (ret_q (l' := [(4, .int .i64 s11), (5, .int .i64 s12)]) (Wk.trans hw (wk_of hX [] 4 rfl rfl ⟨⟨_, rfl, cv0⟩, ⟨_, rfl, cv0⟩, trivial⟩ trivial)) rfl ⟨rfl, rfl, trivial⟩))
    · rintro i2 ⟨s4, s5, s6⟩ o ho
      refine awc_seq ?_
      refine awc_region ?_
      refine awl_v (av_lss rfl rfl) ?_
      refine awl_nil (athen_norm (awc_seq ?_))
      refine awc_cond (b := decide (i2 < (List.length p1 : Int))) rfl (fun hc15 => ?_) (fun hc15 => ?_)
      · obtain ⟨q, hr, rfl⟩ := rb_t hc15 ho
        refine awc_skip (athen_norm (awc_seq (awc_block (awc_seq ?_))))
        refine awc_region ?_
        refine awl_v (av_move rfl) ?_
        obtain ⟨x16, e17, hr⟩ := bnd_some hr
        refine awl_v (av_ia_sl (t := Y1) (e := x16) und30 sz50 rfl rfl e17) ?_
        refine awl_v (av_load_rpN ts50 rfl rfl rfl) ?_
        refine awl_op (aop_alloc zero50 rfl ?_)
        refine awl_v (av_assign rfl) ?_
        refine awl_op (aop_store sz50 rfl rfl rfl rfl rfl rfl rfl ?_)
        refine awl_nil (athen_norm (awc_seq (awc_seq ?_)))
        refine awc_region ?_
        refine awl_v (av_move rfl) ?_
        refine awl_v (av_eql rfl rfl) ?_
        refine awl_nil (athen_norm ?_)
        refine awc_cond (b := decide (i2 = 1000)) rfl (fun hc18 => ?_) (fun hc18 => ?_)
        · have hr := if_t hc18 hr
          refine awc_seq ?_
          refine awc_region ?_
          refine awl_v (av_move rfl) ?_
          refine awl_v (av_assign rfl) ?_
          refine awl_v (av_assign rfl) ?_
          have hr := Option.some.inj hr
          subst hr
          exact awl_nil (athen_norm (awc_ret (athen_ret (ablock_ret (athen_ret (⟨rfl, (wk_of hX [] 4 rfl rfl ⟨⟨_, rfl, cv0⟩, ⟨_, rfl, cv0⟩, trivial⟩ trivial)⟩))))))
        · have hr := if_f hc18 hr
          refine awc_skip (athen_norm (awc_seq ?_))
          refine awc_region ?_
          refine awl_v (av_move rfl) ?_
          refine awl_v (av_load_ptrN ts50 rfl rfl rfl rfl) ?_
          obtain ⟨x19, e20, hr⟩ := bnd_some hr
          refine awl_op (aop_callO (σ := [0, 1, 2, 3]) (as' := [.ptr 0 0, .agg [.int .i64 x16.1, .int .i64 x16.2.1, .int .i64 x16.2.2.1, .int .i64 x16.2.2.2.1, .str x16.2.2.2.2]]) (f49_runs e20) ent49 rfl ⟨cv0, cv0, trivial⟩ rfl rfl rfl ?_)
          refine awl_v (av_assign rfl) ?_
          refine awl_nil (athen_norm (awc_seq ?_))
          refine awc_region ?_
          refine awl_v (av_move rfl) ?_
          refine awl_v (av_neq rfl rfl) ?_
          refine awl_nil (athen_norm ?_)
          refine awc_cond (b := !decide (x19.1 = 0)) rfl (fun hc21 => ?_) (fun hc21 => ?_)
          · have hr := if_t hc21 hr
            refine awc_seq ?_
            refine awc_region ?_
            refine awl_v (av_move rfl) ?_
            refine awl_v (av_move rfl) ?_
            refine awl_v (av_assign rfl) ?_
            refine awl_v (av_assign rfl) ?_
            have hr := Option.some.inj hr
            subst hr
            exact awl_nil (athen_norm (awc_ret (ablock_ret (athen_ret (⟨rfl, (wk_of hX [] 4 rfl rfl ⟨⟨_, rfl, cv0⟩, ⟨_, rfl, cv0⟩, trivial⟩ trivial)⟩)))))
          · have hr := if_f hc21 hr
            refine awc_skip (ablock_norm (athen_norm ?_))
            refine awc_region ?_
            refine awl_v (av_add rfl rfl) ?_
            refine awl_v (av_move rfl) ?_
            have hr := Option.some.inj hr
            subst hr
            exact awl_nil ((wk_of hX [0, 1, 2, 3] 4 rfl rfl ⟨⟨_, rfl, cv0⟩, ⟨_, rfl, cv0⟩, ⟨_, rfl, cv0⟩, ⟨_, rfl, cv0⟩, ⟨_, rfl, cv0⟩, ⟨_, rfl, cv0⟩, trivial⟩ ⟨cvo0, cvo0, cvo0, cvo0, trivial⟩))
      · obtain rfl := rb_f hc15 ho
        exact awc_exit (athen_exit (⟨rfl, (wk_of hX [] 4 rfl rfl ⟨⟨_, rfl, cv0⟩, ⟨_, rfl, cv0⟩, trivial⟩ trivial)⟩))
theorem f17_runs {p0 : Int} {p1 : List (Int × Int × Int × Int × Str)} {r : Bool} (hr : f17 p0 p1 = some r) : RunsP Try.prog 17 [.int .i64 p0, .sl Y1 p1] [.bool r] := by
  refine runs_w Try.func17 Try.ntmps17 rfl (rs := [.tmp 4]) rfl rfl fun w0 X hX => ?_
  refine awc_seq ?_
  refine awc_region ?_
  refine awl_v (av_assign rfl) ?_
  refine awl_nil (athen_norm (awc_seq ?_))
  refine awc_region ?_
  refine awl_v (av_move rfl) ?_
  refine awl_v (av_move rfl) ?_
  obtain ⟨x1, e2, hr⟩ := bnd_some hr
  refine awl_v (av_call (f15_runs e2) ent15 rfl rfl) ?_
  refine awl_v (av_move rfl) ?_
  refine awl_v (av_extract rfl rfl) ?_
  refine awl_v (av_extract rfl rfl) ?_
  refine awl_v (av_assign rfl) ?_
  refine awl_v (av_assign rfl) ?_
  refine awl_nil (athen_norm (awc_seq ?_))
  refine awc_region ?_
  refine awl_v (av_move rfl) ?_
  refine awl_v (av_eql rfl rfl) ?_
  refine awl_v (av_assign rfl) ?_
  have hr := Option.some.inj hr
  subst hr
  exact awl_nil (athen_norm (awc_ret (ret_q (l' := [(4, .bool (decide (x1.2 = 0)))]) (wk_of hX [] 4 rfl rfl ⟨⟨_, rfl, cv0⟩, trivial⟩ trivial) rfl ⟨rfl, trivial⟩)))
theorem f81_runs {p0 : Int} {p1 : List (Int × Int × Int × Int × Str)} {r : Bool} (hr : f81 p0 p1 = some r) : RunsP Try.prog 81 [.int .i64 p0, .rp [.sl Y1 p1]] [.bool r] := by
  refine runs_w Try.func81 Try.ntmps81 rfl (rs := [.tmp 3]) rfl rfl fun w0 X hX => ?_
  refine awc_seq ?_
  refine awc_region ?_
  refine awl_v (av_assign rfl) ?_
  refine awl_nil (athen_norm (awc_seq ?_))
  refine awc_text [0, 1] [(true, .int .i64 p0), (true, .bool (decide (p0 < 0))), (true, .bool (decide (p0 < 0))), (!(decide (p0 < 0)), .int .i64 p0), (!(decide (p0 < 0)), .sl Y1 p1), (!(decide (p0 < 0)), .int .i64 (List.length p1 : Int)), (!(decide (p0 < 0)), .bool (decide ((List.length p1 : Int) ≤ p0))), (true, .bool ((decide (p0 < 0)) || (decide ((List.length p1 : Int) ≤ p0)))), (true, .bool ((decide (p0 < 0)) || (decide ((List.length p1 : Int) ≤ p0))))] [[], [0], [1], [2], [2], [4, 2], [3, 5, 2], [6, 2], [7]] [8] rfl rfl rfl rfl rfl ⟨?_, ?_, ?_, ?_, ?_, ?_, ?_, ?_, ?_, trivial⟩ (allT_of ⟨rfl, trivial⟩) ?_
  · exact ob_v rfl (fun hg => allT_of trivial) (fun hg => av_move rfl)
  · exact ob_v rfl (fun hg => allT_of ⟨rfl, trivial⟩) (fun hg => av_lss rfl rfl)
  · exact ob_v rfl (fun hg => allT_of ⟨rfl, trivial⟩) (fun hg => av_move rfl)
  · exact ob_v ⟨rfl, rfl, rfl, _, rfl, rfl⟩ (fun hg => allT_of ⟨rfl, trivial⟩) (fun hg => av_move rfl)
  · exact ob_v ⟨rfl, rfl, rfl, _, rfl, rfl⟩ (fun hg => allT_of ⟨rfl, trivial⟩) (fun hg => av_load_rp ts30 rfl)
  · exact ob_v ⟨rfl, rfl, rfl, _, rfl, rfl⟩ (fun hg => allT_of ⟨hg, rfl, trivial⟩) (fun hg => av_len_sl (t := Y1) rfl rfl und30 rfl)
  · exact ob_v ⟨rfl, rfl, rfl, _, rfl, rfl⟩ (fun hg => allT_of ⟨hg, hg, rfl, trivial⟩) (fun hg => av_geq rfl rfl)
  · exact ob_pick (b := false) (p := decide (p0 < 0)) (q := decide ((List.length p1 : Int) ≤ p0)) rfl rfl rfl (fun hg => allT_of ⟨rfl, trivial⟩) rfl rfl rfl rfl rfl
  · exact ob_v rfl (fun hg => allT_of ⟨rfl, trivial⟩) (fun hg => av_assign rfl)
  have hr := Option.some.inj hr
  subst hr
  exact athen_norm (awc_ret (ret_q (l' := [(3, .bool ((decide (p0 < 0)) || (decide ((List.length p1 : Int) ≤ p0))))]) (wk_of hX [] 4 rfl rfl ⟨⟨_, rfl, cv0⟩, trivial⟩ trivial) rfl ⟨rfl, trivial⟩))
theorem f86_runs {p0 : List Int} {q1 : Int → Option Bool} {r : Int} {g1 : FuncId} {c1s : List AV} (h_q1 : ∀ (y1 : Int) (r : Bool), q1 y1 = some r → RunsP Try.prog g1 ([.int .i64 y1] ++ c1s) [.bool r]) (k_q1 : FnIn Try.prog g1 c1s) (hr : f86 p0 q1 = some r) : RunsP Try.prog 86 [.sl (.int .i64) p0, .clo (.fn g1 [] c1s)] [.int .i64 r] := by
  refine runs_w Try.func86 Try.ntmps86 rfl (rs := [.tmp 4]) rfl rfl fun w0 X hX => ?_
  refine awc_seq ?_
  refine awc_region ?_
  refine awl_v (av_assign rfl) ?_
  refine awl_nil (athen_norm (awc_seq (awc_seq ?_)))
  refine awc_region ?_
  refine awl_v (av_move rfl) ?_
  refine awl_v (av_len_sl (t := (.int .i64)) rfl rfl und22 rfl) ?_
  refine awl_v (av_move rfl) ?_
  refine awl_nil (athen_norm (awc_block ?_))
  obtain ⟨o4, e5, hr⟩ := bnd_some hr
  refine awc_len (t := 0) rfl (fun hl => ?_)
  refine awc_range (S := Unit) (R := Int) (List.length p0 : Int) (f86_b0 p0 q1) (fun p => match p with | (i1, ()) => (⟨[(0, .sl (.int .i64) p0), (1, .clo (.fn g1 [] c1s)), (4, .int .i64 0), (7, .int .i64 (List.length p0 : Int)), (8, .int .i64 i1)], [], 0⟩ : AS)) (fun o e st => match o with | .inl () => e = .exit 0 ∧ Wk X st ⟨[(4, .int .i64 0)], [], 0⟩ | .inr s3 => e = .ret ∧ Wk X st ⟨[(4, .int .i64 s3)], [], 0⟩) (len_ok hl) e5 (wk_of hX [] 4 rfl rfl ⟨⟨_, rfl, cv0⟩, ⟨_, rfl, cv0⟩, ⟨_, rfl, cv0⟩, ⟨_, rfl, cv0⟩, ⟨_, rfl, cv0⟩, trivial⟩ trivial) ?_ ?_
  · intro e st hx
    rcases o4 with _ | s3
    · obtain ⟨rfl, hw⟩ := hx
      refine ablock_here (athen_norm ((awc_wk hw) (awc_seq ?_)))
      refine awc_region ?_
      refine awl_v (av_assign rfl) ?_
      have hr := Option.some.inj hr
      subst hr
      exact awl_nil (athen_norm (awc_ret (ret_q (l' := [(4, .int .i64 (-1))]) (wk_of hX [] 4 rfl rfl ⟨⟨_, rfl, cv0⟩, trivial⟩ trivial) rfl ⟨rfl, trivial⟩)))
    · obtain ⟨rfl, hw⟩ := hx
      have hr := Option.some.inj hr
      subst hr
      exact ablock_ret (athen_ret (ret_q (l' := [(4, .int .i64 s3)]) (Wk.trans hw (wk_of hX [] 4 rfl rfl ⟨⟨_, rfl, cv0⟩, trivial⟩ trivial)) rfl ⟨rfl, trivial⟩))
  · rintro i1 _ o ho
    refine awc_seq ?_
    refine awc_region ?_
    refine awl_v (av_lss rfl rfl) ?_
    refine awl_nil (athen_norm (awc_seq ?_))
    refine awc_cond (b := decide (i1 < (List.length p0 : Int))) rfl (fun hc6 => ?_) (fun hc6 => ?_)
    · obtain ⟨q, hr, rfl⟩ := rb_t hc6 ho
      refine awc_skip (athen_norm (awc_seq (awc_block (awc_seq ?_))))
      refine awc_region ?_
      refine awl_v (av_move rfl) ?_
      refine awl_v (av_assign rfl) ?_
      refine awl_nil (athen_norm (awc_seq ?_))
      refine awc_region ?_
      refine awl_v (av_move rfl) ?_
      refine awl_v (av_move rfl) ?_
      refine awl_v (av_move rfl) ?_
      obtain ⟨x7, e8, hr⟩ := bnd_some hr
      refine awl_v (av_ia_sl (t := (.int .i64)) (e := x7) und22 sz3 rfl rfl e8) ?_
      refine awl_v (av_load_rp ts3 rfl) ?_
      obtain ⟨x9, e10, hr⟩ := bnd_some hr
      refine awl_v (av_callq rfl (h_q1 x7 x9 e10) k_q1 rfl rfl rfl) ?_
      refine awl_nil (athen_norm ?_)
      refine awc_cond (b := x9) rfl (fun hc11 => ?_) (fun hc11 => ?_)
      · have hr := if_t hc11 hr
        refine awc_seq ?_
        refine awc_region ?_
        refine awl_v (av_move rfl) ?_
        refine awl_v (av_assign rfl) ?_
        have hr := Option.some.inj hr
        subst hr
        exact awl_nil (athen_norm (awc_ret (ablock_ret (athen_ret (⟨rfl, (wk_of hX [] 4 rfl rfl ⟨⟨_, rfl, cv0⟩, trivial⟩ trivial)⟩)))))
      · have hr := if_f hc11 hr
        refine awc_skip (ablock_norm (athen_norm ?_))
        refine awc_region ?_
        refine awl_v (av_add rfl rfl) ?_
        refine awl_v (av_move rfl) ?_
        have hr := Option.some.inj hr
        subst hr
        exact awl_nil ((wk_of hX [] 4 rfl rfl ⟨⟨_, rfl, cv0⟩, ⟨_, rfl, cv0⟩, ⟨_, rfl, cv0⟩, ⟨_, rfl, cv0⟩, ⟨_, rfl, cv0⟩, trivial⟩ trivial))
    · obtain rfl := rb_f hc6 ho
      exact awc_exit (athen_exit (⟨rfl, (wk_of hX [] 4 rfl rfl ⟨⟨_, rfl, cv0⟩, trivial⟩ trivial)⟩))
theorem f75_runs {p0 : List Int} {q1 : Int → Option Bool} {r : Bool} {g1 : FuncId} {c1s : List AV} (h_q1 : ∀ (y1 : Int) (r : Bool), q1 y1 = some r → RunsP Try.prog g1 ([.int .i64 y1] ++ c1s) [.bool r]) (k_q1 : FnIn Try.prog g1 c1s) (hr : f75 p0 q1 = some r) : RunsP Try.prog 75 [.sl (.int .i64) p0, .clo (.fn g1 [] c1s)] [.bool r] := by
  refine runs_w Try.func75 Try.ntmps75 rfl (rs := [.tmp 4]) rfl rfl fun w0 X hX => ?_
  refine awc_seq ?_
  refine awc_region ?_
  refine awl_v (av_assign rfl) ?_
  refine awl_nil (athen_norm (awc_seq ?_))
  refine awc_region ?_
  refine awl_v (av_move rfl) ?_
  refine awl_v (av_move rfl) ?_
  obtain ⟨x1, e2, hr⟩ := bnd_some hr
  refine awl_v (av_call (f86_runs (g1 := g1) (c1s := c1s) h_q1 k_q1 e2) ent86 rfl rfl) ?_
  refine awl_v (av_geq rfl rfl) ?_
  refine awl_v (av_assign rfl) ?_
  have hr := Option.some.inj hr
  subst hr
  exact awl_nil (athen_norm (awc_ret (ret_q (l' := [(4, .bool (decide (0 ≤ x1)))]) (wk_of hX [] 4 rfl rfl ⟨⟨_, rfl, cv0⟩, trivial⟩ trivial) rfl ⟨rfl, trivial⟩)))
theorem f57_runs {p0 : Int} {p1 : List (Int × Int × Int × Int × Str)} {p2 : List Int} {r : Int} (hr : f57 p0 p1 p2 = some r) : RunsP Try.prog 57 [.int .i64 p0, .sl Y1 p1, .sl (.int .i64) p2] [.int .i64 r] := by
  refine runs_w Try.func57 Try.ntmps57 rfl (rs := [.tmp 6]) rfl rfl fun w0 X hX => ?_
  refine awc_seq ?_
  refine awc_region ?_
  refine awl_op (aop_box rfl rfl ?_)
  refine awl_v (av_assign rfl) ?_
  refine awl_nil (athen_norm (awc_seq (awc_seq ?_)))
  refine awc_region ?_
  refine awl_v (av_move rfl) ?_
  refine awl_v (av_load_ptr ts30 rfl rfl rfl) ?_
  obtain ⟨x1, e2, hr⟩ := bnd_some hr
  refine awl_v (av_call (f17_runs e2) ent17 rfl rfl) ?_
  refine awl_v (av_not rfl) ?_
  refine awl_nil (athen_norm ?_)
  refine awc_cond (b := !x1) rfl (fun hc3 => ?_) (fun hc3 => ?_)
  · have hr := if_t hc3 hr
    refine awc_seq ?_
    refine awc_region ?_
    refine awl_v (av_assign rfl) ?_
    have hr := Option.some.inj hr
    subst hr
    exact awl_nil (athen_norm (awc_ret (athen_ret (ret_q (l' := [(6, .int .i64 1)]) (wk_of hX [] 4 rfl rfl ⟨⟨_, rfl, cv0⟩, trivial⟩ trivial) rfl ⟨rfl, trivial⟩))))
  · have hr := if_f hc3 hr
    refine awc_skip (athen_norm (awc_seq (awc_seq ?_)))
    refine awc_region ?_
    refine awl_v (av_move rfl) ?_
    refine awl_v (av_makeFunc (us := []) (vs := [.ptr 0 0]) rfl rfl) ?_
    obtain ⟨x4, e5, hr⟩ := bnd_some hr
    refine awl_v (av_callB (as' := [.sl (.int .i64) p2, .fn 81 [] [.ptr 0 0]]) (f75_runs (g1 := 81) (c1s := [.rp [.sl Y1 p1]]) (fun _ r h => f81_runs h) ⟨ent81⟩ e5) ent75 rfl ⟨cv0, (cv3 rfl), trivial⟩ rfl rfl) ?_
    refine awl_nil (athen_norm ?_)
    refine awc_cond (b := x4) rfl (fun hc6 => ?_) (fun hc6 => ?_)
    · have hr := if_t hc6 hr
      refine awc_seq ?_
      refine awc_region ?_
      refine awl_v (av_assign rfl) ?_
      have hr := Option.some.inj hr
      subst hr
      exact awl_nil (athen_norm (awc_ret (athen_ret (ret_q (l' := [(6, .int .i64 7)]) (wk_of hX [] 4 rfl rfl ⟨⟨_, rfl, cv0⟩, trivial⟩ trivial) rfl ⟨rfl, trivial⟩))))
    · have hr := if_f hc6 hr
      refine awc_skip (athen_norm (awc_seq ?_))
      refine awc_region ?_
      refine awl_v (av_assign rfl) ?_
      have hr := Option.some.inj hr
      subst hr
      exact awl_nil (athen_norm (awc_ret (ret_q (l' := [(6, .int .i64 0)]) (wk_of hX [] 4 rfl rfl ⟨⟨_, rfl, cv0⟩, trivial⟩ trivial) rfl ⟨rfl, trivial⟩)))
theorem f82_iter {σ : Type} {r : σ} {L : Nat} {rec : Obj} {G : σ → Mem → Frag → Prop} {q : σ → (Int × List Int) → Option σ} {s0 : σ} {p1 : Int} {p2 : List (Int × Int × Int × Int × Str)} (hr : f82 q s0 p1 p2 = some r) (hrec : ctl rec = true) (hY : ∀ (s : σ) (x : Int × List Int) (s' : σ), q s x = some s' → YieldsA Try.prog L rec [.int .i64 x.1, .sl (.int .i64) x.2] (G s) (G s')) : RunsL (fun w => w.heap[L]? = some rec) Try.prog 82 [.yld L, .rp [.int .i64 p1], .rp [.sl Y1 p2]] [.guest (G s0)] (fun rs H' => rs = [] ∧ H' = [.guest (G r)]) := by
  refine runs_wL Try.func82 Try.ntmps82 rfl (rs := []) rfl rfl fun w0 X hw hX => ?_
  refine awc_seq ?_
  refine awc_region ?_
  refine awl_v (av_load_rp ts3 rfl) ?_
  obtain ⟨h2, hr⟩ := chk_some hr
  refine awl_op (aop_make (t := (.int .i64)) und22 zt3 rfl rfl h2 rfl ?_)
  refine awl_v (av_assign rfl) ?_
  refine awl_nil (athen_norm (awc_seq ?_))
  refine awc_region ?_
  refine awl_op (aop_makeMap (.int .i64) (.int .i64) rfl ?_)
  refine awl_v (av_assign rfl) ?_
  refine awl_nil (athen_norm (awc_seq ?_))
  refine awc_region ?_
  refine awl_v (av_load_rp ts30 rfl) ?_
  refine awl_v (av_len_sl (t := Y1) rfl rfl und30 rfl) ?_
  refine awl_v (av_move rfl) ?_
  refine awl_nil (athen_norm (awc_block ?_))
  obtain ⟨o13, e14, hr⟩ := bnd_some hr
  refine awc_len (t := 12) rfl (fun hl => ?_)
  refine awc_range (S := σ × List Int × (List (Int × Int))) (R := σ) (List.length p2 : Int) (f82_b0 q p2) (fun p => match p with | (i3, s5, s6, s7) => (⟨[(0, .yld L), (4, .osl 1), (5, .map 2), (12, .sl Y1 p2), (13, .int .i64 (List.length p2 : Int)), (14, .int .i64 i3)], [(0, .guest (G s5)), (1, .sl 3 (.int .i64) s6), (2, .map (.int .i64) (.int .i64) s7)], 3⟩ : AS)) (fun o e st => match o with | .inl (s5, s6, s7) => e = .exit 0 ∧ Wk X st ⟨[], [(0, .guest (G s5))], 1⟩ | .inr s12 => e = .ret ∧ Wk X st ⟨[], [(0, .guest (G s12))], 1⟩) (len_ok hl) e14 (wk_of hX [0, 1, 2] 4 rfl rfl ⟨⟨_, rfl, cv0⟩, ⟨_, rfl, cv0⟩, ⟨_, rfl, cv0⟩, ⟨_, rfl, cv0⟩, ⟨_, rfl, cv0⟩, ⟨_, rfl, cv0⟩, trivial⟩ ⟨cvo0, cvo0, cvo0, trivial⟩) ?_ ?_
  · intro e st hx
    rcases o13 with ⟨s5, s6, s7⟩ | s12
    · obtain ⟨rfl, hw⟩ := hx
      have hr := Option.some.inj hr
      subst hr
      exact ablock_here (retW_norm (ret_o (l' := []) (Hs := [(0, .guest (G s5))]) (n := 1) (Wk.trans hw (wk_of hX [0] 4 rfl rfl trivial ⟨cvo0, trivial⟩)) rfl rfl rfl trivial))
    · obtain ⟨rfl, hw⟩ := hx
      have hr := Option.some.inj hr
      subst hr
      exact ablock_ret (ret_o (l' := []) (Hs := [(0, .guest (G s12))]) (n := 1) (Wk.trans hw (wk_of hX [0] 4 rfl rfl trivial ⟨cvo0, trivial⟩)) rfl rfl rfl trivial)
  · rintro i3 ⟨s5, s6, s7⟩ o ho
    refine awc_seq ?_
    refine awc_region ?_
    refine awl_v (av_lss rfl rfl) ?_
    refine awl_nil (athen_norm (awc_seq ?_))
    refine awc_cond (b := decide (i3 < (List.length p2 : Int))) rfl (fun hc15 => ?_) (fun hc15 => ?_)
    · obtain ⟨q, hr, rfl⟩ := rb_t hc15 ho
      refine awc_skip (athen_norm (awc_seq (awc_block (awc_seq ?_))))
      refine awc_region ?_
      refine awl_v (av_move rfl) ?_
      obtain ⟨x16, e17, hr⟩ := bnd_some hr
      refine awl_v (av_ia_sl (t := Y1) (e := x16) und30 sz50 rfl rfl e17) ?_
      refine awl_v (av_load_rpN ts50 rfl rfl rfl) ?_
      refine awl_op (aop_alloc zero50 rfl ?_)
      refine awl_v (av_assign rfl) ?_
      refine awl_op (aop_store sz50 rfl rfl rfl rfl rfl rfl rfl ?_)
      refine awl_nil (athen_norm (awc_seq ?_))
      refine awc_region ?_
      refine awl_v (av_assign rfl) ?_
      refine awl_nil (athen_norm ?_)
      obtain ⟨o19, e20, hr⟩ := bnd_some hr
      refine awc_join (S := List Int) (R := Unit) (fun s => match s with | s18 => (⟨[(0, .yld L), (4, .osl 1), (5, .map 2), (6, .int .i64 i3), (7, .ptr 3 0), (8, .osl 4), (12, .sl Y1 p2), (13, .int .i64 (List.length p2 : Int)), (14, .int .i64 i3)], [(0, .guest (G s5)), (1, .sl 3 (.int .i64) s6), (2, .map (.int .i64) (.int .i64) s7), (3, .var 50 [.int .i64 x16.1, .int .i64 x16.2.1, .int .i64 x16.2.2.1, .int .i64 x16.2.2.2.1, .str x16.2.2.2.2]), (4, .sl 3 (.int .i64) s18)], 5⟩ : AS)) (fun _ _ _ => False) e20 (fun hr => ?_) ?_ ?_
      · refine awc_seq ?_
        refine awc_region ?_
        refine awl_v (av_move rfl) ?_
        refine awl_v (av_fa_ptr fa50_0 rfl rfl) ?_
        refine awl_v (av_load_ptr ts3 rfl rfl rfl) ?_
        obtain ⟨x21, e22, hr⟩ := bnd_some hr
        refine awl_v (av_ia_osl (t := (.int .i64)) und22 sz3 rfl rfl rfl e22) ?_
        refine awl_v (av_load_ep ts3 rfl rfl rfl (ix_at e22) rfl) ?_
        refine awl_v (av_gtr rfl rfl) ?_
        refine awl_nil (athen_norm ?_)
        refine awc_cond (b := decide (0 < x21)) rfl (fun hc23 => ?_) (fun hc23 => ?_)
        · have hr := if_t hc23 hr
          refine awc_region ?_
          refine awl_v (av_move rfl) ?_
          refine awl_v (av_move rfl) ?_
          refine awl_v (av_fa_ptr fa50_0 rfl rfl) ?_
          refine awl_v (av_load_ptr ts3 rfl rfl rfl) ?_
          refine awl_v (av_ia_osl (t := (.int .i64)) und22 sz3 rfl rfl rfl e22) ?_
          refine awl_v (av_load_ep ts3 rfl rfl rfl (ix_at e22) rfl) ?_
          refine awl_v (av_sub rfl rfl) ?_
          refine awl_v (av_buildSlice (t := (.int .i64)) (qs := [(0, [.int .i64 (w64 (x21 - 1))])]) (ys := [(w64 (x21 - 1))]) bs22 rfl rfl rfl rfl rfl rfl rfl rfl) ?_
          obtain ⟨h24, hr⟩ := chk_some hr
          refine awl_op (aop_append_nil rfl rfl app22 rfl rfl h24 rfl ?_)
          refine awl_v (av_assign rfl) ?_
          have hr := Option.some.inj hr
          subst hr
          exact awl_nil ((wk_of hX [0, 1, 2, 3, 4] 4 rfl rfl ⟨⟨_, rfl, cv0⟩, ⟨_, rfl, cv0⟩, ⟨_, rfl, cv0⟩, ⟨_, rfl, cv0⟩, ⟨_, rfl, cv0⟩, ⟨_, rfl, cv0⟩, ⟨_, rfl, cv0⟩, ⟨_, rfl, cv0⟩, ⟨_, rfl, cv0⟩, trivial⟩ ⟨cvo0, cvo0, cvo0, cvo0, cvo0, trivial⟩))
        · have hr := if_f hc23 hr
          have hr := Option.some.inj hr
          subst hr
          exact awc_skip ((Wk.trans (wk_own (t := 8) 3 (.int .i64) rfl) (wk_of hX [0, 1, 2, 3, 4] 4 rfl rfl ⟨⟨_, rfl, cv0⟩, ⟨_, rfl, cv0⟩, ⟨_, rfl, cv0⟩, ⟨_, rfl, cv0⟩, ⟨_, rfl, cv0⟩, ⟨_, rfl, cv0⟩, ⟨_, rfl, cv0⟩, ⟨_, rfl, cv0⟩, ⟨_, rfl, cv0⟩, trivial⟩ ⟨cvo0, cvo0, cvo0, cvo0, cvo0, trivial⟩)))
      · rintro s18 rfl
        obtain ⟨o26, e27, hr⟩ := bnd_some hr
        refine awc_join (S := List Int) (R := Unit) (fun s => match s with | s25 => (⟨[(0, .yld L), (4, .osl 1), (5, .map 2), (6, .int .i64 i3), (7, .ptr 3 0), (8, .osl 4), (12, .sl Y1 p2), (13, .int .i64 (List.length p2 : Int)), (14, .int .i64 i3)], [(0, .guest (G s5)), (1, .sl 3 (.int .i64) s6), (2, .map (.int .i64) (.int .i64) s7), (3, .var 50 [.int .i64 x16.1, .int .i64 x16.2.1, .int .i64 x16.2.2.1, .int .i64 x16.2.2.2.1, .str x16.2.2.2.2]), (4, .sl 3 (.int .i64) s25)], 5⟩ : AS)) (fun _ _ _ => False) e27 (fun hr => ?_) ?_ ?_
        · refine awc_seq ?_
          refine awc_region ?_
          refine awl_v (av_fa_ptr fa50_1 rfl rfl) ?_
          refine awl_v (av_load_ptr ts3 rfl rfl rfl) ?_
          refine awl_v (av_eql rfl rfl) ?_
          refine awl_nil (athen_norm ?_)
          refine awc_cond (b := decide (x16.2.1 = 3)) rfl (fun hc28 => ?_) (fun hc28 => ?_)
          · have hr := if_t hc28 hr
            refine awc_region ?_
            refine awl_v (av_move rfl) ?_
            refine awl_v (av_move rfl) ?_
            refine awl_v (av_fa_ptr fa50_2 rfl rfl) ?_
            refine awl_v (av_load_ptr ts3 rfl rfl rfl) ?_
            refine awl_v (av_lookup (kx := x16.2.2.1) (r := .int .i64 ((mget s7 x16.2.2.1).getD 0)) und62 kt3 zw3 rfl rfl rfl rfl rfl) ?_
            refine awl_v (av_buildSlice (t := (.int .i64)) (qs := [(0, [.int .i64 ((mget s7 x16.2.2.1).getD 0)])]) (ys := [((mget s7 x16.2.2.1).getD 0)]) bs22 rfl rfl rfl rfl rfl rfl rfl rfl) ?_
            obtain ⟨h29, hr⟩ := chk_some hr
            refine awl_op (aop_append rfl rfl app22 rfl rfl rfl h29 rfl ?_)
            refine awl_v (av_assign rfl) ?_
            have hr := Option.some.inj hr
            subst hr
            exact awl_nil ((wk_of hX [0, 1, 2, 3, 5] 4 rfl rfl ⟨⟨_, rfl, cv0⟩, ⟨_, rfl, cv0⟩, ⟨_, rfl, cv0⟩, ⟨_, rfl, cv0⟩, ⟨_, rfl, cv0⟩, ⟨_, rfl, cv0⟩, ⟨_, rfl, cv0⟩, ⟨_, rfl, cv0⟩, ⟨_, rfl, cv0⟩, trivial⟩ ⟨cvo0, cvo0, cvo0, cvo0, cvo0, trivial⟩))
          · have hr := if_f hc28 hr
            have hr := Option.some.inj hr
            subst hr
            exact awc_skip ((wk_of hX [0, 1, 2, 3, 4] 4 rfl rfl ⟨⟨_, rfl, cv0⟩, ⟨_, rfl, cv0⟩, ⟨_, rfl, cv0⟩, ⟨_, rfl, cv0⟩, ⟨_, rfl, cv0⟩, ⟨_, rfl, cv0⟩, ⟨_, rfl, cv0⟩, ⟨_, rfl, cv0⟩, ⟨_, rfl, cv0⟩, trivial⟩ ⟨cvo0, cvo0, cvo0, cvo0, cvo0, trivial⟩))
        · rintro s25 rfl
          obtain ⟨o31, e32, hr⟩ := bnd_some hr
          refine awc_join (S := (List (Int × Int))) (R := Unit) (fun s => match s with | s30 => (⟨[(0, .yld L), (4, .osl 1), (5, .map 2), (6, .int .i64 i3), (7, .ptr 3 0), (8, .osl 4), (12, .sl Y1 p2), (13, .int .i64 (List.length p2 : Int)), (14, .int .i64 i3)], [(0, .guest (G s5)), (1, .sl 3 (.int .i64) s6), (2, .map (.int .i64) (.int .i64) s30), (3, .var 50 [.int .i64 x16.1, .int .i64 x16.2.1, .int .i64 x16.2.2.1, .int .i64 x16.2.2.2.1, .str x16.2.2.2.2]), (4, .sl 3 (.int .i64) s25)], 5⟩ : AS)) (fun _ _ _ => False) e32 (fun hr => ?_) ?_ ?_
          · refine awc_seq ?_
            refine awc_region ?_
            refine awl_v (av_fa_ptr fa50_1 rfl rfl) ?_
            refine awl_v (av_load_ptr ts3 rfl rfl rfl) ?_
            refine awl_v (av_eql rfl rfl) ?_
            refine awl_nil (athen_norm ?_)
            refine awc_cond (b := decide (x16.2.1 = 2)) rfl (fun hc33 => ?_) (fun hc33 => ?_)
            · have hr := if_t hc33 hr
              refine awc_region ?_
              refine awl_v (av_move rfl) ?_
              refine awl_v (av_fa_ptr fa50_2 rfl rfl) ?_
              refine awl_v (av_load_ptr ts3 rfl rfl rfl) ?_
              refine awl_v (av_move rfl) ?_
              refine awl_op (aop_mapSet (kx := x16.2.2.1) (vx := i3) und62 kt3 (.inl rfl) rfl rfl rfl rfl rfl rfl rfl ?_)
              have hr := Option.some.inj hr
              subst hr
              exact awl_nil ((wk_of hX [0, 1, 2, 3, 4] 4 rfl rfl ⟨⟨_, rfl, cv0⟩, ⟨_, rfl, cv0⟩, ⟨_, rfl, cv0⟩, ⟨_, rfl, cv0⟩, ⟨_, rfl, cv0⟩, ⟨_, rfl, cv0⟩, ⟨_, rfl, cv0⟩, ⟨_, rfl, cv0⟩, ⟨_, rfl, cv0⟩, trivial⟩ ⟨cvo0, cvo0, cvo0, cvo0, cvo0, trivial⟩))
            · have hr := if_f hc33 hr
              have hr := Option.some.inj hr
              subst hr
              exact awc_skip ((wk_of hX [0, 1, 2, 3, 4] 4 rfl rfl ⟨⟨_, rfl, cv0⟩, ⟨_, rfl, cv0⟩, ⟨_, rfl, cv0⟩, ⟨_, rfl, cv0⟩, ⟨_, rfl, cv0⟩, ⟨_, rfl, cv0⟩, ⟨_, rfl, cv0⟩, ⟨_, rfl, cv0⟩, ⟨_, rfl, cv0⟩, trivial⟩ ⟨cvo0, cvo0, cvo0, cvo0, cvo0, trivial⟩))
          · rintro s30 rfl
            refine awc_seq ?_
            refine awc_region ?_
            refine awl_v (av_move rfl) ?_
            refine awl_v (av_fa_ptr fa50_0 rfl rfl) ?_
            refine awl_v (av_load_ptr ts3 rfl rfl rfl) ?_
            refine awl_v (av_move rfl) ?_
            refine awl_v (av_add rfl rfl) ?_
            obtain ⟨x34, e35, hr⟩ := bnd_some hr
            refine awl_v (av_ia_osl (t := (.int .i64)) und22 sz3 rfl rfl rfl e35) ?_
            refine awl_op (aop_store_ep (e' := (w64 (i3 + 1))) sz3 rfl rfl rfl rfl (ix_at e35) rfl rfl rfl rfl rfl ?_)
            refine awl_nil (athen_norm (awc_seq ?_))
            refine awc_region ?_
            refine awl_v (av_move rfl) ?_
            obtain ⟨x36, e37, hr⟩ := bnd_some hr
            refine awl_op (aop_callO (σ := [4]) (as' := [.osl 4]) (f73_runs e37) ent73 rfl ⟨cv0, trivial⟩ rfl rfl rfl ?_)
            refine awl_nil (athen_norm (awc_seq ?_))
            refine awc_region ?_
            refine awl_v (av_move rfl) ?_
            refine awl_v (av_move rfl) ?_
            refine awl_v (av_move rfl) ?_
            obtain ⟨x38, e39, hr⟩ := bnd_some hr
            refine awl_op (aop_callO (σ := [4]) (as' := [.osl 4]) (f83_runs e39) ent83 rfl ⟨cv0, trivial⟩ rfl rfl rfl ?_)
            refine awl_wk (wk_frz [62] 5 rfl rfl rfl) ?_
            obtain ⟨x40, e41, hr⟩ := bnd_some hr
            refine awl_op (aop_yield (i := 0) (as' := [.int .i64 i3, .sl (.int .i64) x38]) rfl rfl rfl hw hrec rfl rfl rfl (hY _ (i3, x38) _ e41) ?_)
            refine awl_v (av_not rfl) ?_
            refine awl_nil (athen_norm ?_)
            refine awc_cond (b := !true) rfl (fun hc42 => ?_) (fun hc42 => ?_)
            · have hr := if_t hc42 hr
              have hr := Option.some.inj hr
              subst hr
              exact awc_ret (ablock_ret (athen_ret (⟨rfl, (wk_of hX [0] 4 rfl rfl trivial ⟨cvo0, trivial⟩)⟩)))
            · have hr := if_f hc42 hr
              refine awc_skip (ablock_norm (athen_norm ?_))
              refine awc_region ?_
              refine awl_v (av_add rfl rfl) ?_
              refine awl_v (av_move rfl) ?_
              have hr := Option.some.inj hr
              subst hr
              exact awl_nil ((wk_of hX [0, 1, 2] 4 rfl rfl ⟨⟨_, rfl, cv0⟩, ⟨_, rfl, cv0⟩, ⟨_, rfl, cv0⟩, ⟨_, rfl, cv0⟩, ⟨_, rfl, cv0⟩, ⟨_, rfl, cv0⟩, trivial⟩ ⟨cvo0, cvo0, cvo0, trivial⟩))
          · exact fun r h e st hne hx => hx.elim
        · exact fun r h e st hne hx => hx.elim
      · exact fun r h e st hne hx => hx.elim
    · obtain rfl := rb_f hc15 ho
      exact awc_exit (athen_exit (⟨rfl, (wk_of hX [0] 4 rfl rfl trivial ⟨cvo0, trivial⟩)⟩))
theorem f62_runs {p0 : Int} {p1 : List (Int × Int × Int × Int × Str)} {r : Unit} (hr : f62 p0 p1 = some r) : RunsP Try.prog 62 [.int .i64 p0, .sl Y1 p1] [.fn 82 [] [.rp [.int .i64 p0], .rp [.sl Y1 p1]]] := by
  refine runs_w Try.func62 Try.ntmps62 rfl (rs := [.tmp 4]) rfl rfl fun w0 X hX => ?_
  refine awc_seq ?_
  refine awc_region ?_
  refine awl_op (aop_box rfl rfl ?_)
  refine awl_op (aop_box rfl rfl ?_)
  refine awl_v (av_assign rfl) ?_
  refine awl_nil (athen_norm (awc_seq ?_))
  refine awc_region ?_
  refine awl_v (av_makeFunc (us := []) (vs := [.ptr 0 0, .ptr 1 0]) rfl rfl) ?_
  refine awl_v (av_assign rfl) ?_
  have hr := Option.some.inj hr
  subst hr
  exact awl_nil (athen_norm (awc_ret (ret_q (l' := [(4, .fn 82 [] [.rp [.int .i64 p0], .rp [.sl Y1 p1]])]) (wk_of hX [] 4 rfl rfl ⟨⟨_, rfl, cv0⟩, trivial⟩ trivial) rfl ⟨rfl, trivial⟩)))
theorem f68_runs {p0 : List Int} {r : List Int} (hr : f68 p0 = some r) : Runs Try.prog 68 [.sl (.int .i64) p0] [] (fun q Hq => q = [.osl 0] ∧ Hq = [.sl 3 (.int .i64) r]) := by
  refine runs_w Try.func68 Try.ntmps68 rfl (rs := [.tmp 2]) rfl rfl fun w0 X hX => ?_
  refine awc_seq ?_
  refine awc_region ?_
  refine awl_v (av_assign rfl) ?_
  refine awl_nil (athen_norm (awc_seq (awc_seq ?_)))
  refine awc_region ?_
  refine awl_v (av_move rfl) ?_
  refine awl_op (aop_eqnil und22 rfl rfl (fun b2 hb3 => ?_))
  refine awl_nil (athen_norm ?_)
  refine awc_cond (b := b2) rfl (fun hc4 => ?_) (fun hc4 => ?_)
  · obtain rfl := hb3 hc4
    refine awc_seq ?_
    refine awc_region ?_
    refine awl_v (av_assign rfl) ?_
    have hr : some ([] : List Int) = some _ := hr
    have hr := Option.some.inj hr
    subst hr
    exact awl_nil (athen_norm (awc_ret (athen_ret (ret_o (l' := [(2, .osl 0)]) (Hs := [(0, .sl 3 (.int .i64) ([] : List Int))]) (n := 1) (Wk.trans (wk_own (t := 2) 3 (.int .i64) rfl) (wk_of hX [0] 4 rfl rfl ⟨⟨_, rfl, cv0⟩, trivial⟩ ⟨cvo0, trivial⟩)) rfl rfl rfl ⟨rfl, trivial⟩))))
  · refine awc_skip (athen_norm (awc_seq ?_))
    refine awc_region ?_
    refine awl_op (aop_buildSlice (t := (.int .i64)) (qs := []) (ys := ([] : List Int)) bs22 rfl rfl rfl rfl rfl rfl rfl rfl ?_)
    refine awl_v (av_move rfl) ?_
    obtain ⟨h5, hr⟩ := chk_some hr
    refine awl_op (aop_append rfl rfl app22 rfl rfl rfl h5 rfl ?_)
    refine awl_v (av_assign rfl) ?_
    have hr := Option.some.inj hr
    subst hr
    exact awl_nil (athen_norm (awc_ret (ret_o (l' := [(2, .osl 0)]) (Hs := [(0, .sl 3 (.int .i64) (([] : List Int) ++ p0))]) (n := 1) (wk_of hX [1] 4 rfl rfl ⟨⟨_, rfl, cv0⟩, trivial⟩ ⟨cvo0, trivial⟩) rfl rfl rfl ⟨rfl, trivial⟩)))
end Go.Ab

set_option linter.unusedVariables false
set_option maxRecDepth 100000
namespace Go.Ab
open Go.RowKit Go.Shelf Go.Proofs Go.Eng
theorem ent68 : Enters Try.prog 68 := enters_of Try.func68 (by kernel_rfl) rfl
theorem zero34 : Eng.Zero Try.prog 34 (.slice none 0 0) := fun w => by kernel_rfl
theorem ent62 : Enters Try.prog 62 := enters_of Try.func62 (by kernel_rfl) rfl
theorem ts34 : TyS Try.prog 34 false 1 := ⟨fun w => by kernel_rfl, fun w => by kernel_rfl⟩
theorem ts22 : TyS Try.prog 22 false 1 := ⟨fun w => by kernel_rfl, fun w => by kernel_rfl⟩
theorem ent48 : Enters Try.prog 48 := enters_of Try.func48 (by kernel_rfl) rfl
theorem bs34 : BuildS Try.prog 34 22 (.slice (.int .i64)) := buildS_of (z := .slice none 0 0) (by kernel_rfl) (by kernel_rfl) rfl
theorem app34 : AppT Try.prog 34 22 (Ty.cells (.slice (.int .i64))) 24 := appT_of (z := .slice none 0 0) (by kernel_rfl) (by kernel_rfl) rfl rfl
theorem sz34 : Sz Try.prog 34 1 := fun w => by kernel_rfl
theorem und34 : Und Try.prog 34 (.slice 22) := by unfold Und; kernel_rfl
theorem sz22 : Sz Try.prog 22 1 := fun w => by kernel_rfl
theorem ent82 : Enters Try.prog 82 := enters_of Try.func82 (by kernel_rfl) rfl
theorem ent57 : Enters Try.prog 57 := enters_of Try.func57 (by kernel_rfl) rfl
theorem ent52 : Enters Try.prog 52 := enters_of Try.func52 (by kernel_rfl) rfl
theorem ent58 : Enters Try.prog 58 := enters_of Try.func58 (by kernel_rfl) rfl
theorem ent84 : Enters Try.prog 84 := enters_of Try.func84 (by kernel_rfl) rfl
theorem ent85 : Enters Try.prog 85 := enters_of Try.func85 (by kernel_rfl) rfl
theorem ent69 : Enters Try.prog 69 := enters_of Try.func69 (by kernel_rfl) rfl
theorem ent70 : Enters Try.prog 70 := enters_of Try.func70 (by kernel_rfl) rfl
theorem ent63 : Enters Try.prog 63 := enters_of Try.func63 (by kernel_rfl) rfl
theorem ent64 : Enters Try.prog 64 := enters_of Try.func64 (by kernel_rfl) rfl
theorem f48_runs {p0 : List Int} {p1 : List Int} {r : List Int} (hr : f48 p0 p1 = some r) : Runs Try.prog 48 [.sl (.int .i64) p0, .sl (.int .i64) p1] [] (fun q Hq => q = [.osl 0] ∧ Hq = [.sl 3 (.int .i64) r]) := by
  refine runs_w Try.func48 Try.ntmps48 rfl (rs := [.tmp 4]) rfl rfl fun w0 X hX => ?_
  refine awc_seq ?_
  refine awc_region ?_
  refine awl_v (av_assign rfl) ?_
  refine awl_nil (athen_norm (awc_seq ?_))
  refine awc_region ?_
  refine awl_v (av_move rfl) ?_
  obtain ⟨x2, e3, hr⟩ := bnd_some hr
  refine awl_op (aop_callO (σ := []) (as' := [.sl (.int .i64) p0]) (f68_runs e3) ent68 rfl ⟨cv0, trivial⟩ rfl rfl rfl ?_)
  refine awl_v (av_assign rfl) ?_
  refine awl_nil (athen_norm (awc_seq (awc_seq ?_)))
  refine awc_region ?_
  refine awl_v (av_move rfl) ?_
  refine awl_v (av_len_osl (t := (.int .i64)) rfl rfl und22 rfl rfl) ?_
  refine awl_v (av_move rfl) ?_
  refine awl_nil (athen_norm (awc_block ?_))
  obtain ⟨o9, e10, hr⟩ := bnd_some hr
  refine awc_lenO (i := 0) rfl rfl (fun hl => ?_)
  refine awc_range (S := List Int) (R := Unit) (List.length x2 : Int) (f48_b0 p1) (fun p => match p with | (i4, s6) => (⟨[(1, .sl (.int .i64) p1), (4, .nils), (5, .osl 0), (10, .int .i64 (List.length x2 : Int)), (11, .int .i64 i4)], [(0, .sl 3 (.int .i64) s6)], 1⟩ : AS)) (fun o e st => match o with | .inr _ => False | .inl s6 => e = .exit 0 ∧ Wk X st ⟨[(4, .nils), (5, .osl 0)], [(0, .sl 3 (.int .i64) s6)], 1⟩) (len_ok hl) e10 (wk_of hX [0] 4 rfl rfl ⟨⟨_, rfl, cv0⟩, ⟨_, rfl, cv0⟩, ⟨_, rfl, cv0⟩, ⟨_, rfl, cv0⟩, ⟨_, rfl, cv0⟩, trivial⟩ ⟨cvo0, trivial⟩) ?_ ?_
  · intro e st hx
    rcases o9 with s6 | _
    · obtain ⟨rfl, hw⟩ := hx
      refine ablock_here (athen_norm ((awc_wk hw) (awc_seq ?_)))
      refine awc_region ?_
      refine awl_v (av_move rfl) ?_
      refine awl_v (av_assign rfl) ?_
      have hr := Option.some.inj hr
      subst hr
      exact awl_nil (athen_norm (awc_ret (ret_o (l' := [(4, .osl 0)]) (Hs := [(0, .sl 3 (.int .i64) s6)]) (n := 1) (wk_of hX [0] 4 rfl rfl ⟨⟨_, rfl, cv0⟩, trivial⟩ ⟨cvo0, trivial⟩) rfl rfl rfl ⟨rfl, trivial⟩)))
    · exact hx.elim
  · rintro i4 s6 o ho
    refine awc_seq ?_
    refine awc_region ?_
    refine awl_v (av_lss rfl rfl) ?_
    refine awl_nil (athen_norm (awc_seq ?_))
    refine awc_cond (b := decide (i4 < (List.length x2 : Int))) rfl (fun hc11 => ?_) (fun hc11 => ?_)
    · obtain ⟨q, hr, rfl⟩ := rb_t hc11 ho
      refine awc_skip (athen_norm (awc_seq (awc_block (awc_seq ?_))))
      refine awc_region ?_
      refine awl_v (av_move rfl) ?_
      refine awl_v (av_assign rfl) ?_
      refine awl_nil (athen_norm ?_)
      obtain ⟨x12, e13, hr⟩ := bnd_some hr
      obtain ⟨x14, e15, hr⟩ := bnd_some hr
      refine awc_draw_tail2 12 [12, 12, 12, 12, 12, 12, 12, 12, 12, 12, 12, 12] mixed [1, 4, 5, 10, 11, 6] [(true, .osl 0), (true, .int .i64 i4), (true, .osl 0), (true, .int .i64 i4), (true, .ep 0 1 (Int.toNat i4) 0), (true, .int .i64 x12), (true, .sl (.int .i64) p1), (true, .int .i64 i4), (true, .rp [.int .i64 x14]), (true, .int .i64 x14), (true, .int .i64 (max x12 x14)), (true, .ep 0 1 (Int.toNat i4) 0)] [[], [], [], [], [2, 3], [4], [], [], [6, 7], [8], [5, 9], [0, 1]] [10, 11] rfl rfl rfl rfl rfl rfl rfl rfl ⟨?_, ?_, ?_, ?_, ?_, ?_, ?_, ?_, ?_, ?_, ?_, ?_, trivial⟩ (allT_of ⟨rfl, rfl, trivial⟩) ?_
      · exact ob_v rfl (fun hg => allT_of trivial) (fun hg => av_move rfl)
      · exact ob_v rfl (fun hg => allT_of trivial) (fun hg => av_move rfl)
      · exact ob_v rfl (fun hg => allT_of trivial) (fun hg => av_move rfl)
      · exact ob_v rfl (fun hg => allT_of trivial) (fun hg => av_move rfl)
      · exact ob_v rfl (fun hg => allT_of ⟨rfl, rfl, trivial⟩) (fun hg => av_ia_osl (t := (.int .i64)) und22 sz3 rfl rfl rfl e13)
      · exact ob_v rfl (fun hg => allT_of ⟨rfl, trivial⟩) (fun hg => av_load_ep ts3 rfl rfl rfl (ix_at e13) rfl)
      · exact ob_v rfl (fun hg => allT_of trivial) (fun hg => av_move rfl)
      · exact ob_v rfl (fun hg => allT_of trivial) (fun hg => av_move rfl)
      · exact ob_v rfl (fun hg => allT_of ⟨rfl, rfl, trivial⟩) (fun hg => av_ia_sl (t := (.int .i64)) (e := x14) und22 sz3 rfl rfl e15)
      · exact ob_v rfl (fun hg => allT_of ⟨rfl, trivial⟩) (fun hg => av_load_rp ts3 rfl)
      · exact ob_v rfl (fun hg => allT_of ⟨rfl, rfl, trivial⟩) (fun hg => av_max rfl rfl rfl)
      · exact ob_v rfl (fun hg => allT_of ⟨rfl, rfl, trivial⟩) (fun hg => av_ia_osl (t := (.int .i64)) und22 sz3 rfl rfl rfl e13)
      refine awl_op (aop_store_ep (e' := (max x12 x14)) sz3 rfl rfl rfl rfl (ix_at e13) rfl rfl rfl rfl rfl ?_)
      refine awl_nil (ablock_norm (athen_norm ?_))
      refine awc_region ?_
      refine awl_v (av_add rfl rfl) ?_
      refine awl_v (av_move rfl) ?_
      have hr := Option.some.inj hr
      subst hr
      exact awl_nil ((wk_of hX [0] 4 rfl rfl ⟨⟨_, rfl, cv0⟩, ⟨_, rfl, cv0⟩, ⟨_, rfl, cv0⟩, ⟨_, rfl, cv0⟩, ⟨_, rfl, cv0⟩, trivial⟩ ⟨cvo0, trivial⟩))
    · obtain rfl := rb_f hc11 ho
      exact awc_exit (athen_exit (⟨rfl, (wk_of hX [0] 4 rfl rfl ⟨⟨_, rfl, cv0⟩, ⟨_, rfl, cv0⟩, trivial⟩ ⟨cvo0, trivial⟩)⟩))
theorem f52_runs {p0 : Int} {p1 : List (Int × Int × Int × Int × Str)} {r : List (List Int)} (hr : f52 p0 p1 = some r) : RunsP Try.prog 52 [.int .i64 p0, .sl Y1 p1] [.sl (.slice (.int .i64)) r] := by
  refine runs_wM Try.func52 Try.ntmps52 rfl (rs := [.tmp 4]) rfl rfl fun w0 X hX => ?_
  refine awc_seq ?_
  refine awc_region ?_
  refine awl_op (aop_box rfl rfl ?_)
  refine awl_op (aop_box rfl rfl ?_)
  refine awl_v (av_assign rfl) ?_
  refine awl_nil (athen_norm (awc_seq ?_))
  refine awc_region ?_
  refine awl_op (aop_alloc zero34 rfl ?_)
  refine awl_nil (athen_norm (awc_seq (awc_seq ?_)))
  refine awc_region ?_
  refine awl_v (av_load_ptr ts3 rfl rfl rfl) ?_
  refine awl_v (av_load_ptr ts30 rfl rfl rfl) ?_
  obtain ⟨x1, e2, hr⟩ := bnd_some hr
  refine awl_v (av_call (f62_runs e2) ent62 rfl rfl) ?_
  refine awl_nil (athen_norm (awc_block ?_))
  obtain ⟨s5, e10, hr⟩ := bnd_some hr
  refine awc_wk (st' := ⟨[(2, .ptr 0 0), (3, .ptr 1 0), (4, .nils), (5, .ptr 2 0), (13, .fn 82 [] [.rp [.int .i64 p0], .rp [.sl Y1 p1]])], [(0, .var 3 [.int .i64 p0]), (1, .var 30 [.sl Y1 p1]), (2, .var 34 [.osl 3]), (3, .sl 22 (.slice (.int .i64)) ([] : List (List Int)))], 4⟩) (Wk.trans (wk_ownC (i := 2) (o := 0) 22 (.slice (.int .i64)) rfl rfl rfl) (wk_of hX [0, 1, 2, 3] 4 rfl rfl ⟨⟨_, rfl, cv0⟩, ⟨_, rfl, cv0⟩, ⟨_, rfl, cv0⟩, ⟨_, rfl, cv0⟩, ⟨_, rfl, cv0⟩, trivial⟩ ⟨cvo0, cvo0, cvo0, cvo0, trivial⟩)) (awc_rangeF (σ := List (List Int)) (α := Int × List Int) 3 (f52_b0 p0 p1) (fun x => [.int .i64 x.1, .sl (.int .i64) x.2]) [(2, .ptr 0 0), (3, .ptr 1 0), (4, .nils), (5, .ptr 2 0), (13, .fn 82 [] [.rp [.int .i64 p0], .rp [.sl Y1 p1]])] (fun p => match p with | s5 => ([(0, .var 3 [.int .i64 p0]), (1, .var 30 [.sl Y1 p1]), (2, .var 34 [.osl 3]), (3, .sl 22 (.slice (.int .i64)) s5)] : AH)) 4 rfl rfl rfl ent82 rfl rfl (fun _ => rfl) rfl (by rw [hX]; rfl) rfl (fun L rec G hrec hY => f82_iter (q := (f52_b0 p0 p1)) e10 hrec hY) ?_ ?_)
  · intro w0 L X hX
    rintro s5 ⟨y11, y12⟩ s' hr
    refine awc_seq ?_
    refine awc_region ?_
    refine awl_v (av_assign rfl) ?_
    refine awl_nil (athen_norm ?_)
    refine awc_region ?_
    refine awl_v (av_assign rfl) ?_
    refine awl_nil (ranged ?_)
    intro w0
    refine awc_block (awc_seq ?_)
    refine awc_region ?_
    refine awl_v (av_load_ptr ts3 rfl rfl rfl) ?_
    obtain ⟨h13, hr⟩ := chk_some hr
    refine awl_op (aop_make (t := (.int .i64)) und22 zt3 rfl rfl h13 rfl ?_)
    refine awl_v (av_assign rfl) ?_
    refine awl_nil (athen_norm (awc_seq (awc_seq ?_)))
    refine awc_region ?_
    refine awl_v (av_move rfl) ?_
    refine awl_v (av_len_sl (t := (.int .i64)) rfl rfl und22 rfl) ?_
    refine awl_v (av_move rfl) ?_
    refine awl_nil (athen_norm (awc_block ?_))
    obtain ⟨o19, e20, hr⟩ := bnd_some hr
    refine awc_len (t := 15) rfl (fun hl => ?_)
    refine awc_range (S := List Int) (R := Unit) (List.length y12 : Int) (f52_b1 s5 y12) (fun p => match p with | (i14, s16) => (⟨[(2, .ptr 0 0), (3, .ptr 1 0), (4, .nils), (5, .ptr 2 0), (6, .int .i64 y11), (7, .sl (.int .i64) y12), (8, .osl 3), (14, .int .i64 y11), (15, .sl (.int .i64) y12), (18, .sl (.int .i64) y12), (19, .int .i64 (List.length y12 : Int)), (20, .int .i64 i14)], [(0, .var 3 [.int .i64 p0]), (1, .var 30 [.sl Y1 p1]), (2, .var 34 [.osl 4]), (3, .sl 3 (.int .i64) s16), (4, .sl 22 (.slice (.int .i64)) s5)], 5⟩ : AS)) (fun o e st => match o with | .inr _ => False | .inl s16 => e = .exit 2 ∧ Wk X st ⟨[(2, .ptr 0 0), (3, .ptr 1 0), (4, .nils), (5, .ptr 2 0), (6, .int .i64 y11), (7, .sl (.int .i64) y12), (8, .osl 3), (14, .int .i64 y11), (15, .sl (.int .i64) y12)], [(0, .var 3 [.int .i64 p0]), (1, .var 30 [.sl Y1 p1]), (2, .var 34 [.osl 4]), (3, .sl 3 (.int .i64) s16), (4, .sl 22 (.slice (.int .i64)) s5)], 5⟩) (len_ok hl) e20 (wk_of hX [0, 1, 2, 4, 3] 4 rfl rfl ⟨⟨_, rfl, cv0⟩, ⟨_, rfl, cv0⟩, ⟨_, rfl, cv0⟩, ⟨_, rfl, cv0⟩, ⟨_, rfl, cv0⟩, ⟨_, rfl, cv0⟩, ⟨_, rfl, cv0⟩, ⟨_, rfl, cv0⟩, ⟨_, rfl, cv0⟩, ⟨_, rfl, cv0⟩, ⟨_, rfl, cv0⟩, ⟨_, rfl, cv0⟩, trivial⟩ ⟨cvo0, cvo0, cvo0, cvo0, cvo0, trivial⟩) ?_ ?_
    · intro e st hx
      rcases o19 with s16 | _
      · obtain ⟨rfl, hw⟩ := hx
        refine ablock_here (athen_norm ((awc_wk hw) (awc_seq ?_)))
        refine awc_region ?_
        refine awl_v (av_move rfl) ?_
        refine awl_v (av_load_ptr ts30 rfl rfl rfl) ?_
        refine awl_v (av_move rfl) ?_
        obtain ⟨x21, e22, hr⟩ := bnd_some hr
        refine awl_v (av_ia_sl (t := Y1) (e := x21) und30 sz50 rfl rfl e22) ?_
        refine awl_v (av_fa_rp fa50_0 rfl rfl) ?_
        refine awl_v (av_load_rp ts3 rfl) ?_
        obtain ⟨x23, e24, hr⟩ := bnd_some hr
        refine awl_v (av_ia_osl (t := (.int .i64)) und22 sz3 rfl rfl rfl e24) ?_
        refine awl_v (av_load_ep ts3 rfl rfl rfl (ix_at e24) rfl) ?_
        refine awl_v (av_add rfl rfl) ?_
        refine awl_v (av_ia_osl (t := (.int .i64)) und22 sz3 rfl rfl rfl e24) ?_
        refine awl_op (aop_store_ep (e' := (w64 (x23 + 1))) sz3 rfl rfl rfl rfl (ix_at e24) rfl rfl rfl rfl rfl ?_)
        refine awl_nil (athen_norm ?_)
        refine awc_region ?_
        refine awl_v (av_load_ptr ts34 rfl rfl rfl) ?_
        refine awl_v (av_move rfl) ?_
        refine awl_wk (wk_of (st' := ⟨[(2, .ptr 0 0), (3, .ptr 1 0), (4, .nils), (5, .ptr 2 0), (6, .int .i64 y11), (7, .sl (.int .i64) y12), (8, .sl (.int .i64) (s16.set (Int.toNat x21.1) (w64 (x23 + 1)))), (14, .int .i64 y11), (15, .sl (.int .i64) y12), (31, .sl (.int .i64) (s16.set (Int.toNat x21.1) (w64 (x23 + 1)))), (32, .sl Y1 p1), (33, .int .i64 y11), (34, .rp [.int .i64 x21.1, .int .i64 x21.2.1, .int .i64 x21.2.2.1, .int .i64 x21.2.2.2.1, .str x21.2.2.2.2]), (35, .rp [.int .i64 x21.1, .int .i64 x21.2.1, .int .i64 x21.2.2.1, .int .i64 x21.2.2.2.1, .str x21.2.2.2.2]), (36, .int .i64 x21.1), (37, .any), (38, .int .i64 x23), (39, .int .i64 (w64 (x23 + 1))), (40, .any), (41, .osl 3), (42, .sl (.int .i64) (s16.set (Int.toNat x21.1) (w64 (x23 + 1))))], [(0, .var 3 [.int .i64 p0]), (1, .var 30 [.sl Y1 p1]), (2, .var 34 [.osl 3]), (3, .sl 22 (.slice (.int .i64)) s5)], 4⟩) hX [0, 1, 2, 4] 4 rfl rfl ⟨⟨_, rfl, cv0⟩, ⟨_, rfl, cv0⟩, ⟨_, rfl, cv0⟩, ⟨_, rfl, cv0⟩, ⟨_, rfl, cv0⟩, ⟨_, rfl, cv0⟩, ⟨_, rfl, cv0⟩, ⟨_, rfl, cv0⟩, ⟨_, rfl, cv0⟩, ⟨_, rfl, cv0⟩, ⟨_, rfl, cv0⟩, ⟨_, rfl, cv0⟩, ⟨_, rfl, cv0⟩, ⟨_, rfl, cv0⟩, ⟨_, rfl, cv0⟩, ⟨_, rfl, cv0⟩, ⟨_, rfl, cv0⟩, ⟨_, rfl, cv0⟩, ⟨_, rfl, cv0⟩, ⟨_, rfl, cv0⟩, ⟨_, rfl, cv0⟩, trivial⟩ ⟨cvo0, cvo0, cvo0, cvo0, trivial⟩) ?_
        refine awl_v (av_buildSlice (t := (.slice (.int .i64))) (qs := [(0, [.sl (.int .i64) (s16.set (Int.toNat x21.1) (w64 (x23 + 1)))])]) (ys := [(s16.set (Int.toNat x21.1) (w64 (x23 + 1)))]) bs34 rfl rfl rfl rfl rfl rfl rfl rfl) ?_
        obtain ⟨h25, hr⟩ := chk_some hr
        refine awl_op (aop_append rfl rfl app34 rfl rfl rfl h25 rfl ?_)
        refine awl_op (aop_store sz34 rfl rfl rfl rfl rfl rfl rfl ?_)
        have hr := Option.some.inj hr
        subst hr
        exact awl_nil (ablock_norm ((wk_of hX [0, 1, 2, 4] 4 rfl rfl trivial ⟨cvo0, cvo0, cvo0, cvo0, trivial⟩)))
      · exact hx.elim
    · rintro i14 s16 o ho
      refine awc_seq ?_
      refine awc_region ?_
      refine awl_v (av_lss rfl rfl) ?_
      refine awl_nil (athen_norm (awc_seq ?_))
      refine awc_cond (b := decide (i14 < (List.length y12 : Int))) rfl (fun hc26 => ?_) (fun hc26 => ?_)
      · obtain ⟨q, hr, rfl⟩ := rb_t hc26 ho
        refine awc_skip (athen_norm (awc_seq (awc_block (awc_seq ?_))))
        refine awc_region ?_
        obtain ⟨x27, e28, hr⟩ := bnd_some hr
        refine awl_v (av_ia_sl (t := (.int .i64)) (e := x27) und22 sz3 rfl rfl e28) ?_
        refine awl_v (av_load_rp ts3 rfl) ?_
        refine awl_v (av_assign rfl) ?_
        refine awl_nil (athen_norm ?_)
        refine awc_region ?_
        refine awl_v (av_move rfl) ?_
        refine awl_v (av_load_ptr ts34 rfl rfl rfl) ?_
        refine awl_v (av_move rfl) ?_
        obtain ⟨x29, e30, hr⟩ := bnd_some hr
        refine awl_v (av_ia_osl (t := (.slice (.int .i64))) und34 sz22 rfl rfl rfl e30) ?_
        refine awl_v (av_load_ep ts22 rfl rfl rfl (ix_at e30) rfl) ?_
        refine awl_wk (wk_frz [8, 24] 3 rfl rfl rfl) ?_
        obtain ⟨x31, e32, hr⟩ := bnd_some hr
        refine awl_op (aop_callO (σ := []) (as' := [.sl (.int .i64) s16, .sl (.int .i64) x29]) (f48_runs e32) ent48 rfl ⟨cv0, cv0, trivial⟩ rfl rfl rfl ?_)
        refine awl_v (av_assign rfl) ?_
        refine awl_nil (ablock_norm (athen_norm ?_))
        refine awc_region ?_
        refine awl_v (av_add rfl rfl) ?_
        refine awl_v (av_move rfl) ?_
        have hr := Option.some.inj hr
        subst hr
        exact awl_nil ((wk_of hX [0, 1, 2, 5, 4] 4 rfl rfl ⟨⟨_, rfl, cv0⟩, ⟨_, rfl, cv0⟩, ⟨_, rfl, cv0⟩, ⟨_, rfl, cv0⟩, ⟨_, rfl, cv0⟩, ⟨_, rfl, cv0⟩, ⟨_, rfl, cv0⟩, ⟨_, rfl, cv0⟩, ⟨_, rfl, cv0⟩, ⟨_, rfl, cv0⟩, ⟨_, rfl, cv0⟩, ⟨_, rfl, cv0⟩, trivial⟩ ⟨cvo0, cvo0, cvo0, cvo0, cvo0, trivial⟩))
      · obtain rfl := rb_f hc26 ho
        exact awc_exit (athen_exit (⟨rfl, (wk_of hX [0, 1, 2, 3, 4] 4 rfl rfl ⟨⟨_, rfl, cv0⟩, ⟨_, rfl, cv0⟩, ⟨_, rfl, cv0⟩, ⟨_, rfl, cv0⟩, ⟨_, rfl, cv0⟩, ⟨_, rfl, cv0⟩, ⟨_, rfl, cv0⟩, ⟨_, rfl, cv0⟩, ⟨_, rfl, cv0⟩, trivial⟩ ⟨cvo0, cvo0, cvo0, cvo0, cvo0, trivial⟩)⟩))
  refine ablock_norm (athen_norm (awc_seq ?_))
  refine awc_region ?_
  refine awl_v (av_load_ptr ts34 rfl rfl rfl) ?_
  refine awl_v (av_assign rfl) ?_
  have hr := Option.some.inj hr
  subst hr
  exact awl_nil (athen_norm (awc_ret (ret_q (l' := [(4, .sl (.slice (.int .i64)) s5)]) (wk_of hX [] 4 rfl rfl ⟨⟨_, rfl, cv0⟩, trivial⟩ trivial) rfl ⟨rfl, trivial⟩)))
theorem f58_runs {p0 : List (Int × Int × Int × Int × Str)} {p1 : List (List Int)} {p2 : Int} {p3 : Int} {r : Bool} (hr : f58 p0 p1 p2 p3 = some r) : RunsP Try.prog 58 [.sl Y1 p0, .sl (.slice (.int .i64)) p1, .int .i64 p2, .int .i64 p3] [.bool r] := by
  refine runs_w Try.func58 Try.ntmps58 rfl (rs := [.tmp 8]) rfl rfl fun w0 X hX => ?_
  refine awc_seq ?_
  refine awc_region ?_
  refine awl_v (av_assign rfl) ?_
  refine awl_nil (athen_norm (awc_seq ?_))
  obtain ⟨h1, hr⟩ := chk_some hr
  obtain ⟨h2, hr⟩ := chk_some hr
  obtain ⟨h3, hr⟩ := chk_some hr
  obtain ⟨h4, hr⟩ := chk_some hr
  obtain ⟨h5, hr⟩ := chk_some hr
  refine awc_draw mixed [0, 1, 2, 3] [(true, .int .i64 p2), (true, .int .i64 p3), (true, .bool (!decide (p2 = p3))), (true, .bool (!decide (p2 = p3))), (!decide (p2 = p3), .sl (.slice (.int .i64)) p1), (!decide (p2 = p3), .int .i64 p3), (!decide (p2 = p3), .rp [.sl (.int .i64) ((ix p1 p3).getD default)]), (!decide (p2 = p3), .sl (.int .i64) ((ix p1 p3).getD default)), (!decide (p2 = p3), .sl Y1 p0), (!decide (p2 = p3), .int .i64 p2), (!decide (p2 = p3), .rp [.int .i64 ((((ix p0 p2).getD default)).1), .int .i64 (((((ix p0 p2).getD default)).2).1), .int .i64 ((((((ix p0 p2).getD default)).2).2).1), .int .i64 (((((((ix p0 p2).getD default)).2).2).2).1), .str (((((((ix p0 p2).getD default)).2).2).2).2)]), (!decide (p2 = p3), .rp [.int .i64 ((((ix p0 p2).getD default)).1), .int .i64 (((((ix p0 p2).getD default)).2).1), .int .i64 ((((((ix p0 p2).getD default)).2).2).1), .int .i64 (((((((ix p0 p2).getD default)).2).2).2).1), .str (((((((ix p0 p2).getD default)).2).2).2).2)]), (!decide (p2 = p3), .int .i64 ((((ix p0 p2).getD default)).1)), (!decide (p2 = p3), .rp [.int .i64 ((ix ((ix p1 p3).getD default) ((((ix p0 p2).getD default)).1)).getD default)]), (!decide (p2 = p3), .int .i64 ((ix ((ix p1 p3).getD default) ((((ix p0 p2).getD default)).1)).getD default)), (!decide (p2 = p3), .sl (.slice (.int .i64)) p1), (!decide (p2 = p3), .int .i64 p2), (!decide (p2 = p3), .rp [.sl (.int .i64) ((ix p1 p2).getD default)]), (!decide (p2 = p3), .sl (.int .i64) ((ix p1 p2).getD default)), (!decide (p2 = p3), .sl Y1 p0), (!decide (p2 = p3), .int .i64 p2), (!decide (p2 = p3), .rp [.int .i64 ((((ix p0 p2).getD default)).1), .int .i64 (((((ix p0 p2).getD default)).2).1), .int .i64 ((((((ix p0 p2).getD default)).2).2).1), .int .i64 (((((((ix p0 p2).getD default)).2).2).2).1), .str (((((((ix p0 p2).getD default)).2).2).2).2)]), (!decide (p2 = p3), .rp [.int .i64 ((((ix p0 p2).getD default)).1), .int .i64 (((((ix p0 p2).getD default)).2).1), .int .i64 ((((((ix p0 p2).getD default)).2).2).1), .int .i64 (((((((ix p0 p2).getD default)).2).2).2).1), .str (((((((ix p0 p2).getD default)).2).2).2).2)]), (!decide (p2 = p3), .int .i64 ((((ix p0 p2).getD default)).1)), (!decide (p2 = p3), .rp [.int .i64 ((ix ((ix p1 p2).getD default) ((((ix p0 p2).getD default)).1)).getD default)]), (!decide (p2 = p3), .int .i64 ((ix ((ix p1 p2).getD default) ((((ix p0 p2).getD default)).1)).getD default)), (!decide (p2 = p3), .bool (decide (((ix ((ix p1 p2).getD default) ((((ix p0 p2).getD default)).1)).getD default) ≤ ((ix ((ix p1 p3).getD default) ((((ix p0 p2).getD default)).1)).getD default)))), (true, .bool ((!decide (p2 = p3)) && (decide (((ix ((ix p1 p2).getD default) ((((ix p0 p2).getD default)).1)).getD default) ≤ ((ix ((ix p1 p3).getD default) ((((ix p0 p2).getD default)).1)).getD default))))), (true, .bool ((!decide (p2 = p3)) && (decide (((ix ((ix p1 p2).getD default) ((((ix p0 p2).getD default)).1)).getD default) ≤ ((ix ((ix p1 p3).getD default) ((((ix p0 p2).getD default)).1)).getD default)))))] [[], [], [0, 1], [2], [3], [3], [4, 5, 3], [6, 3], [3], [3], [8, 9, 3], [10, 3], [11, 3], [7, 12, 3], [13, 3], [3], [3], [15, 16, 3], [17, 3], [3], [3], [19, 20, 3], [21, 3], [22, 3], [18, 23, 3], [24, 3], [14, 25, 3], [26, 3], [27]] [28] rfl rfl rfl rfl rfl ⟨?_, ?_, ?_, ?_, ?_, ?_, ?_, ?_, ?_, ?_, ?_, ?_, ?_, ?_, ?_, ?_, ?_, ?_, ?_, ?_, ?_, ?_, ?_, ?_, ?_, ?_, ?_, ?_, ?_, trivial⟩ (allT_of ⟨rfl, trivial⟩) ?_
  · exact ob_v rfl (fun hg => allT_of trivial) (fun hg => av_move rfl)
  · exact ob_v rfl (fun hg => allT_of trivial) (fun hg => av_move rfl)
  · exact ob_v rfl (fun hg => allT_of ⟨rfl, rfl, trivial⟩) (fun hg => av_neq rfl rfl)
  · exact ob_v rfl (fun hg => allT_of ⟨rfl, trivial⟩) (fun hg => av_move rfl)
  · exact ob_v ⟨rfl, rfl, rfl, _, rfl, rfl⟩ (fun hg => allT_of ⟨rfl, trivial⟩) (fun hg => av_move rfl)
  · exact ob_v ⟨rfl, rfl, rfl, _, rfl, rfl⟩ (fun hg => allT_of ⟨rfl, trivial⟩) (fun hg => av_move rfl)
  · exact ob_v ⟨rfl, rfl, rfl, _, rfl, rfl⟩ (fun hg => allT_of ⟨hg, hg, rfl, trivial⟩) (fun hg => av_ia_sl (t := (.slice (.int .i64))) (e := ((ix p1 p3).getD default)) und34 sz22 rfl rfl (get_g h1 hg))
  · exact ob_v ⟨rfl, rfl, rfl, _, rfl, rfl⟩ (fun hg => allT_of ⟨hg, rfl, trivial⟩) (fun hg => av_load_rp ts22 rfl)
  · exact ob_v ⟨rfl, rfl, rfl, _, rfl, rfl⟩ (fun hg => allT_of ⟨rfl, trivial⟩) (fun hg => av_move rfl)
  · exact ob_v ⟨rfl, rfl, rfl, _, rfl, rfl⟩ (fun hg => allT_of ⟨rfl, trivial⟩) (fun hg => av_move rfl)
  · exact ob_v ⟨rfl, rfl, rfl, _, rfl, rfl⟩ (fun hg => allT_of ⟨hg, hg, rfl, trivial⟩) (fun hg => av_ia_sl (t := Y1) (e := ((ix p0 p2).getD default)) und30 sz50 rfl rfl (get_g h2 hg))
  · exact ob_v ⟨rfl, rfl, rfl, _, rfl, rfl⟩ (fun hg => allT_of ⟨hg, rfl, trivial⟩) (fun hg => av_fa_rp fa50_0 rfl rfl)
  · exact ob_v ⟨rfl, rfl, rfl, _, rfl, rfl⟩ (fun hg => allT_of ⟨hg, rfl, trivial⟩) (fun hg => av_load_rp ts3 rfl)
  · exact ob_v ⟨rfl, rfl, rfl, _, rfl, rfl⟩ (fun hg => allT_of ⟨hg, hg, rfl, trivial⟩) (fun hg => av_ia_sl (t := (.int .i64)) (e := ((ix ((ix p1 p3).getD default) ((((ix p0 p2).getD default)).1)).getD default)) und22 sz3 rfl rfl (get_g h3 hg))
  · exact ob_v ⟨rfl, rfl, rfl, _, rfl, rfl⟩ (fun hg => allT_of ⟨hg, rfl, trivial⟩) (fun hg => av_load_rp ts3 rfl)
  · exact ob_v ⟨rfl, rfl, rfl, _, rfl, rfl⟩ (fun hg => allT_of ⟨rfl, trivial⟩) (fun hg => av_move rfl)
  · exact ob_v ⟨rfl, rfl, rfl, _, rfl, rfl⟩ (fun hg => allT_of ⟨rfl, trivial⟩) (fun hg => av_move rfl)
  · exact ob_v ⟨rfl, rfl, rfl, _, rfl, rfl⟩ (fun hg => allT_of ⟨hg, hg, rfl, trivial⟩) (fun hg => av_ia_sl (t := (.slice (.int .i64))) (e := ((ix p1 p2).getD default)) und34 sz22 rfl rfl (get_g h4 hg))
  · exact ob_v ⟨rfl, rfl, rfl, _, rfl, rfl⟩ (fun hg => allT_of ⟨hg, rfl, trivial⟩) (fun hg => av_load_rp ts22 rfl)
  · exact ob_v ⟨rfl, rfl, rfl, _, rfl, rfl⟩ (fun hg => allT_of ⟨rfl, trivial⟩) (fun hg => av_move rfl)
  · exact ob_v ⟨rfl, rfl, rfl, _, rfl, rfl⟩ (fun hg => allT_of ⟨rfl, trivial⟩) (fun hg => av_move rfl)
  · exact ob_v ⟨rfl, rfl, rfl, _, rfl, rfl⟩ (fun hg => allT_of ⟨hg, hg, rfl, trivial⟩) (fun hg => av_ia_sl (t := Y1) (e := ((ix p0 p2).getD default)) und30 sz50 rfl rfl (get_g h2 hg))
  · exact ob_v ⟨rfl, rfl, rfl, _, rfl, rfl⟩ (fun hg => allT_of ⟨hg, rfl, trivial⟩) (fun hg => av_fa_rp fa50_0 rfl rfl)
  · exact ob_v ⟨rfl, rfl, rfl, _, rfl, rfl⟩ (fun hg => allT_of ⟨hg, rfl, trivial⟩) (fun hg => av_load_rp ts3 rfl)
  · exact ob_v ⟨rfl, rfl, rfl, _, rfl, rfl⟩ (fun hg => allT_of ⟨hg, hg, rfl, trivial⟩) (fun hg => av_ia_sl (t := (.int .i64)) (e := ((ix ((ix p1 p2).getD default) ((((ix p0 p2).getD default)).1)).getD default)) und22 sz3 rfl rfl (get_g h5 hg))
  · exact ob_v ⟨rfl, rfl, rfl, _, rfl, rfl⟩ (fun hg => allT_of ⟨hg, rfl, trivial⟩) (fun hg => av_load_rp ts3 rfl)
  · exact ob_v ⟨rfl, rfl, rfl, _, rfl, rfl⟩ (fun hg => allT_of ⟨hg, hg, rfl, trivial⟩) (fun hg => av_geq rfl rfl)
  · exact ob_pick (b := true) (p := !decide (p2 = p3)) (q := decide (((ix ((ix p1 p2).getD default) ((((ix p0 p2).getD default)).1)).getD default) ≤ ((ix ((ix p1 p3).getD default) ((((ix p0 p2).getD default)).1)).getD default))) rfl rfl rfl (fun hg => allT_of ⟨rfl, trivial⟩) rfl rfl rfl rfl rfl
  · exact ob_v rfl (fun hg => allT_of ⟨rfl, trivial⟩) (fun hg => av_assign rfl)
  have hr := Option.some.inj hr
  subst hr
  exact athen_norm (awc_ret (ret_q (l' := [(8, .bool ((!decide (p2 = p3)) && (decide (((ix ((ix p1 p2).getD default) ((((ix p0 p2).getD default)).1)).getD default) ≤ ((ix ((ix p1 p3).getD default) ((((ix p0 p2).getD default)).1)).getD default)))))]) (wk_of hX [] 4 rfl rfl ⟨⟨_, rfl, cv0⟩, trivial⟩ trivial) rfl ⟨rfl, trivial⟩))
theorem f24_runs {p0 : Int} {p1 : List (Int × Int × Int × Int × Str)} {p2 : Int} {p3 : Int} {r : Bool × Int} (hr : f24 p0 p1 p2 p3 = some r) : RunsP Try.prog 24 [.int .i64 p0, .sl Y1 p1, .int .i64 p2, .int .i64 p3] [.bool r.1, .int .i64 r.2] := by
  refine runs_w Try.func24 Try.ntmps24 rfl (rs := [.tmp 8, .tmp 9]) rfl rfl fun w0 X hX => ?_
  refine awc_seq ?_
  refine awc_region ?_
  refine awl_v (av_assign rfl) ?_
  refine awl_v (av_assign rfl) ?_
  refine awl_nil (athen_norm (awc_seq (awc_seq ?_)))
  refine awc_region ?_
  refine awl_v (av_move rfl) ?_
  refine awl_v (av_move rfl) ?_
  refine awl_v (av_move rfl) ?_
  refine awl_v (av_move rfl) ?_
  refine awl_v (av_buildSlice (t := (.int .i64)) (qs := [(0, [.int .i64 p2]), (1, [.int .i64 p3])]) (ys := [p2, p3]) bs22 rfl rfl rfl rfl rfl rfl rfl rfl) ?_
  obtain ⟨x1, e2, hr⟩ := bnd_some hr
  refine awl_v (av_call (f57_runs e2) ent57 rfl rfl) ?_
  refine awl_v (av_assign rfl) ?_
  refine awl_nil (athen_norm (awc_seq ?_))
  refine awc_region ?_
  refine awl_v (av_move rfl) ?_
  refine awl_v (av_neq rfl rfl) ?_
  refine awl_nil (athen_norm ?_)
  refine awc_cond (b := !decide (x1 = 0)) rfl (fun hc3 => ?_) (fun hc3 => ?_)
  · have hr := if_t hc3 hr
    refine awc_seq ?_
    refine awc_region ?_
    refine awl_v (av_move rfl) ?_
    refine awl_v (av_assign rfl) ?_
    refine awl_v (av_assign rfl) ?_
    have hr := Option.some.inj hr
    subst hr
    exact awl_nil (athen_norm (awc_ret (athen_ret (ret_q (l' := [(8, .bool false), (9, .int .i64 x1)]) (wk_of hX [] 4 rfl rfl ⟨⟨_, rfl, cv0⟩, ⟨_, rfl, cv0⟩, trivial⟩ trivial) rfl ⟨rfl, rfl, trivial⟩))))
  · have hr := if_f hc3 hr
    refine awc_skip (athen_norm (awc_seq ?_))
    refine awc_region ?_
    refine awl_v (av_move rfl) ?_
    refine awl_v (av_move rfl) ?_
    refine awl_v (av_move rfl) ?_
    obtain ⟨x4, e5, hr⟩ := bnd_some hr
    refine awl_v (av_call (f52_runs e5) ent52 rfl rfl) ?_
    refine awl_v (av_move rfl) ?_
    refine awl_v (av_move rfl) ?_
    obtain ⟨x6, e7, hr⟩ := bnd_some hr
    refine awl_v (av_call (f58_runs e7) ent58 rfl rfl) ?_
    refine awl_v (av_assign rfl) ?_
    refine awl_v (av_assign rfl) ?_
    have hr := Option.some.inj hr
    subst hr
    exact awl_nil (athen_norm (awc_ret (ret_q (l' := [(8, .bool x6), (9, .int .i64 0)]) (wk_of hX [] 4 rfl rfl ⟨⟨_, rfl, cv0⟩, ⟨_, rfl, cv0⟩, trivial⟩ trivial) rfl ⟨rfl, rfl, trivial⟩)))
theorem f19_runs {p0 : Int} {p1 : List (Int × Int × Int × Int × Str)} {r : List (List Int) × Int} (hr : f19 p0 p1 = some r) : RunsP Try.prog 19 [.int .i64 p0, .sl Y1 p1] [.sl (.slice (.int .i64)) r.1, .int .i64 r.2] := by
  refine runs_w Try.func19 Try.ntmps19 rfl (rs := [.tmp 4, .tmp 5]) rfl rfl fun w0 X hX => ?_
  refine awc_seq ?_
  refine awc_region ?_
  refine awl_v (av_assign rfl) ?_
  refine awl_v (av_assign rfl) ?_
  refine awl_nil (athen_norm (awc_seq (awc_seq ?_)))
  refine awc_region ?_
  refine awl_v (av_move rfl) ?_
  refine awl_v (av_move rfl) ?_
  obtain ⟨x1, e2, hr⟩ := bnd_some hr
  refine awl_v (av_call (f17_runs e2) ent17 rfl rfl) ?_
  refine awl_v (av_not rfl) ?_
  refine awl_nil (athen_norm ?_)
  refine awc_cond (b := !x1) rfl (fun hc3 => ?_) (fun hc3 => ?_)
  · have hr := if_t hc3 hr
    refine awc_seq ?_
    refine awc_region ?_
    refine awl_v (av_assign rfl) ?_
    refine awl_v (av_assign rfl) ?_
    have hr := Option.some.inj hr
    subst hr
    exact awl_nil (athen_norm (awc_ret (athen_ret (ret_q (l' := [(4, .sl (.slice (.int .i64)) ([] : List (List Int))), (5, .int .i64 1)]) (wk_of hX [] 4 rfl rfl ⟨⟨_, rfl, cv2⟩, ⟨_, rfl, cv0⟩, trivial⟩ trivial) rfl ⟨rfl, rfl, trivial⟩))))
  · have hr := if_f hc3 hr
    refine awc_skip (athen_norm (awc_seq ?_))
    refine awc_region ?_
    refine awl_v (av_move rfl) ?_
    refine awl_v (av_move rfl) ?_
    obtain ⟨x4, e5, hr⟩ := bnd_some hr
    refine awl_v (av_call (f52_runs e5) ent52 rfl rfl) ?_
    refine awl_v (av_assign rfl) ?_
    refine awl_v (av_assign rfl) ?_
    have hr := Option.some.inj hr
    subst hr
    exact awl_nil (athen_norm (awc_ret (ret_q (l' := [(4, .sl (.slice (.int .i64)) x4), (5, .int .i64 0)]) (wk_of hX [] 4 rfl rfl ⟨⟨_, rfl, cv0⟩, ⟨_, rfl, cv0⟩, trivial⟩ trivial) rfl ⟨rfl, rfl, trivial⟩)))
theorem f84_runs {p0 : Int} {r : Bool} (hr : f84 p0 = some r) : RunsP Try.prog 84 [.int .i64 p0] [.bool r] := by
  refine runs_w Try.func84 Try.ntmps84 rfl (rs := [.tmp 2]) rfl rfl fun w0 X hX => ?_
  refine awc_seq ?_
  refine awc_region ?_
  refine awl_v (av_assign rfl) ?_
  refine awl_nil (athen_norm (awc_seq ?_))
  refine awc_region ?_
  refine awl_v (av_move rfl) ?_
  refine awl_v (av_lss rfl rfl) ?_
  refine awl_v (av_assign rfl) ?_
  have hr := Option.some.inj hr
  subst hr
  exact awl_nil (athen_norm (awc_ret (ret_q (l' := [(2, .bool (decide (p0 < 0)))]) (wk_of hX [] 4 rfl rfl ⟨⟨_, rfl, cv0⟩, trivial⟩ trivial) rfl ⟨rfl, trivial⟩)))
theorem f85_runs {p0 : Int} {p1 : List (Int × Int × Int × Int × Str)} {r : List Int} (hr : f85 p0 p1 = some r) : RunsP Try.prog 85 [.int .i64 p0, .sl Y1 p1] [.sl (.int .i64) r] := by
  refine runs_w Try.func85 Try.ntmps85 rfl (rs := [.tmp 4]) rfl rfl fun w0 X hX => ?_
  refine awc_seq ?_
  refine awc_region ?_
  refine awl_v (av_assign rfl) ?_
  refine awl_nil (athen_norm (awc_seq ?_))
  refine awc_region ?_
  refine awl_v (av_move rfl) ?_
  obtain ⟨h1, hr⟩ := chk_some hr
  refine awl_op (aop_make (t := (.int .i64)) und22 zt3 rfl rfl h1 rfl ?_)
  refine awl_v (av_assign rfl) ?_
  refine awl_nil (athen_norm (awc_seq (awc_seq ?_)))
  refine awc_region ?_
  refine awl_v (av_move rfl) ?_
  refine awl_v (av_len_sl (t := Y1) rfl rfl und30 rfl) ?_
  refine awl_v (av_move rfl) ?_
  refine awl_nil (athen_norm (awc_block ?_))
  obtain ⟨o7, e8, hr⟩ := bnd_some hr
  refine awc_len (t := 1) rfl (fun hl => ?_)
  refine awc_range (S := List Int) (R := Unit) (List.length p1 : Int) (f85_b0 p1) (fun p => match p with | (i2, s4) => (⟨[(4, .nils), (5, .osl 0), (10, .sl Y1 p1), (11, .int .i64 (List.length p1 : Int)), (12, .int .i64 i2)], [(0, .sl 3 (.int .i64) s4)], 1⟩ : AS)) (fun o e st => match o with | .inr _ => False | .inl s4 => e = .exit 0 ∧ Wk X st ⟨[(4, .nils), (5, .osl 0)], [(0, .sl 3 (.int .i64) s4)], 1⟩) (len_ok hl) e8 (wk_of hX [0] 4 rfl rfl ⟨⟨_, rfl, cv0⟩, ⟨_, rfl, cv0⟩, ⟨_, rfl, cv0⟩, ⟨_, rfl, cv0⟩, ⟨_, rfl, cv0⟩, trivial⟩ ⟨cvo0, trivial⟩) ?_ ?_
  · intro e st hx
    rcases o7 with s4 | _
    · obtain ⟨rfl, hw⟩ := hx
      refine ablock_here (athen_norm ((awc_wk hw) (awc_seq ?_)))
      refine awc_region ?_
      refine awl_v (av_move rfl) ?_
      refine awl_v (av_assign rfl) ?_
      have hr := Option.some.inj hr
      subst hr
      exact awl_nil (athen_norm (awc_ret (ret_q (l' := [(4, .sl (.int .i64) s4)]) (wk_of hX [] 4 rfl rfl ⟨⟨_, rfl, cv0⟩, trivial⟩ trivial) rfl ⟨rfl, trivial⟩)))
    · exact hx.elim
  · rintro i2 s4 o ho
    refine awc_seq ?_
    refine awc_region ?_
    refine awl_v (av_lss rfl rfl) ?_
    refine awl_nil (athen_norm (awc_seq ?_))
    refine awc_cond (b := decide (i2 < (List.length p1 : Int))) rfl (fun hc9 => ?_) (fun hc9 => ?_)
    · obtain ⟨q, hr, rfl⟩ := rb_t hc9 ho
      refine awc_skip (athen_norm (awc_seq (awc_block (awc_seq ?_))))
      refine awc_region ?_
      obtain ⟨x10, e11, hr⟩ := bnd_some hr
      refine awl_v (av_ia_sl (t := Y1) (e := x10) und30 sz50 rfl rfl e11) ?_
      refine awl_v (av_load_rpN ts50 rfl rfl rfl) ?_
      refine awl_op (aop_alloc zero50 rfl ?_)
      refine awl_op (aop_store sz50 rfl rfl rfl rfl rfl rfl rfl ?_)
      refine awl_nil (athen_norm ?_)
      refine awc_region ?_
      refine awl_v (av_move rfl) ?_
      refine awl_v (av_fa_ptr fa50_0 rfl rfl) ?_
      refine awl_v (av_load_ptr ts3 rfl rfl rfl) ?_
      obtain ⟨x12, e13, hr⟩ := bnd_some hr
      refine awl_v (av_ia_osl (t := (.int .i64)) und22 sz3 rfl rfl rfl e13) ?_
      refine awl_v (av_load_ep ts3 rfl rfl rfl (ix_at e13) rfl) ?_
      refine awl_v (av_add rfl rfl) ?_
      refine awl_v (av_ia_osl (t := (.int .i64)) und22 sz3 rfl rfl rfl e13) ?_
      refine awl_op (aop_store_ep (e' := (w64 (x12 + 1))) sz3 rfl rfl rfl rfl (ix_at e13) rfl rfl rfl rfl rfl ?_)
      refine awl_nil (ablock_norm (athen_norm ?_))
      refine awc_region ?_
      refine awl_v (av_add rfl rfl) ?_
      refine awl_v (av_move rfl) ?_
      have hr := Option.some.inj hr
      subst hr
      exact awl_nil ((wk_of hX [0] 4 rfl rfl ⟨⟨_, rfl, cv0⟩, ⟨_, rfl, cv0⟩, ⟨_, rfl, cv0⟩, ⟨_, rfl, cv0⟩, ⟨_, rfl, cv0⟩, trivial⟩ ⟨cvo0, trivial⟩))
    · obtain rfl := rb_f hc9 ho
      exact awc_exit (athen_exit (⟨rfl, (wk_of hX [0] 4 rfl rfl ⟨⟨_, rfl, cv0⟩, ⟨_, rfl, cv0⟩, trivial⟩ ⟨cvo0, trivial⟩)⟩))
theorem f63_runs {p0 : Int} {p1 : List (Int × Int × Int × Int × Str)} {p2 : List Int} {r : Int} (hr : f63 p0 p1 p2 = some r) : RunsP Try.prog 63 [.int .i64 p0, .sl Y1 p1, .sl (.int .i64) p2] [.int .i64 r] := by
  refine runs_w Try.func63 Try.ntmps63 rfl (rs := [.tmp 6]) rfl rfl fun w0 X hX => ?_
  refine awc_seq ?_
  refine awc_region ?_
  refine awl_v (av_assign rfl) ?_
  refine awl_nil (athen_norm (awc_seq (awc_seq ?_)))
  obtain ⟨x1, e2, hr⟩ := bnd_some hr
  obtain ⟨h3, hr⟩ := chk_some hr
  refine awc_text [0, 1, 2, 6] [(true, .int .i64 p0), (true, .sl Y1 p1), (true, .bool x1), (true, .bool (!x1)), (true, .bool (!x1)), (!(!x1), .sl (.int .i64) p2), (!(!x1), .int .i64 (List.length p2 : Int)), (!(!x1), .int .i64 p0), (!(!x1), .bool (!decide ((List.length p2 : Int) = p0))), (true, .bool ((!x1) || (!decide ((List.length p2 : Int) = p0)))), (true, .bool ((!x1) || (!decide ((List.length p2 : Int) = p0)))), (!((!x1) || (!decide ((List.length p2 : Int) = p0))), .sl (.int .i64) p2), (!((!x1) || (!decide ((List.length p2 : Int) = p0))), .bool ((f75 p2 (fun y1 => f84 y1)).getD default)), (true, .bool (((!x1) || (!decide ((List.length p2 : Int) = p0))) || ((f75 p2 (fun y1 => f84 y1)).getD default)))] [[], [], [0, 1], [2], [3], [4], [5, 4], [4], [6, 7, 4], [8, 4], [9], [10], [11, 10], [12, 10]] [13] rfl rfl rfl rfl rfl ⟨?_, ?_, ?_, ?_, ?_, ?_, ?_, ?_, ?_, ?_, ?_, ?_, ?_, ?_, trivial⟩ (allT_of ⟨rfl, trivial⟩) ?_
  · exact ob_v rfl (fun hg => allT_of trivial) (fun hg => av_move rfl)
  · exact ob_v rfl (fun hg => allT_of trivial) (fun hg => av_move rfl)
  · exact ob_v rfl (fun hg => allT_of ⟨rfl, rfl, trivial⟩) (fun hg => av_call (f17_runs e2) ent17 rfl rfl)
  · exact ob_v rfl (fun hg => allT_of ⟨rfl, trivial⟩) (fun hg => av_not rfl)
  · exact ob_v rfl (fun hg => allT_of ⟨rfl, trivial⟩) (fun hg => av_move rfl)
  · exact ob_v ⟨rfl, rfl, rfl, _, rfl, rfl⟩ (fun hg => allT_of ⟨rfl, trivial⟩) (fun hg => av_move rfl)
  · exact ob_v ⟨rfl, rfl, rfl, _, rfl, rfl⟩ (fun hg => allT_of ⟨hg, rfl, trivial⟩) (fun hg => av_len_sl (t := (.int .i64)) rfl rfl und22 rfl)
  · exact ob_v ⟨rfl, rfl, rfl, _, rfl, rfl⟩ (fun hg => allT_of ⟨rfl, trivial⟩) (fun hg => av_move rfl)
  · exact ob_v ⟨rfl, rfl, rfl, _, rfl, rfl⟩ (fun hg => allT_of ⟨hg, hg, rfl, trivial⟩) (fun hg => av_neq rfl rfl)
  · exact ob_pick (b := false) (p := !x1) (q := !decide ((List.length p2 : Int) = p0)) rfl rfl rfl (fun hg => allT_of ⟨rfl, trivial⟩) rfl rfl rfl rfl rfl
  · exact ob_v rfl (fun hg => allT_of ⟨rfl, trivial⟩) (fun hg => av_move rfl)
  · exact ob_v ⟨rfl, rfl, rfl, _, rfl, rfl⟩ (fun hg => allT_of ⟨rfl, trivial⟩) (fun hg => av_move rfl)
  · exact ob_v ⟨rfl, rfl, rfl, _, rfl, rfl⟩ (fun hg => allT_of ⟨hg, rfl, trivial⟩) (fun hg => av_callN (as' := [.sl (.int .i64) p2, .fn 84 [] []]) (f75_runs (g1 := 84) (c1s := []) (fun _ r h => f84_runs h) ⟨ent84⟩ (get_g h3 hg)) ent75 rfl ⟨cv0, (cv3 rfl), trivial⟩ rfl)
  · exact ob_pick (b := false) (p := (!x1) || (!decide ((List.length p2 : Int) = p0))) (q := ((f75 p2 (fun y1 => f84 y1)).getD default)) rfl rfl rfl (fun hg => allT_of ⟨rfl, trivial⟩) rfl rfl rfl rfl rfl
  refine athen_norm ?_
  refine awc_cond (b := ((!x1) || (!decide ((List.length p2 : Int) = p0))) || ((f75 p2 (fun y1 => f84 y1)).getD default)) rfl (fun hc4 => ?_) (fun hc4 => ?_)
  · have hr := if_t hc4 hr
    refine awc_seq ?_
    refine awc_region ?_
    refine awl_v (av_assign rfl) ?_
    have hr := Option.some.inj hr
    subst hr
    exact awl_nil (athen_norm (awc_ret (athen_ret (ret_q (l' := [(6, .int .i64 1)]) (wk_of hX [] 4 rfl rfl ⟨⟨_, rfl, cv0⟩, trivial⟩ trivial) rfl ⟨rfl, trivial⟩))))
  · have hr := if_f hc4 hr
    refine awc_skip (athen_norm (awc_seq (awc_seq ?_)))
    refine awc_region ?_
    refine awl_v (av_move rfl) ?_
    refine awl_v (av_move rfl) ?_
    obtain ⟨x5, e6, hr⟩ := bnd_some hr
    refine awl_v (av_call (f85_runs e6) ent85 rfl rfl) ?_
    refine awl_v (av_len_sl (t := (.int .i64)) rfl rfl und22 rfl) ?_
    refine awl_v (av_move rfl) ?_
    refine awl_nil (athen_norm (awc_block ?_))
    obtain ⟨o9, e10, hr⟩ := bnd_some hr
    refine awc_len (t := 25) rfl (fun hl => ?_)
    refine awc_range (S := Unit) (R := Unit) (List.length x5 : Int) (f63_b0 p2 x5) (fun p => match p with | (i7, ()) => (⟨[(2, .sl (.int .i64) p2), (6, .int .i64 0), (25, .sl (.int .i64) x5), (26, .int .i64 (List.length x5 : Int)), (27, .int .i64 i7)], [], 0⟩ : AS)) (fun o e st => match o with | .inl () => e = .exit 0 ∧ Wk X st ⟨[(6, .int .i64 0)], [], 0⟩ | .inr () => e = .ret ∧ Wk X st ⟨[(6, .int .i64 7)], [], 0⟩) (len_ok hl) e10 (wk_of hX [] 4 rfl rfl ⟨⟨_, rfl, cv0⟩, ⟨_, rfl, cv0⟩, ⟨_, rfl, cv0⟩, ⟨_, rfl, cv0⟩, ⟨_, rfl, cv0⟩, trivial⟩ trivial) ?_ ?_
    · intro e st hx
      rcases o9 with _ | _
      · obtain ⟨rfl, hw⟩ := hx
        refine ablock_here (athen_norm ((awc_wk hw) (awc_seq ?_)))
        refine awc_region ?_
        refine awl_v (av_assign rfl) ?_
        have hr := Option.some.inj hr
        subst hr
        exact awl_nil (athen_norm (awc_ret (ret_q (l' := [(6, .int .i64 0)]) (wk_of hX [] 4 rfl rfl ⟨⟨_, rfl, cv0⟩, trivial⟩ trivial) rfl ⟨rfl, trivial⟩)))
      · obtain ⟨rfl, hw⟩ := hx
        have hr := Option.some.inj hr
        subst hr
        exact ablock_ret (athen_ret (ret_q (l' := [(6, .int .i64 7)]) (Wk.trans hw (wk_of hX [] 4 rfl rfl ⟨⟨_, rfl, cv0⟩, trivial⟩ trivial)) rfl ⟨rfl, trivial⟩))
    · rintro i7 _ o ho
      refine awc_seq ?_
      refine awc_region ?_
      refine awl_v (av_lss rfl rfl) ?_
      refine awl_nil (athen_norm (awc_seq ?_))
      refine awc_cond (b := decide (i7 < (List.length x5 : Int))) rfl (fun hc11 => ?_) (fun hc11 => ?_)
      · obtain ⟨q, hr, rfl⟩ := rb_t hc11 ho
        refine awc_skip (athen_norm (awc_seq (awc_block (awc_seq ?_))))
        refine awc_region ?_
        refine awl_v (av_move rfl) ?_
        obtain ⟨x12, e13, hr⟩ := bnd_some hr
        refine awl_v (av_ia_sl (t := (.int .i64)) (e := x12) und22 sz3 rfl rfl e13) ?_
        refine awl_v (av_load_rp ts3 rfl) ?_
        refine awl_v (av_assign rfl) ?_
        refine awl_v (av_assign rfl) ?_
        refine awl_nil (athen_norm (awc_seq ?_))
        refine awc_region ?_
        refine awl_v (av_move rfl) ?_
        refine awl_v (av_move rfl) ?_
        obtain ⟨x14, e15, hr⟩ := bnd_some hr
        refine awl_v (av_ia_sl (t := (.int .i64)) (e := x14) und22 sz3 rfl rfl e15) ?_
        refine awl_v (av_load_rp ts3 rfl) ?_
        refine awl_v (av_move rfl) ?_
        refine awl_v (av_gtr rfl rfl) ?_
        refine awl_nil (athen_norm ?_)
        refine awc_cond (b := decide (x12 < x14)) rfl (fun hc16 => ?_) (fun hc16 => ?_)
        · have hr := if_t hc16 hr
          refine awc_seq ?_
          refine awc_region ?_
          refine awl_v (av_assign rfl) ?_
          have hr := Option.some.inj hr
          subst hr
          exact awl_nil (athen_norm (awc_ret (ablock_ret (athen_ret (⟨rfl, (wk_of hX [] 4 rfl rfl ⟨⟨_, rfl, cv0⟩, trivial⟩ trivial)⟩)))))
        · have hr := if_f hc16 hr
          refine awc_skip (ablock_norm (athen_norm ?_))
          refine awc_region ?_
          refine awl_v (av_add rfl rfl) ?_
          refine awl_v (av_move rfl) ?_
          have hr := Option.some.inj hr
          subst hr
          exact awl_nil ((wk_of hX [] 4 rfl rfl ⟨⟨_, rfl, cv0⟩, ⟨_, rfl, cv0⟩, ⟨_, rfl, cv0⟩, ⟨_, rfl, cv0⟩, ⟨_, rfl, cv0⟩, trivial⟩ trivial))
      · obtain rfl := rb_f hc11 ho
        exact awc_exit (athen_exit (⟨rfl, (wk_of hX [] 4 rfl rfl ⟨⟨_, rfl, cv0⟩, trivial⟩ trivial)⟩))
theorem f69_runs {p0 : List Int} {p1 : List Int} {p2 : Int} {r : Bool} (hr : f69 p0 p1 p2 = some r) : RunsP Try.prog 69 [.sl (.int .i64) p0, .sl (.int .i64) p1, .int .i64 p2] [.bool r] := by
  refine runs_w Try.func69 Try.ntmps69 rfl (rs := [.tmp 6]) rfl rfl fun w0 X hX => ?_
  refine awc_seq ?_
  refine awc_region ?_
  refine awl_v (av_assign rfl) ?_
  refine awl_nil (athen_norm (awc_seq ?_))
  obtain ⟨x1, e2, hr⟩ := bnd_some hr
  obtain ⟨x3, e4, hr⟩ := bnd_some hr
  refine awc_draw mixed [0, 1, 2] [(true, .sl (.int .i64) p0), (true, .int .i64 p2), (true, .rp [.int .i64 x1]), (true, .int .i64 x1), (true, .sl (.int .i64) p1), (true, .int .i64 p2), (true, .rp [.int .i64 x3]), (true, .int .i64 x3), (true, .bool (decide (x1 ≤ x3))), (true, .bool (decide (x1 ≤ x3)))] [[], [], [0, 1], [2], [], [], [4, 5], [6], [3, 7], [8]] [9] rfl rfl rfl rfl rfl ⟨?_, ?_, ?_, ?_, ?_, ?_, ?_, ?_, ?_, ?_, trivial⟩ (allT_of ⟨rfl, trivial⟩) ?_
  · exact ob_v rfl (fun hg => allT_of trivial) (fun hg => av_move rfl)
  · exact ob_v rfl (fun hg => allT_of trivial) (fun hg => av_move rfl)
  · exact ob_v rfl (fun hg => allT_of ⟨rfl, rfl, trivial⟩) (fun hg => av_ia_sl (t := (.int .i64)) (e := x1) und22 sz3 rfl rfl e2)
  · exact ob_v rfl (fun hg => allT_of ⟨rfl, trivial⟩) (fun hg => av_load_rp ts3 rfl)
  · exact ob_v rfl (fun hg => allT_of trivial) (fun hg => av_move rfl)
  · exact ob_v rfl (fun hg => allT_of trivial) (fun hg => av_move rfl)
  · exact ob_v rfl (fun hg => allT_of ⟨rfl, rfl, trivial⟩) (fun hg => av_ia_sl (t := (.int .i64)) (e := x3) und22 sz3 rfl rfl e4)
  · exact ob_v rfl (fun hg => allT_of ⟨rfl, trivial⟩) (fun hg => av_load_rp ts3 rfl)
  · exact ob_v rfl (fun hg => allT_of ⟨rfl, rfl, trivial⟩) (fun hg => av_leq rfl rfl)
  · exact ob_v rfl (fun hg => allT_of ⟨rfl, trivial⟩) (fun hg => av_assign rfl)
  have hr := Option.some.inj hr
  subst hr
  exact athen_norm (awc_ret (ret_q (l' := [(6, .bool (decide (x1 ≤ x3)))]) (wk_of hX [] 4 rfl rfl ⟨⟨_, rfl, cv0⟩, trivial⟩ trivial) rfl ⟨rfl, trivial⟩))
theorem f70_runs {p0 : List Int} {p1 : List Int} {r : Bool} (hr : f70 p0 p1 = some r) : RunsP Try.prog 70 [.sl (.int .i64) p0, .sl (.int .i64) p1] [.bool r] := by
  refine runs_w Try.func70 Try.ntmps70 rfl (rs := [.tmp 4]) rfl rfl fun w0 X hX => ?_
  refine awc_seq ?_
  refine awc_region ?_
  refine awl_v (av_assign rfl) ?_
  refine awl_nil (athen_norm (awc_seq (awc_seq ?_)))
  refine awc_region ?_
  refine awl_v (av_move rfl) ?_
  refine awl_v (av_len_sl (t := (.int .i64)) rfl rfl und22 rfl) ?_
  refine awl_v (av_move rfl) ?_
  refine awl_nil (athen_norm (awc_block ?_))
  obtain ⟨o3, e4, hr⟩ := bnd_some hr
  refine awc_len (t := 0) rfl (fun hl => ?_)
  refine awc_range (S := Unit) (R := Unit) (List.length p0 : Int) (f70_b0 p0 p1) (fun p => match p with | (i1, ()) => (⟨[(0, .sl (.int .i64) p0), (1, .sl (.int .i64) p1), (4, .bool false), (7, .int .i64 (List.length p0 : Int)), (8, .int .i64 i1)], [], 0⟩ : AS)) (fun o e st => match o with | .inl () => e = .exit 0 ∧ Wk X st ⟨[(4, .bool false)], [], 0⟩ | .inr () => e = .ret ∧ Wk X st ⟨[(4, .bool false)], [], 0⟩) (len_ok hl) e4 (wk_of hX [] 4 rfl rfl ⟨⟨_, rfl, cv0⟩, ⟨_, rfl, cv0⟩, ⟨_, rfl, cv0⟩, ⟨_, rfl, cv0⟩, ⟨_, rfl, cv0⟩, trivial⟩ trivial) ?_ ?_
  · intro e st hx
    rcases o3 with _ | _
    · obtain ⟨rfl, hw⟩ := hx
      refine ablock_here (athen_norm ((awc_wk hw) (awc_seq ?_)))
      refine awc_region ?_
      refine awl_v (av_assign rfl) ?_
      have hr := Option.some.inj hr
      subst hr
      exact awl_nil (athen_norm (awc_ret (ret_q (l' := [(4, .bool true)]) (wk_of hX [] 4 rfl rfl ⟨⟨_, rfl, cv0⟩, trivial⟩ trivial) rfl ⟨rfl, trivial⟩)))
    · obtain ⟨rfl, hw⟩ := hx
      have hr := Option.some.inj hr
      subst hr
      exact ablock_ret (athen_ret (ret_q (l' := [(4, .bool false)]) (Wk.trans hw (wk_of hX [] 4 rfl rfl ⟨⟨_, rfl, cv0⟩, trivial⟩ trivial)) rfl ⟨rfl, trivial⟩))
  · rintro i1 _ o ho
    refine awc_seq ?_
    refine awc_region ?_
    refine awl_v (av_lss rfl rfl) ?_
    refine awl_nil (athen_norm (awc_seq ?_))
    refine awc_cond (b := decide (i1 < (List.length p0 : Int))) rfl (fun hc5 => ?_) (fun hc5 => ?_)
    · obtain ⟨q, hr, rfl⟩ := rb_t hc5 ho
      refine awc_skip (athen_norm (awc_seq (awc_block (awc_seq ?_))))
      refine awc_region ?_
      refine awl_v (av_move rfl) ?_
      refine awl_v (av_assign rfl) ?_
      refine awl_nil (athen_norm (awc_seq ?_))
      obtain ⟨x6, e7, hr⟩ := bnd_some hr
      obtain ⟨x8, e9, hr⟩ := bnd_some hr
      refine awc_draw mixed [0, 1, 4, 7, 8, 5] [(true, .sl (.int .i64) p0), (true, .int .i64 i1), (true, .rp [.int .i64 x6]), (true, .int .i64 x6), (true, .sl (.int .i64) p1), (true, .int .i64 i1), (true, .rp [.int .i64 x8]), (true, .int .i64 x8), (true, .bool (decide (x8 < x6)))] [[], [], [0, 1], [2], [], [], [4, 5], [6], [3, 7]] [8] rfl rfl rfl rfl rfl ⟨?_, ?_, ?_, ?_, ?_, ?_, ?_, ?_, ?_, trivial⟩ (allT_of ⟨rfl, trivial⟩) ?_
      · exact ob_v rfl (fun hg => allT_of trivial) (fun hg => av_move rfl)
      · exact ob_v rfl (fun hg => allT_of trivial) (fun hg => av_move rfl)
      · exact ob_v rfl (fun hg => allT_of ⟨rfl, rfl, trivial⟩) (fun hg => av_ia_sl (t := (.int .i64)) (e := x6) und22 sz3 rfl rfl e7)
      · exact ob_v rfl (fun hg => allT_of ⟨rfl, trivial⟩) (fun hg => av_load_rp ts3 rfl)
      · exact ob_v rfl (fun hg => allT_of trivial) (fun hg => av_move rfl)
      · exact ob_v rfl (fun hg => allT_of trivial) (fun hg => av_move rfl)
      · exact ob_v rfl (fun hg => allT_of ⟨rfl, rfl, trivial⟩) (fun hg => av_ia_sl (t := (.int .i64)) (e := x8) und22 sz3 rfl rfl e9)
      · exact ob_v rfl (fun hg => allT_of ⟨rfl, trivial⟩) (fun hg => av_load_rp ts3 rfl)
      · exact ob_v rfl (fun hg => allT_of ⟨rfl, rfl, trivial⟩) (fun hg => av_gtr rfl rfl)
      refine athen_norm ?_
      refine awc_cond (b := decide (x8 < x6)) rfl (fun hc10 => ?_) (fun hc10 => ?_)
      · have hr := if_t hc10 hr
        refine awc_seq ?_
        refine awc_region ?_
        refine awl_v (av_assign rfl) ?_
        have hr := Option.some.inj hr
        subst hr
        exact awl_nil (athen_norm (awc_ret (ablock_ret (athen_ret (⟨rfl, (wk_of hX [] 4 rfl rfl ⟨⟨_, rfl, cv0⟩, trivial⟩ trivial)⟩)))))
      · have hr := if_f hc10 hr
        refine awc_skip (ablock_norm (athen_norm ?_))
        refine awc_region ?_
        refine awl_v (av_add rfl rfl) ?_
        refine awl_v (av_move rfl) ?_
        have hr := Option.some.inj hr
        subst hr
        exact awl_nil ((wk_of hX [] 4 rfl rfl ⟨⟨_, rfl, cv0⟩, ⟨_, rfl, cv0⟩, ⟨_, rfl, cv0⟩, ⟨_, rfl, cv0⟩, ⟨_, rfl, cv0⟩, trivial⟩ trivial))
    · obtain rfl := rb_f hc5 ho
      exact awc_exit (athen_exit (⟨rfl, (wk_of hX [] 4 rfl rfl ⟨⟨_, rfl, cv0⟩, trivial⟩ trivial)⟩))
theorem f64_runs {p0 : List (Int × Int × Int × Int × Str)} {p1 : List (List Int)} {p2 : List Int} {r : Bool} (hr : f64 p0 p1 p2 = some r) : RunsP Try.prog 64 [.sl Y1 p0, .sl (.slice (.int .i64)) p1, .sl (.int .i64) p2] [.bool r] := by
  refine runs_w Try.func64 Try.ntmps64 rfl (rs := [.tmp 6]) rfl rfl fun w0 X hX => ?_
  refine awc_seq ?_
  refine awc_region ?_
  refine awl_v (av_assign rfl) ?_
  refine awl_nil (athen_norm (awc_seq (awc_seq ?_)))
  refine awc_region ?_
  refine awl_v (av_move rfl) ?_
  refine awl_v (av_len_sl (t := Y1) rfl rfl und30 rfl) ?_
  refine awl_v (av_move rfl) ?_
  refine awl_nil (athen_norm (awc_block ?_))
  obtain ⟨o3, e4, hr⟩ := bnd_some hr
  refine awc_len (t := 0) rfl (fun hl => ?_)
  refine awc_range (S := Unit) (R := Unit) (List.length p0 : Int) (f64_b0 p0 p1 p2) (fun p => match p with | (i1, ()) => (⟨[(1, .sl (.slice (.int .i64)) p1), (2, .sl (.int .i64) p2), (6, .bool false), (9, .sl Y1 p0), (10, .int .i64 (List.length p0 : Int)), (11, .int .i64 i1)], [], 0⟩ : AS)) (fun o e st => match o with | .inl () => e = .exit 0 ∧ Wk X st ⟨[(6, .bool false)], [], 0⟩ | .inr () => e = .ret ∧ Wk X st ⟨[(6, .bool false)], [], 0⟩) (len_ok hl) e4 (wk_of hX [] 4 rfl rfl ⟨⟨_, rfl, cv0⟩, ⟨_, rfl, cv0⟩, ⟨_, rfl, cv0⟩, ⟨_, rfl, cv0⟩, ⟨_, rfl, cv0⟩, ⟨_, rfl, cv0⟩, trivial⟩ trivial) ?_ ?_
  · intro e st hx
    rcases o3 with _ | _
    · obtain ⟨rfl, hw⟩ := hx
      refine ablock_here (athen_norm ((awc_wk hw) (awc_seq ?_)))
      refine awc_region ?_
      refine awl_v (av_assign rfl) ?_
      have hr := Option.some.inj hr
      subst hr
      exact awl_nil (athen_norm (awc_ret (ret_q (l' := [(6, .bool true)]) (wk_of hX [] 4 rfl rfl ⟨⟨_, rfl, cv0⟩, trivial⟩ trivial) rfl ⟨rfl, trivial⟩)))
    · obtain ⟨rfl, hw⟩ := hx
      have hr := Option.some.inj hr
      subst hr
      exact ablock_ret (athen_ret (ret_q (l' := [(6, .bool false)]) (Wk.trans hw (wk_of hX [] 4 rfl rfl ⟨⟨_, rfl, cv0⟩, trivial⟩ trivial)) rfl ⟨rfl, trivial⟩))
  · rintro i1 _ o ho
    refine awc_seq ?_
    refine awc_region ?_
    refine awl_v (av_lss rfl rfl) ?_
    refine awl_nil (athen_norm (awc_seq ?_))
    refine awc_cond (b := decide (i1 < (List.length p0 : Int))) rfl (fun hc5 => ?_) (fun hc5 => ?_)
    · obtain ⟨q, hr, rfl⟩ := rb_t hc5 ho
      refine awc_skip (athen_norm (awc_seq (awc_block (awc_seq ?_))))
      refine awc_region ?_
      refine awl_v (av_move rfl) ?_
      obtain ⟨x6, e7, hr⟩ := bnd_some hr
      refine awl_v (av_ia_sl (t := Y1) (e := x6) und30 sz50 rfl rfl e7) ?_
      refine awl_v (av_load_rpN ts50 rfl rfl rfl) ?_
      refine awl_op (aop_alloc zero50 rfl ?_)
      refine awl_v (av_assign rfl) ?_
      refine awl_op (aop_store sz50 rfl rfl rfl rfl rfl rfl rfl ?_)
      refine awl_nil (athen_norm (awc_seq ?_))
      obtain ⟨x8, e9, hr⟩ := bnd_some hr
      obtain ⟨x10, e11, hr⟩ := bnd_some hr
      obtain ⟨h12, hr⟩ := chk_some hr
      obtain ⟨h13, hr⟩ := chk_some hr
      refine awc_draw mixed [1, 2, 6, 9, 10, 11, 8, 7] [(true, .sl (.slice (.int .i64)) p1), (true, .int .i64 i1), (true, .rp [.sl (.int .i64) x8]), (true, .sl (.int .i64) x8), (true, .sl (.int .i64) p2), (true, .ptr 0 0), (true, .int .i64 x6.1), (true, .bool x10), (true, .bool x10), (x10, .sl (.slice (.int .i64)) p1), (x10, .int .i64 i1), (x10, .rp [.sl (.int .i64) ((ix p1 i1).getD default)]), (x10, .sl (.int .i64) ((ix p1 i1).getD default)), (x10, .sl (.int .i64) p2), (x10, .bool ((f70 ((ix p1 i1).getD default) p2).getD default)), (x10, .bool (!((f70 ((ix p1 i1).getD default) p2).getD default))), (true, .bool (x10 && (!((f70 ((ix p1 i1).getD default) p2).getD default))))] [[], [], [0, 1], [2], [], [], [5], [3, 4, 6], [7], [8], [8], [9, 10, 8], [11, 8], [8], [12, 13, 8], [14, 8], [15, 8]] [16] rfl rfl rfl rfl rfl ⟨?_, ?_, ?_, ?_, ?_, ?_, ?_, ?_, ?_, ?_, ?_, ?_, ?_, ?_, ?_, ?_, ?_, trivial⟩ (allT_of ⟨rfl, trivial⟩) ?_
      · exact ob_v rfl (fun hg => allT_of trivial) (fun hg => av_move rfl)
      · exact ob_v rfl (fun hg => allT_of trivial) (fun hg => av_move rfl)
      · exact ob_v rfl (fun hg => allT_of ⟨rfl, rfl, trivial⟩) (fun hg => av_ia_sl (t := (.slice (.int .i64))) (e := x8) und34 sz22 rfl rfl e9)
      · exact ob_v rfl (fun hg => allT_of ⟨rfl, trivial⟩) (fun hg => av_load_rp ts22 rfl)
      · exact ob_v rfl (fun hg => allT_of trivial) (fun hg => av_move rfl)
      · exact ob_v rfl (fun hg => allT_of trivial) (fun hg => av_fa_ptr fa50_0 rfl rfl)
      · exact ob_v rfl (fun hg => allT_of ⟨rfl, trivial⟩) (fun hg => av_load_ptr ts3 rfl rfl rfl)
      · exact ob_v rfl (fun hg => allT_of ⟨rfl, rfl, rfl, trivial⟩) (fun hg => av_call (f69_runs e11) ent69 rfl rfl)
      · exact ob_v rfl (fun hg => allT_of ⟨rfl, trivial⟩) (fun hg => av_move rfl)
      · exact ob_v ⟨rfl, rfl, rfl, _, rfl, rfl⟩ (fun hg => allT_of ⟨rfl, trivial⟩) (fun hg => av_move rfl)
      · exact ob_v ⟨rfl, rfl, rfl, _, rfl, rfl⟩ (fun hg => allT_of ⟨rfl, trivial⟩) (fun hg => av_move rfl)
      · exact ob_v ⟨rfl, rfl, rfl, _, rfl, rfl⟩ (fun hg => allT_of ⟨hg, hg, rfl, trivial⟩) (fun hg => av_ia_sl (t := (.slice (.int .i64))) (e := ((ix p1 i1).getD default)) und34 sz22 rfl rfl (get_g h12 hg))
      · exact ob_v ⟨rfl, rfl, rfl, _, rfl, rfl⟩ (fun hg => allT_of ⟨hg, rfl, trivial⟩) (fun hg => av_load_rp ts22 rfl)
      · exact ob_v ⟨rfl, rfl, rfl, _, rfl, rfl⟩ (fun hg => allT_of ⟨rfl, trivial⟩) (fun hg => av_move rfl)
      · exact ob_v ⟨rfl, rfl, rfl, _, rfl, rfl⟩ (fun hg => allT_of ⟨hg, hg, rfl, trivial⟩) (fun hg => av_call (f70_runs (get_g h13 hg)) ent70 rfl rfl)
      · exact ob_v ⟨rfl, rfl, rfl, _, rfl, rfl⟩ (fun hg => allT_of ⟨hg, rfl, trivial⟩) (fun hg => av_not rfl)
      · exact ob_pick (b := true) (p := x10) (q := !((f70 ((ix p1 i1).getD default) p2).getD default)) rfl rfl rfl (fun hg => allT_of ⟨rfl, trivial⟩) rfl rfl rfl rfl rfl
      refine athen_norm ?_
      refine awc_cond (b := x10 && (!((f70 ((ix p1 i1).getD default) p2).getD default))) rfl (fun hc14 => ?_) (fun hc14 => ?_)
      · have hr := if_t hc14 hr
        refine awc_seq ?_
        refine awc_region ?_
        refine awl_v (av_assign rfl) ?_
        have hr := Option.some.inj hr
        subst hr
        exact awl_nil (athen_norm (awc_ret (ablock_ret (athen_ret (⟨rfl, (wk_of hX [] 4 rfl rfl ⟨⟨_, rfl, cv0⟩, trivial⟩ trivial)⟩)))))
      · have hr := if_f hc14 hr
        refine awc_skip (ablock_norm (athen_norm ?_))
        refine awc_region ?_
        refine awl_v (av_add rfl rfl) ?_
        refine awl_v (av_move rfl) ?_
        have hr := Option.some.inj hr
        subst hr
        exact awl_nil ((wk_of hX [] 4 rfl rfl ⟨⟨_, rfl, cv0⟩, ⟨_, rfl, cv0⟩, ⟨_, rfl, cv0⟩, ⟨_, rfl, cv0⟩, ⟨_, rfl, cv0⟩, ⟨_, rfl, cv0⟩, trivial⟩ trivial))
    · obtain rfl := rb_f hc5 ho
      exact awc_exit (athen_exit (⟨rfl, (wk_of hX [] 4 rfl rfl ⟨⟨_, rfl, cv0⟩, trivial⟩ trivial)⟩))
theorem f32_runs {p0 : Int} {p1 : List (Int × Int × Int × Int × Str)} {p2 : List Int} {r : Bool × Int} (hr : f32 p0 p1 p2 = some r) : RunsP Try.prog 32 [.int .i64 p0, .sl Y1 p1, .sl (.int .i64) p2] [.bool r.1, .int .i64 r.2] := by
  refine runs_w Try.func32 Try.ntmps32 rfl (rs := [.tmp 6, .tmp 7]) rfl rfl fun w0 X hX => ?_
  refine awc_seq ?_
  refine awc_region ?_
  refine awl_v (av_assign rfl) ?_
  refine awl_v (av_assign rfl) ?_
  refine awl_nil (athen_norm (awc_seq (awc_seq ?_)))
  refine awc_region ?_
  refine awl_v (av_move rfl) ?_
  refine awl_v (av_move rfl) ?_
  refine awl_v (av_move rfl) ?_
  obtain ⟨x1, e2, hr⟩ := bnd_some hr
  refine awl_v (av_call (f63_runs e2) ent63 rfl rfl) ?_
  refine awl_v (av_assign rfl) ?_
  refine awl_nil (athen_norm (awc_seq ?_))
  refine awc_region ?_
  refine awl_v (av_move rfl) ?_
  refine awl_v (av_neq rfl rfl) ?_
  refine awl_nil (athen_norm ?_)
  refine awc_cond (b := !decide (x1 = 0)) rfl (fun hc3 => ?_) (fun hc3 => ?_)
  · have hr := if_t hc3 hr
    refine awc_seq ?_
    refine awc_region ?_
    refine awl_v (av_move rfl) ?_
    refine awl_v (av_assign rfl) ?_
    refine awl_v (av_assign rfl) ?_
    have hr := Option.some.inj hr
    subst hr
    exact awl_nil (athen_norm (awc_ret (athen_ret (ret_q (l' := [(6, .bool false), (7, .int .i64 x1)]) (wk_of hX [] 4 rfl rfl ⟨⟨_, rfl, cv0⟩, ⟨_, rfl, cv0⟩, trivial⟩ trivial) rfl ⟨rfl, rfl, trivial⟩))))
  · have hr := if_f hc3 hr
    refine awc_skip (athen_norm (awc_seq ?_))
    refine awc_region ?_
    refine awl_v (av_move rfl) ?_
    refine awl_v (av_move rfl) ?_
    refine awl_v (av_move rfl) ?_
    obtain ⟨x4, e5, hr⟩ := bnd_some hr
    refine awl_v (av_call (f52_runs e5) ent52 rfl rfl) ?_
    refine awl_v (av_move rfl) ?_
    obtain ⟨x6, e7, hr⟩ := bnd_some hr
    refine awl_v (av_call (f64_runs e7) ent64 rfl rfl) ?_
    refine awl_v (av_assign rfl) ?_
    refine awl_v (av_assign rfl) ?_
    have hr := Option.some.inj hr
    subst hr
    exact awl_nil (athen_norm (awc_ret (ret_q (l' := [(6, .bool x6), (7, .int .i64 0)]) (wk_of hX [] 4 rfl rfl ⟨⟨_, rfl, cv0⟩, ⟨_, rfl, cv0⟩, trivial⟩ trivial) rfl ⟨rfl, rfl, trivial⟩)))
end Go.Ab

set_option linter.unusedVariables false
set_option maxRecDepth 100000
namespace Go.Ab
open Go.RowKit Go.Shelf Go.Proofs Go.Eng
theorem ent44 : Enters Try.prog 44 := enters_of Try.func44 (by kernel_rfl) rfl
theorem ent24 : Enters Try.prog 24 := enters_of Try.func24 (by kernel_rfl) rfl
theorem ent19 : Enters Try.prog 19 := enters_of Try.func19 (by kernel_rfl) rfl
theorem ent32 : Enters Try.prog 32 := enters_of Try.func32 (by kernel_rfl) rfl
theorem ent13 : Enters Try.prog 13 := enters_of Try.func13 (by kernel_rfl) rfl
theorem ent50 : Enters Try.prog 50 := enters_of Try.func50 (by kernel_rfl) rfl
theorem ent51 : Enters Try.prog 51 := enters_of Try.func51 (by kernel_rfl) rfl
theorem ent16 : Enters Try.prog 16 := enters_of Try.func16 (by kernel_rfl) rfl
theorem ent18 : Enters Try.prog 18 := enters_of Try.func18 (by kernel_rfl) rfl
theorem und38 : Und Try.prog 38 (.slice 40) := by unfold Und; kernel_rfl
theorem zt40 : ZeroT Try.prog 40 (.slice .bool) 24 := zeroT_of (z := .slice none 0 0) (by kernel_rfl) rfl
theorem und40 : Und Try.prog 40 (.slice 4) := by unfold Und; kernel_rfl
theorem zt4 : ZeroT Try.prog 4 .bool 1 := zeroT_of (z := .bool false) (by kernel_rfl) rfl
theorem sz40 : Sz Try.prog 40 1 := fun w => by kernel_rfl
theorem ent56 : Enters Try.prog 56 := enters_of Try.func56 (by kernel_rfl) rfl
theorem ts40 : TyS Try.prog 40 false 1 := ⟨fun w => by kernel_rfl, fun w => by kernel_rfl⟩
theorem sz4 : Sz Try.prog 4 1 := fun w => by kernel_rfl
theorem ts4 : TyS Try.prog 4 false 1 := ⟨fun w => by kernel_rfl, fun w => by kernel_rfl⟩
theorem ent53 : Enters Try.prog 53 := enters_of Try.func53 (by kernel_rfl) rfl
theorem ent23 : Enters Try.prog 23 := enters_of Try.func23 (by kernel_rfl) rfl
theorem f13_runs {p0 : List Int} {p1 : List Int} {r : Bool} (hr : f13 p0 p1 = some r) : RunsP Try.prog 13 [.sl (.int .i64) p0, .sl (.int .i64) p1] [.bool r] := by
  refine runs_w Try.func13 Try.ntmps13 rfl (rs := [.tmp 4]) rfl rfl fun w0 X hX => ?_
  refine awc_seq ?_
  refine awc_region ?_
  refine awl_v (av_assign rfl) ?_
  refine awl_nil (athen_norm (awc_seq (awc_seq ?_)))
  refine awc_region ?_
  refine awl_v (av_move rfl) ?_
  refine awl_v (av_len_sl (t := (.int .i64)) rfl rfl und22 rfl) ?_
  refine awl_v (av_move rfl) ?_
  refine awl_v (av_len_sl (t := (.int .i64)) rfl rfl und22 rfl) ?_
  refine awl_v (av_neq rfl rfl) ?_
  refine awl_nil (athen_norm ?_)
  refine awc_cond (b := !decide ((List.length p0 : Int) = (List.length p1 : Int))) rfl (fun hc1 => ?_) (fun hc1 => ?_)
  · have hr := if_t hc1 hr
    refine awc_seq ?_
    refine awc_region ?_
    refine awl_v (av_assign rfl) ?_
    have hr := Option.some.inj hr
    subst hr
    exact awl_nil (athen_norm (awc_ret (athen_ret (ret_q (l' := [(4, .bool false)]) (wk_of hX [] 4 rfl rfl ⟨⟨_, rfl, cv0⟩, trivial⟩ trivial) rfl ⟨rfl, trivial⟩))))
  · have hr := if_f hc1 hr
    refine awc_skip (athen_norm (awc_seq (awc_seq ?_)))
    refine awc_region ?_
    refine awl_v (av_move rfl) ?_
    refine awl_v (av_len_sl (t := (.int .i64)) rfl rfl und22 rfl) ?_
    refine awl_v (av_move rfl) ?_
    refine awl_nil (athen_norm (awc_block ?_))
    obtain ⟨o4, e5, hr⟩ := bnd_some hr
    refine awc_len (t := 0) rfl (fun hl => ?_)
    refine awc_range (S := Unit) (R := Unit) (List.length p0 : Int) (f13_b0 p0 p1) (fun p => match p with | (i2, ()) => (⟨[(0, .sl (.int .i64) p0), (1, .sl (.int .i64) p1), (4, .bool false), (12, .int .i64 (List.length p0 : Int)), (13, .int .i64 i2)], [], 0⟩ : AS)) (fun o e st => match o with | .inl () => e = .exit 0 ∧ Wk X st ⟨[(4, .bool false)], [], 0⟩ | .inr () => e = .ret ∧ Wk X st ⟨[(4, .bool false)], [], 0⟩) (len_ok hl) e5 (wk_of hX [] 4 rfl rfl ⟨⟨_, rfl, cv0⟩, ⟨_, rfl, cv0⟩, ⟨_, rfl, cv0⟩, ⟨_, rfl, cv0⟩, ⟨_, rfl, cv0⟩, trivial⟩ trivial) ?_ ?_
    · intro e st hx
      rcases o4 with _ | _
      · obtain ⟨rfl, hw⟩ := hx
        refine ablock_here (athen_norm ((awc_wk hw) (awc_seq ?_)))
        refine awc_region ?_
        refine awl_v (av_assign rfl) ?_
        have hr := Option.some.inj hr
        subst hr
        exact awl_nil (athen_norm (awc_ret (ret_q (l' := [(4, .bool true)]) (wk_of hX [] 4 rfl rfl ⟨⟨_, rfl, cv0⟩, trivial⟩ trivial) rfl ⟨rfl, trivial⟩)))
      · obtain ⟨rfl, hw⟩ := hx
        have hr := Option.some.inj hr
        subst hr
        exact ablock_ret (athen_ret (ret_q (l' := [(4, .bool false)]) (Wk.trans hw (wk_of hX [] 4 rfl rfl ⟨⟨_, rfl, cv0⟩, trivial⟩ trivial)) rfl ⟨rfl, trivial⟩))
    · rintro i2 _ o ho
      refine awc_seq ?_
      refine awc_region ?_
      refine awl_v (av_lss rfl rfl) ?_
      refine awl_nil (athen_norm (awc_seq ?_))
      refine awc_cond (b := decide (i2 < (List.length p0 : Int))) rfl (fun hc6 => ?_) (fun hc6 => ?_)
      · obtain ⟨q, hr, rfl⟩ := rb_t hc6 ho
        refine awc_skip (athen_norm (awc_seq (awc_block (awc_seq ?_))))
        refine awc_region ?_
        refine awl_v (av_move rfl) ?_
        refine awl_v (av_assign rfl) ?_
        refine awl_nil (athen_norm (awc_seq ?_))
        obtain ⟨x7, e8, hr⟩ := bnd_some hr
        obtain ⟨x9, e10, hr⟩ := bnd_some hr
        refine awc_draw mixed [0, 1, 4, 12, 13, 5] [(true, .sl (.int .i64) p0), (true, .int .i64 i2), (true, .rp [.int .i64 x7]), (true, .int .i64 x7), (true, .sl (.int .i64) p1), (true, .int .i64 i2), (true, .rp [.int .i64 x9]), (true, .int .i64 x9), (true, .bool (!decide (x7 = x9)))] [[], [], [0, 1], [2], [], [], [4, 5], [6], [3, 7]] [8] rfl rfl rfl rfl rfl ⟨?_, ?_, ?_, ?_, ?_, ?_, ?_, ?_, ?_, trivial⟩ (allT_of ⟨rfl, trivial⟩) ?_
        · exact ob_v rfl (fun hg => allT_of trivial) (fun hg => av_move rfl)
        · exact ob_v rfl (fun hg => allT_of trivial) (fun hg => av_move rfl)
        · exact ob_v rfl (fun hg => allT_of ⟨rfl, rfl, trivial⟩) (fun hg => av_ia_sl (t := (.int .i64)) (e := x7) und22 sz3 rfl rfl e8)
        · exact ob_v rfl (fun hg => allT_of ⟨rfl, trivial⟩) (fun hg => av_load_rp ts3 rfl)
        · exact ob_v rfl (fun hg => allT_of trivial) (fun hg => av_move rfl)
        · exact ob_v rfl (fun hg => allT_of trivial) (fun hg => av_move rfl)
        · exact ob_v rfl (fun hg => allT_of ⟨rfl, rfl, trivial⟩) (fun hg => av_ia_sl (t := (.int .i64)) (e := x9) und22 sz3 rfl rfl e10)
        · exact ob_v rfl (fun hg => allT_of ⟨rfl, trivial⟩) (fun hg => av_load_rp ts3 rfl)
        · exact ob_v rfl (fun hg => allT_of ⟨rfl, rfl, trivial⟩) (fun hg => av_neq rfl rfl)
        refine athen_norm ?_
        refine awc_cond (b := !decide (x7 = x9)) rfl (fun hc11 => ?_) (fun hc11 => ?_)
        · have hr := if_t hc11 hr
          refine awc_seq ?_
          refine awc_region ?_
          refine awl_v (av_assign rfl) ?_
          have hr := Option.some.inj hr
          subst hr
          exact awl_nil (athen_norm (awc_ret (ablock_ret (athen_ret (⟨rfl, (wk_of hX [] 4 rfl rfl ⟨⟨_, rfl, cv0⟩, trivial⟩ trivial)⟩)))))
        · have hr := if_f hc11 hr
          refine awc_skip (ablock_norm (athen_norm ?_))
          refine awc_region ?_
          refine awl_v (av_add rfl rfl) ?_
          refine awl_v (av_move rfl) ?_
          have hr := Option.some.inj hr
          subst hr
          exact awl_nil ((wk_of hX [] 4 rfl rfl ⟨⟨_, rfl, cv0⟩, ⟨_, rfl, cv0⟩, ⟨_, rfl, cv0⟩, ⟨_, rfl, cv0⟩, ⟨_, rfl, cv0⟩, trivial⟩ trivial))
      · obtain rfl := rb_f hc6 ho
        exact awc_exit (athen_exit (⟨rfl, (wk_of hX [] 4 rfl rfl ⟨⟨_, rfl, cv0⟩, trivial⟩ trivial)⟩))
theorem f8_runs {r : Bool} (hr : f8 = some r) : RunsP Try.prog 8 [] [.bool r] := by
  refine runs_w Try.func8 Try.ntmps8 rfl (rs := [.tmp 0]) rfl rfl fun w0 X hX => ?_
  refine awc_seq ?_
  refine awc_region ?_
  refine awl_v (av_assign rfl) ?_
  refine awl_nil (athen_norm (awc_seq ?_))
  refine awc_region ?_
  obtain ⟨x1, e2, hr⟩ := bnd_some hr
  refine awl_v (av_call (f44_runs e2) ent44 rfl rfl) ?_
  obtain ⟨x3, e4, hr⟩ := bnd_some hr
  refine awl_v (av_call (f24_runs e4) ent24 rfl rfl) ?_
  refine awl_v (av_move rfl) ?_
  refine awl_v (av_extract rfl rfl) ?_
  refine awl_v (av_extract rfl rfl) ?_
  refine awl_v (av_assign rfl) ?_
  refine awl_v (av_assign rfl) ?_
  refine awl_nil (athen_norm (awc_seq ?_))
  refine awc_region ?_
  obtain ⟨x5, e6, hr⟩ := bnd_some hr
  refine awl_v (av_call (f44_runs e6) ent44 rfl rfl) ?_
  obtain ⟨x7, e8, hr⟩ := bnd_some hr
  refine awl_v (av_call (f19_runs e8) ent19 rfl rfl) ?_
  refine awl_v (av_move rfl) ?_
  refine awl_v (av_extract rfl rfl) ?_
  refine awl_v (av_extract rfl rfl) ?_
  refine awl_v (av_assign rfl) ?_
  refine awl_v (av_assign rfl) ?_
  refine awl_nil (athen_norm (awc_seq ?_))
  refine awc_region ?_
  obtain ⟨x9, e10, hr⟩ := bnd_some hr
  refine awl_v (av_call (f44_runs e10) ent44 rfl rfl) ?_
  refine awl_v (av_buildSlice (t := (.int .i64)) (qs := [(0, [.int .i64 0]), (1, [.int .i64 2])]) (ys := [0, 2]) bs22 rfl rfl rfl rfl rfl rfl rfl rfl) ?_
  obtain ⟨x11, e12, hr⟩ := bnd_some hr
  refine awl_v (av_call (f32_runs e12) ent32 rfl rfl) ?_
  refine awl_v (av_move rfl) ?_
  refine awl_v (av_extract rfl rfl) ?_
  refine awl_v (av_extract rfl rfl) ?_
  refine awl_v (av_assign rfl) ?_
  refine awl_v (av_assign rfl) ?_
  refine awl_nil (athen_norm (awc_seq ?_))
  obtain ⟨h13, hr⟩ := chk_some hr
  obtain ⟨h14, hr⟩ := chk_some hr
  refine awc_text [1, 2, 3, 4, 5, 6] [(true, .int .i64 x3.2), (true, .bool (decide (x3.2 = 0))), (true, .bool (decide (x3.2 = 0))), (decide (x3.2 = 0), .bool x3.1), (true, .bool ((decide (x3.2 = 0)) && x3.1)), (true, .bool ((decide (x3.2 = 0)) && x3.1)), ((decide (x3.2 = 0)) && x3.1, .int .i64 x7.2), ((decide (x3.2 = 0)) && x3.1, .bool (decide (x7.2 = 0))), (true, .bool (((decide (x3.2 = 0)) && x3.1) && (decide (x7.2 = 0)))), (true, .bool (((decide (x3.2 = 0)) && x3.1) && (decide (x7.2 = 0)))), (((decide (x3.2 = 0)) && x3.1) && (decide (x7.2 = 0)), .sl (.slice (.int .i64)) x7.1), (((decide (x3.2 = 0)) && x3.1) && (decide (x7.2 = 0)), .int .i64 (List.length x7.1 : Int)), (((decide (x3.2 = 0)) && x3.1) && (decide (x7.2 = 0)), .bool (decide ((List.length x7.1 : Int) = 4))), (true, .bool ((((decide (x3.2 = 0)) && x3.1) && (decide (x7.2 = 0))) && (decide ((List.length x7.1 : Int) = 4)))), (true, .bool ((((decide (x3.2 = 0)) && x3.1) && (decide (x7.2 = 0))) && (decide ((List.length x7.1 : Int) = 4)))), ((((decide (x3.2 = 0)) && x3.1) && (decide (x7.2 = 0))) && (decide ((List.length x7.1 : Int) = 4)), .sl (.slice (.int .i64)) x7.1), ((((decide (x3.2 = 0)) && x3.1) && (decide (x7.2 = 0))) && (decide ((List.length x7.1 : Int) = 4)), .rp [.sl (.int .i64) ((ix x7.1 3).getD default)]), ((((decide (x3.2 = 0)) && x3.1) && (decide (x7.2 = 0))) && (decide ((List.length x7.1 : Int) = 4)), .sl (.int .i64) ((ix x7.1 3).getD default)), ((((decide (x3.2 = 0)) && x3.1) && (decide (x7.2 = 0))) && (decide ((List.length x7.1 : Int) = 4)), .sl (.int .i64) [2, 2]), ((((decide (x3.2 = 0)) && x3.1) && (decide (x7.2 = 0))) && (decide ((List.length x7.1 : Int) = 4)), .bool ((f13 ((ix x7.1 3).getD default) [2, 2]).getD default)), (true, .bool (((((decide (x3.2 = 0)) && x3.1) && (decide (x7.2 = 0))) && (decide ((List.length x7.1 : Int) = 4))) && ((f13 ((ix x7.1 3).getD default) [2, 2]).getD default))), (true, .bool (((((decide (x3.2 = 0)) && x3.1) && (decide (x7.2 = 0))) && (decide ((List.length x7.1 : Int) = 4))) && ((f13 ((ix x7.1 3).getD default) [2, 2]).getD default))), (((((decide (x3.2 = 0)) && x3.1) && (decide (x7.2 = 0))) && (decide ((List.length x7.1 : Int) = 4))) && ((f13 ((ix x7.1 3).getD default) [2, 2]).getD default), .int .i64 x11.2), (((((decide (x3.2 = 0)) && x3.1) && (decide (x7.2 = 0))) && (decide ((List.length x7.1 : Int) = 4))) && ((f13 ((ix x7.1 3).getD default) [2, 2]).getD default), .bool (decide (x11.2 = 0))), (true, .bool ((((((decide (x3.2 = 0)) && x3.1) && (decide (x7.2 = 0))) && (decide ((List.length x7.1 : Int) = 4))) && ((f13 ((ix x7.1 3).getD default) [2, 2]).getD default)) && (decide (x11.2 = 0)))), (true, .bool ((((((decide (x3.2 = 0)) && x3.1) && (decide (x7.2 = 0))) && (decide ((List.length x7.1 : Int) = 4))) && ((f13 ((ix x7.1 3).getD default) [2, 2]).getD default)) && (decide (x11.2 = 0)))), ((((((decide (x3.2 = 0)) && x3.1) && (decide (x7.2 = 0))) && (decide ((List.length x7.1 : Int) = 4))) && ((f13 ((ix x7.1 3).getD default) [2, 2]).getD default)) && (decide (x11.2 = 0)), .bool x11.1), ((((((decide (x3.2 = 0)) && x3.1) && (decide (x7.2 = 0))) && (decide ((List.length x7.1 : Int) = 4))) && ((f13 ((ix x7.1 3).getD default) [2, 2]).getD default)) && (decide (x11.2 = 0)), .bool (!x11.1)), (true, .bool (((((((decide (x3.2 = 0)) && x3.1) && (decide (x7.2 = 0))) && (decide ((List.length x7.1 : Int) = 4))) && ((f13 ((ix x7.1 3).getD default) [2, 2]).getD default)) && (decide (x11.2 = 0))) && (!x11.1))), (true, .bool (((((((decide (x3.2 = 0)) && x3.1) && (decide (x7.2 = 0))) && (decide ((List.length x7.1 : Int) = 4))) && ((f13 ((ix x7.1 3).getD default) [2, 2]).getD default)) && (decide (x11.2 = 0))) && (!x11.1)))] [[], [0], [1], [2], [3, 2], [4], [5], [6, 5], [7, 5], [8], [9], [10, 9], [11, 9], [12, 9], [13], [14], [15, 14], [16, 14], [14], [17, 18, 14], [19, 14], [20], [21], [22, 21], [23, 21], [24], [25], [26, 25], [27, 25], [28]] [29] rfl rfl rfl rfl rfl ⟨?_, ?_, ?_, ?_, ?_, ?_, ?_, ?_, ?_, ?_, ?_, ?_, ?_, ?_, ?_, ?_, ?_, ?_, ?_, ?_, ?_, ?_, ?_, ?_, ?_, ?_, ?_, ?_, ?_, ?_, trivial⟩ (allT_of ⟨rfl, trivial⟩) ?_
  · exact ob_v rfl (fun hg => allT_of trivial) (fun hg => av_move rfl)
  · exact ob_v rfl (fun hg => allT_of ⟨rfl, trivial⟩) (fun hg => av_eql rfl rfl)
  · exact ob_v rfl (fun hg => allT_of ⟨rfl, trivial⟩) (fun hg => av_move rfl)
  · exact ob_v ⟨rfl, rfl, rfl, _, rfl, rfl⟩ (fun hg => allT_of ⟨rfl, trivial⟩) (fun hg => av_move rfl)
  · exact ob_pick (b := true) (p := decide (x3.2 = 0)) (q := x3.1) rfl rfl rfl (fun hg => allT_of ⟨rfl, trivial⟩) rfl rfl rfl rfl rfl
  · exact ob_v rfl (fun hg => allT_of ⟨rfl, trivial⟩) (fun hg => av_move rfl)
  · exact ob_v ⟨rfl, rfl, rfl, _, rfl, rfl⟩ (fun hg => allT_of ⟨rfl, trivial⟩) (fun hg => av_move rfl)
  · exact ob_v ⟨rfl, rfl, rfl, _, rfl, rfl⟩ (fun hg => allT_of ⟨hg, rfl, trivial⟩) (fun hg => av_eql rfl rfl)
  · exact ob_pick (b := true) (p := (decide (x3.2 = 0)) && x3.1) (q := decide (x7.2 = 0)) rfl rfl rfl (fun hg => allT_of ⟨rfl, trivial⟩) rfl rfl rfl rfl rfl
  · exact ob_v rfl (fun hg => allT_of ⟨rfl, trivial⟩) (fun hg => av_move rfl)
  · exact ob_v ⟨rfl, rfl, rfl, _, rfl, rfl⟩ (fun hg => allT_of ⟨rfl, trivial⟩) (fun hg => av_move rfl)
  · exact ob_v ⟨rfl, rfl, rfl, _, rfl, rfl⟩ (fun hg => allT_of ⟨hg, rfl, trivial⟩) (fun hg => av_len_sl (t := (.slice (.int .i64))) rfl rfl und34 rfl)
  · exact ob_v ⟨rfl, rfl, rfl, _, rfl, rfl⟩ (fun hg => allT_of ⟨hg, rfl, trivial⟩) (fun hg => av_eql rfl rfl)
  · exact ob_pick (b := true) (p := ((decide (x3.2 = 0)) && x3.1) && (decide (x7.2 = 0))) (q := decide ((List.length x7.1 : Int) = 4)) rfl rfl rfl (fun hg => allT_of ⟨rfl, trivial⟩) rfl rfl rfl rfl rfl
  · exact ob_v rfl (fun hg => allT_of ⟨rfl, trivial⟩) (fun hg => av_move rfl)
  · exact ob_v ⟨rfl, rfl, rfl, _, rfl, rfl⟩ (fun hg => allT_of ⟨rfl, trivial⟩) (fun hg => av_move rfl)
  · exact ob_v ⟨rfl, rfl, rfl, _, rfl, rfl⟩ (fun hg => allT_of ⟨hg, rfl, trivial⟩) (fun hg => av_ia_sl (t := (.slice (.int .i64))) (e := ((ix x7.1 3).getD default)) und34 sz22 rfl rfl (get_g h13 hg))
  · exact ob_v ⟨rfl, rfl, rfl, _, rfl, rfl⟩ (fun hg => allT_of ⟨hg, rfl, trivial⟩) (fun hg => av_load_rp ts22 rfl)
  · exact ob_v ⟨rfl, rfl, rfl, _, rfl, rfl⟩ (fun hg => allT_of ⟨rfl, trivial⟩) (fun hg => av_buildSlice (t := (.int .i64)) (qs := [(0, [.int .i64 2]), (1, [.int .i64 2])]) (ys := [2, 2]) bs22 rfl rfl rfl rfl rfl rfl rfl rfl)
  · exact ob_v ⟨rfl, rfl, rfl, _, rfl, rfl⟩ (fun hg => allT_of ⟨hg, hg, rfl, trivial⟩) (fun hg => av_call (f13_runs (get_g h14 hg)) ent13 rfl rfl)
  · exact ob_pick (b := true) (p := (((decide (x3.2 = 0)) && x3.1) && (decide (x7.2 = 0))) && (decide ((List.length x7.1 : Int) = 4))) (q := ((f13 ((ix x7.1 3).getD default) [2, 2]).getD default)) rfl rfl rfl (fun hg => allT_of ⟨rfl, trivial⟩) rfl rfl rfl rfl rfl
  · exact ob_v rfl (fun hg => allT_of ⟨rfl, trivial⟩) (fun hg => av_move rfl)
  · exact ob_v ⟨rfl, rfl, rfl, _, rfl, rfl⟩ (fun hg => allT_of ⟨rfl, trivial⟩) (fun hg => av_move rfl)
  · exact ob_v ⟨rfl, rfl, rfl, _, rfl, rfl⟩ (fun hg => allT_of ⟨hg, rfl, trivial⟩) (fun hg => av_eql rfl rfl)
  · exact ob_pick (b := true) (p := ((((decide (x3.2 = 0)) && x3.1) && (decide (x7.2 = 0))) && (decide ((List.length x7.1 : Int) = 4))) && ((f13 ((ix x7.1 3).getD default) [2, 2]).getD default)) (q := decide (x11.2 = 0)) rfl rfl rfl (fun hg => allT_of ⟨rfl, trivial⟩) rfl rfl rfl rfl rfl
  · exact ob_v rfl (fun hg => allT_of ⟨rfl, trivial⟩) (fun hg => av_move rfl)
  · exact ob_v ⟨rfl, rfl, rfl, _, rfl, rfl⟩ (fun hg => allT_of ⟨rfl, trivial⟩) (fun hg => av_move rfl)
  · exact ob_v ⟨rfl, rfl, rfl, _, rfl, rfl⟩ (fun hg => allT_of ⟨hg, rfl, trivial⟩) (fun hg => av_not rfl)
  · exact ob_pick (b := true) (p := (((((decide (x3.2 = 0)) && x3.1) && (decide (x7.2 = 0))) && (decide ((List.length x7.1 : Int) = 4))) && ((f13 ((ix x7.1 3).getD default) [2, 2]).getD default)) && (decide (x11.2 = 0))) (q := !x11.1) rfl rfl rfl (fun hg => allT_of ⟨rfl, trivial⟩) rfl rfl rfl rfl rfl
  · exact ob_v rfl (fun hg => allT_of ⟨rfl, trivial⟩) (fun hg => av_assign rfl)
  have hr := Option.some.inj hr
  subst hr
  exact athen_norm (awc_ret (ret_q (l' := [(0, .bool (((((((decide (x3.2 = 0)) && x3.1) && (decide (x7.2 = 0))) && (decide ((List.length x7.1 : Int) = 4))) && ((f13 ((ix x7.1 3).getD default) [2, 2]).getD default)) && (decide (x11.2 = 0))) && (!x11.1)))]) (wk_of hX [] 4 rfl rfl ⟨⟨_, rfl, cv0⟩, trivial⟩ trivial) rfl ⟨rfl, trivial⟩))
theorem f14_runs {p0 : List (Int × Int × Int × Int × Str)} {r : Bool} (hr : f14 p0 = some r) : RunsP Try.prog 14 [.sl Y1 p0] [.bool r] := by
  refine runs_w Try.func14 Try.ntmps14 rfl (rs := [.tmp 2]) rfl rfl fun w0 X hX => ?_
  refine awc_seq ?_
  refine awc_region ?_
  refine awl_v (av_assign rfl) ?_
  refine awl_nil (athen_norm (awc_seq (awc_seq ?_)))
  refine awc_region ?_
  refine awl_v (av_move rfl) ?_
  refine awl_v (av_len_sl (t := Y1) rfl rfl und30 rfl) ?_
  refine awl_v (av_move rfl) ?_
  refine awl_nil (athen_norm (awc_block ?_))
  obtain ⟨o3, e4, hr⟩ := bnd_some hr
  refine awc_len (t := 0) rfl (fun hl => ?_)
  refine awc_range (S := Unit) (R := Unit) (List.length p0 : Int) (f14_b0 p0) (fun p => match p with | (i1, ()) => (⟨[(0, .sl Y1 p0), (2, .bool false), (5, .sl Y1 p0), (6, .int .i64 (List.length p0 : Int)), (7, .int .i64 i1)], [], 0⟩ : AS)) (fun o e st => match o with | .inl () => e = .exit 0 ∧ Wk X st ⟨[(0, .sl Y1 p0), (2, .bool false)], [], 0⟩ | .inr () => e = .ret ∧ Wk X st ⟨[(2, .bool false)], [], 0⟩) (len_ok hl) e4 (wk_of hX [] 4 rfl rfl ⟨⟨_, rfl, cv0⟩, ⟨_, rfl, cv0⟩, ⟨_, rfl, cv0⟩, ⟨_, rfl, cv0⟩, ⟨_, rfl, cv0⟩, trivial⟩ trivial) ?_ ?_
  · intro e st hx
    rcases o3 with _ | _
    · obtain ⟨rfl, hw⟩ := hx
      refine ablock_here (athen_norm ((awc_wk hw) (awc_seq ?_)))
      refine awc_region ?_
      refine awl_v (av_move rfl) ?_
      refine awl_v (av_len_sl (t := Y1) rfl rfl und30 rfl) ?_
      refine awl_v (av_leq rfl rfl) ?_
      refine awl_v (av_assign rfl) ?_
      have hr := Option.some.inj hr
      subst hr
      exact awl_nil (athen_norm (awc_ret (ret_q (l' := [(2, .bool (decide ((List.length p0 : Int) ≤ 40)))]) (wk_of hX [] 4 rfl rfl ⟨⟨_, rfl, cv0⟩, trivial⟩ trivial) rfl ⟨rfl, trivial⟩)))
    · obtain ⟨rfl, hw⟩ := hx
      have hr := Option.some.inj hr
      subst hr
      exact ablock_ret (athen_ret (ret_q (l' := [(2, .bool false)]) (Wk.trans hw (wk_of hX [] 4 rfl rfl ⟨⟨_, rfl, cv0⟩, trivial⟩ trivial)) rfl ⟨rfl, trivial⟩))
  · rintro i1 _ o ho
    refine awc_seq ?_
    refine awc_region ?_
    refine awl_v (av_lss rfl rfl) ?_
    refine awl_nil (athen_norm (awc_seq ?_))
    refine awc_cond (b := decide (i1 < (List.length p0 : Int))) rfl (fun hc5 => ?_) (fun hc5 => ?_)
    · obtain ⟨q, hr, rfl⟩ := rb_t hc5 ho
      refine awc_skip (athen_norm (awc_seq (awc_block (awc_seq ?_))))
      refine awc_region ?_
      obtain ⟨x6, e7, hr⟩ := bnd_some hr
      refine awl_v (av_ia_sl (t := Y1) (e := x6) und30 sz50 rfl rfl e7) ?_
      refine awl_v (av_load_rpN ts50 rfl rfl rfl) ?_
      refine awl_op (aop_alloc zero50 rfl ?_)
      refine awl_op (aop_store sz50 rfl rfl rfl rfl rfl rfl rfl ?_)
      refine awl_nil (athen_norm (awc_seq ?_))
      refine awc_region ?_
      refine awl_v (av_fa_ptr fa50_4 rfl rfl) ?_
      refine awl_v (av_load_ptr ts9 rfl rfl rfl) ?_
      refine awl_v (av_len_str rfl rfl und9 rfl) ?_
      refine awl_v (av_gtr rfl rfl) ?_
      refine awl_nil (athen_norm ?_)
      refine awc_cond (b := decide (60 < (List.length x6.2.2.2.2 : Int))) rfl (fun hc8 => ?_) (fun hc8 => ?_)
      · have hr := if_t hc8 hr
        refine awc_seq ?_
        refine awc_region ?_
        refine awl_v (av_assign rfl) ?_
        have hr := Option.some.inj hr
        subst hr
        exact awl_nil (athen_norm (awc_ret (ablock_ret (athen_ret (⟨rfl, (wk_of hX [] 4 rfl rfl ⟨⟨_, rfl, cv0⟩, trivial⟩ trivial)⟩)))))
      · have hr := if_f hc8 hr
        refine awc_skip (ablock_norm (athen_norm ?_))
        refine awc_region ?_
        refine awl_v (av_add rfl rfl) ?_
        refine awl_v (av_move rfl) ?_
        have hr := Option.some.inj hr
        subst hr
        exact awl_nil ((wk_of hX [] 4 rfl rfl ⟨⟨_, rfl, cv0⟩, ⟨_, rfl, cv0⟩, ⟨_, rfl, cv0⟩, ⟨_, rfl, cv0⟩, ⟨_, rfl, cv0⟩, trivial⟩ trivial))
    · obtain rfl := rb_f hc5 ho
      exact awc_exit (athen_exit (⟨rfl, (wk_of hX [] 4 rfl rfl ⟨⟨_, rfl, cv0⟩, ⟨_, rfl, cv0⟩, trivial⟩ trivial)⟩))
theorem f50_runs {p0 : Int × Int × Int × Int × Str} {r : Bool} (hr : f50 p0 = some r) : RunsP Try.prog 50 [.agg [.int .i64 p0.1, .int .i64 p0.2.1, .int .i64 p0.2.2.1, .int .i64 p0.2.2.2.1, .str p0.2.2.2.2]] [.bool r] := by
  refine runs_w Try.func50 Try.ntmps50 rfl (rs := [.tmp 2]) rfl rfl fun w0 X hX => ?_
  refine awc_seq ?_
  refine awc_region ?_
  refine awl_op (aop_box rfl rfl ?_)
  refine awl_v (av_assign rfl) ?_
  refine awl_nil (athen_norm (awc_seq ?_))
  refine awc_draw mixed [1, 2] [(true, .ptr 0 1), (true, .int .i64 p0.2.1), (true, .bool (decide (p0.2.1 = 2))), (true, .bool (decide (p0.2.1 = 2))), (!(decide (p0.2.1 = 2)), .ptr 0 1), (!(decide (p0.2.1 = 2)), .int .i64 p0.2.1), (!(decide (p0.2.1 = 2)), .bool (decide (p0.2.1 = 3))), (true, .bool ((decide (p0.2.1 = 2)) || (decide (p0.2.1 = 3)))), (true, .ptr 0 1), (true, .int .i64 p0.2.1), (true, .bool (decide (p0.2.1 = 4))), (true, .bool (decide (p0.2.1 = 4))), (!(decide (p0.2.1 = 4)), .ptr 0 1), (!(decide (p0.2.1 = 4)), .int .i64 p0.2.1), (!(decide (p0.2.1 = 4)), .bool (decide (p0.2.1 = 5))), (true, .bool ((decide (p0.2.1 = 4)) || (decide (p0.2.1 = 5)))), (true, .bool ((decide (p0.2.1 = 2)) || (decide (p0.2.1 = 3)))), (true, .bool ((decide (p0.2.1 = 4)) || (decide (p0.2.1 = 5))))] [[], [0], [1], [2], [3], [4, 3], [5, 3], [6, 3], [], [8], [9], [10], [11], [12, 11], [13, 11], [14, 11], [7], [15]] [16, 17] rfl rfl rfl rfl rfl ⟨?_, ?_, ?_, ?_, ?_, ?_, ?_, ?_, ?_, ?_, ?_, ?_, ?_, ?_, ?_, ?_, ?_, ?_, trivial⟩ (allT_of ⟨rfl, rfl, trivial⟩) ?_
  · exact ob_v rfl (fun hg => allT_of trivial) (fun hg => av_fa_ptr fa50_1 rfl rfl)
  · exact ob_v rfl (fun hg => allT_of ⟨rfl, trivial⟩) (fun hg => av_load_ptr ts3 rfl rfl rfl)
  · exact ob_v rfl (fun hg => allT_of ⟨rfl, trivial⟩) (fun hg => av_eql rfl rfl)
  · exact ob_v rfl (fun hg => allT_of ⟨rfl, trivial⟩) (fun hg => av_move rfl)
  · exact ob_v ⟨rfl, rfl, rfl, _, rfl, rfl⟩ (fun hg => allT_of ⟨rfl, trivial⟩) (fun hg => av_fa_ptr fa50_1 rfl rfl)
  · exact ob_v ⟨rfl, rfl, rfl, _, rfl, rfl⟩ (fun hg => allT_of ⟨hg, rfl, trivial⟩) (fun hg => av_load_ptr ts3 rfl rfl rfl)
  · exact ob_v ⟨rfl, rfl, rfl, _, rfl, rfl⟩ (fun hg => allT_of ⟨hg, rfl, trivial⟩) (fun hg => av_eql rfl rfl)
  · exact ob_pick (b := false) (p := decide (p0.2.1 = 2)) (q := decide (p0.2.1 = 3)) rfl rfl rfl (fun hg => allT_of ⟨rfl, trivial⟩) rfl rfl rfl rfl rfl
  · exact ob_v rfl (fun hg => allT_of trivial) (fun hg => av_fa_ptr fa50_1 rfl rfl)
  · exact ob_v rfl (fun hg => allT_of ⟨rfl, trivial⟩) (fun hg => av_load_ptr ts3 rfl rfl rfl)
  · exact ob_v rfl (fun hg => allT_of ⟨rfl, trivial⟩) (fun hg => av_eql rfl rfl)
  · exact ob_v rfl (fun hg => allT_of ⟨rfl, trivial⟩) (fun hg => av_move rfl)
  · exact ob_v ⟨rfl, rfl, rfl, _, rfl, rfl⟩ (fun hg => allT_of ⟨rfl, trivial⟩) (fun hg => av_fa_ptr fa50_1 rfl rfl)
  · exact ob_v ⟨rfl, rfl, rfl, _, rfl, rfl⟩ (fun hg => allT_of ⟨hg, rfl, trivial⟩) (fun hg => av_load_ptr ts3 rfl rfl rfl)
  · exact ob_v ⟨rfl, rfl, rfl, _, rfl, rfl⟩ (fun hg => allT_of ⟨hg, rfl, trivial⟩) (fun hg => av_eql rfl rfl)
  · exact ob_pick (b := false) (p := decide (p0.2.1 = 4)) (q := decide (p0.2.1 = 5)) rfl rfl rfl (fun hg => allT_of ⟨rfl, trivial⟩) rfl rfl rfl rfl rfl
  · exact ob_v rfl (fun hg => allT_of ⟨rfl, trivial⟩) (fun hg => av_assign rfl)
  · exact ob_v rfl (fun hg => allT_of ⟨rfl, trivial⟩) (fun hg => av_assign rfl)
  refine athen_norm (awc_seq ?_)
  refine awc_text [1, 3, 4] [(true, .ptr 0 1), (true, .int .i64 p0.2.1), (true, .bool (decide (1 ≤ p0.2.1))), (true, .bool (decide (1 ≤ p0.2.1))), (decide (1 ≤ p0.2.1), .ptr 0 1), (decide (1 ≤ p0.2.1), .int .i64 p0.2.1), (decide (1 ≤ p0.2.1), .bool (decide (p0.2.1 ≤ 5))), (true, .bool ((decide (1 ≤ p0.2.1)) && (decide (p0.2.1 ≤ 5)))), (true, .bool ((decide (1 ≤ p0.2.1)) && (decide (p0.2.1 ≤ 5)))), ((decide (1 ≤ p0.2.1)) && (decide (p0.2.1 ≤ 5)), .bool ((decide (p0.2.1 = 2)) || (decide (p0.2.1 = 3)))), ((decide (1 ≤ p0.2.1)) && (decide (p0.2.1 ≤ 5)), .bool ((decide (p0.2.1 = 2)) || (decide (p0.2.1 = 3)))), (((decide (1 ≤ p0.2.1)) && (decide (p0.2.1 ≤ 5))) && (!((decide (p0.2.1 = 2)) || (decide (p0.2.1 = 3)))), .ptr 0 2), (((decide (1 ≤ p0.2.1)) && (decide (p0.2.1 ≤ 5))) && (!((decide (p0.2.1 = 2)) || (decide (p0.2.1 = 3)))), .int .i64 p0.2.2.1), (((decide (1 ≤ p0.2.1)) && (decide (p0.2.1 ≤ 5))) && (!((decide (p0.2.1 = 2)) || (decide (p0.2.1 = 3)))), .bool (decide (p0.2.2.1 = 0))), ((decide (1 ≤ p0.2.1)) && (decide (p0.2.1 ≤ 5)), .bool (((decide (p0.2.1 = 2)) || (decide (p0.2.1 = 3))) || (decide (p0.2.2.1 = 0)))), (true, .bool (((decide (1 ≤ p0.2.1)) && (decide (p0.2.1 ≤ 5))) && (((decide (p0.2.1 = 2)) || (decide (p0.2.1 = 3))) || (decide (p0.2.2.1 = 0))))), (true, .bool (((decide (1 ≤ p0.2.1)) && (decide (p0.2.1 ≤ 5))) && (((decide (p0.2.1 = 2)) || (decide (p0.2.1 = 3))) || (decide (p0.2.2.1 = 0))))), (((decide (1 ≤ p0.2.1)) && (decide (p0.2.1 ≤ 5))) && (((decide (p0.2.1 = 2)) || (decide (p0.2.1 = 3))) || (decide (p0.2.2.1 = 0))), .bool ((decide (p0.2.1 = 4)) || (decide (p0.2.1 = 5)))), (((decide (1 ≤ p0.2.1)) && (decide (p0.2.1 ≤ 5))) && (((decide (p0.2.1 = 2)) || (decide (p0.2.1 = 3))) || (decide (p0.2.2.1 = 0))), .bool ((decide (p0.2.1 = 4)) || (decide (p0.2.1 = 5)))), ((((decide (1 ≤ p0.2.1)) && (decide (p0.2.1 ≤ 5))) && (((decide (p0.2.1 = 2)) || (decide (p0.2.1 = 3))) || (decide (p0.2.2.1 = 0)))) && (!((decide (p0.2.1 = 4)) || (decide (p0.2.1 = 5)))), .ptr 0 3), ((((decide (1 ≤ p0.2.1)) && (decide (p0.2.1 ≤ 5))) && (((decide (p0.2.1 = 2)) || (decide (p0.2.1 = 3))) || (decide (p0.2.2.1 = 0)))) && (!((decide (p0.2.1 = 4)) || (decide (p0.2.1 = 5)))), .int .i64 p0.2.2.2.1), ((((decide (1 ≤ p0.2.1)) && (decide (p0.2.1 ≤ 5))) && (((decide (p0.2.1 = 2)) || (decide (p0.2.1 = 3))) || (decide (p0.2.2.1 = 0)))) && (!((decide (p0.2.1 = 4)) || (decide (p0.2.1 = 5)))), .bool (decide (p0.2.2.2.1 = 0))), (((decide (1 ≤ p0.2.1)) && (decide (p0.2.1 ≤ 5))) && (((decide (p0.2.1 = 2)) || (decide (p0.2.1 = 3))) || (decide (p0.2.2.1 = 0))), .bool (((decide (p0.2.1 = 4)) || (decide (p0.2.1 = 5))) || (decide (p0.2.2.2.1 = 0)))), (true, .bool ((((decide (1 ≤ p0.2.1)) && (decide (p0.2.1 ≤ 5))) && (((decide (p0.2.1 = 2)) || (decide (p0.2.1 = 3))) || (decide (p0.2.2.1 = 0)))) && (((decide (p0.2.1 = 4)) || (decide (p0.2.1 = 5))) || (decide (p0.2.2.2.1 = 0))))), (true, .bool ((((decide (1 ≤ p0.2.1)) && (decide (p0.2.1 ≤ 5))) && (((decide (p0.2.1 = 2)) || (decide (p0.2.1 = 3))) || (decide (p0.2.2.1 = 0)))) && (((decide (p0.2.1 = 4)) || (decide (p0.2.1 = 5))) || (decide (p0.2.2.2.1 = 0))))), ((((decide (1 ≤ p0.2.1)) && (decide (p0.2.1 ≤ 5))) && (((decide (p0.2.1 = 2)) || (decide (p0.2.1 = 3))) || (decide (p0.2.2.1 = 0)))) && (((decide (p0.2.1 = 4)) || (decide (p0.2.1 = 5))) || (decide (p0.2.2.2.1 = 0))), .ptr 0 4), ((((decide (1 ≤ p0.2.1)) && (decide (p0.2.1 ≤ 5))) && (((decide (p0.2.1 = 2)) || (decide (p0.2.1 = 3))) || (decide (p0.2.2.1 = 0)))) && (((decide (p0.2.1 = 4)) || (decide (p0.2.1 = 5))) || (decide (p0.2.2.2.1 = 0))), .str p0.2.2.2.2), ((((decide (1 ≤ p0.2.1)) && (decide (p0.2.1 ≤ 5))) && (((decide (p0.2.1 = 2)) || (decide (p0.2.1 = 3))) || (decide (p0.2.2.1 = 0)))) && (((decide (p0.2.1 = 4)) || (decide (p0.2.1 = 5))) || (decide (p0.2.2.2.1 = 0))), .int .i64 (List.length p0.2.2.2.2 : Int)), ((((decide (1 ≤ p0.2.1)) && (decide (p0.2.1 ≤ 5))) && (((decide (p0.2.1 = 2)) || (decide (p0.2.1 = 3))) || (decide (p0.2.2.1 = 0)))) && (((decide (p0.2.1 = 4)) || (decide (p0.2.1 = 5))) || (decide (p0.2.2.2.1 = 0))), .bool (decide ((List.length p0.2.2.2.2 : Int) ≤ 32))), (true, .bool (((((decide (1 ≤ p0.2.1)) && (decide (p0.2.1 ≤ 5))) && (((decide (p0.2.1 = 2)) || (decide (p0.2.1 = 3))) || (decide (p0.2.2.1 = 0)))) && (((decide (p0.2.1 = 4)) || (decide (p0.2.1 = 5))) || (decide (p0.2.2.2.1 = 0)))) && (decide ((List.length p0.2.2.2.2 : Int) ≤ 32)))), (true, .bool (((((decide (1 ≤ p0.2.1)) && (decide (p0.2.1 ≤ 5))) && (((decide (p0.2.1 = 2)) || (decide (p0.2.1 = 3))) || (decide (p0.2.2.1 = 0)))) && (((decide (p0.2.1 = 4)) || (decide (p0.2.1 = 5))) || (decide (p0.2.2.2.1 = 0)))) && (decide ((List.length p0.2.2.2.2 : Int) ≤ 32))))] [[], [0], [1], [2], [3], [4, 3], [5, 3], [6, 3], [7], [8], [9, 8], [10], [11, 10], [12, 10], [13, 10, 8], [14, 8], [15], [16], [17, 16], [18], [19, 18], [20, 18], [21, 18, 16], [22, 16], [23], [24], [25, 24], [26, 24], [27, 24], [28, 24], [29]] [30] rfl rfl rfl rfl rfl ⟨?_, ?_, ?_, ?_, ?_, ?_, ?_, ?_, ?_, ?_, ?_, ?_, ?_, ?_, ?_, ?_, ?_, ?_, ?_, ?_, ?_, ?_, ?_, ?_, ?_, ?_, ?_, ?_, ?_, ?_, ?_, trivial⟩ (allT_of ⟨rfl, trivial⟩) ?_
  · exact ob_v rfl (fun hg => allT_of trivial) (fun hg => av_fa_ptr fa50_1 rfl rfl)
  · exact ob_v rfl (fun hg => allT_of ⟨rfl, trivial⟩) (fun hg => av_load_ptr ts3 rfl rfl rfl)
  · exact ob_v rfl (fun hg => allT_of ⟨rfl, trivial⟩) (fun hg => av_geq rfl rfl)
  · exact ob_v rfl (fun hg => allT_of ⟨rfl, trivial⟩) (fun hg => av_move rfl)
  · exact ob_v ⟨rfl, rfl, rfl, _, rfl, rfl⟩ (fun hg => allT_of ⟨rfl, trivial⟩) (fun hg => av_fa_ptr fa50_1 rfl rfl)
  · exact ob_v ⟨rfl, rfl, rfl, _, rfl, rfl⟩ (fun hg => allT_of ⟨hg, rfl, trivial⟩) (fun hg => av_load_ptr ts3 rfl rfl rfl)
  · exact ob_v ⟨rfl, rfl, rfl, _, rfl, rfl⟩ (fun hg => allT_of ⟨hg, rfl, trivial⟩) (fun hg => av_leq rfl rfl)
  · exact ob_pick (b := true) (p := decide (1 ≤ p0.2.1)) (q := decide (p0.2.1 ≤ 5)) rfl rfl rfl (fun hg => allT_of ⟨rfl, trivial⟩) rfl rfl rfl rfl rfl
  · exact ob_v rfl (fun hg => allT_of ⟨rfl, trivial⟩) (fun hg => av_move rfl)
  · exact ob_v ⟨rfl, rfl, rfl, _, rfl, rfl⟩ (fun hg => allT_of ⟨rfl, trivial⟩) (fun hg => av_move rfl)
  · exact ob_v ⟨rfl, rfl, rfl, _, rfl, rfl⟩ (fun hg => allT_of ⟨hg, rfl, trivial⟩) (fun hg => av_move rfl)
  · exact ob_v ⟨rfl, rfl, rfl, _, rfl, rfl⟩ (fun hg => allT_of ⟨(and_l hg), trivial⟩) (fun hg => av_fa_ptr fa50_2 rfl rfl)
  · exact ob_v ⟨rfl, rfl, rfl, _, rfl, rfl⟩ (fun hg => allT_of ⟨hg, (and_l hg), trivial⟩) (fun hg => av_load_ptr ts3 rfl rfl rfl)
  · exact ob_v ⟨rfl, rfl, rfl, _, rfl, rfl⟩ (fun hg => allT_of ⟨hg, (and_l hg), trivial⟩) (fun hg => av_eql rfl rfl)
  · exact ob_pick (b := false) (p := (decide (p0.2.1 = 2)) || (decide (p0.2.1 = 3))) (q := decide (p0.2.2.1 = 0)) ⟨rfl, rfl, rfl, _, rfl, rfl⟩ rfl rfl (fun hg => allT_of ⟨hg, rfl, trivial⟩) rfl rfl rfl rfl rfl
  · exact ob_pick (b := true) (p := (decide (1 ≤ p0.2.1)) && (decide (p0.2.1 ≤ 5))) (q := ((decide (p0.2.1 = 2)) || (decide (p0.2.1 = 3))) || (decide (p0.2.2.1 = 0))) rfl rfl rfl (fun hg => allT_of ⟨rfl, trivial⟩) rfl rfl rfl rfl rfl
  · exact ob_v rfl (fun hg => allT_of ⟨rfl, trivial⟩) (fun hg => av_move rfl)
  · exact ob_v ⟨rfl, rfl, rfl, _, rfl, rfl⟩ (fun hg => allT_of ⟨rfl, trivial⟩) (fun hg => av_move rfl)
  · exact ob_v ⟨rfl, rfl, rfl, _, rfl, rfl⟩ (fun hg => allT_of ⟨hg, rfl, trivial⟩) (fun hg => av_move rfl)
  · exact ob_v ⟨rfl, rfl, rfl, _, rfl, rfl⟩ (fun hg => allT_of ⟨(and_l hg), trivial⟩) (fun hg => av_fa_ptr fa50_3 rfl rfl)
  · exact ob_v ⟨rfl, rfl, rfl, _, rfl, rfl⟩ (fun hg => allT_of ⟨hg, (and_l hg), trivial⟩) (fun hg => av_load_ptr ts3 rfl rfl rfl)
  · exact ob_v ⟨rfl, rfl, rfl, _, rfl, rfl⟩ (fun hg => allT_of ⟨hg, (and_l hg), trivial⟩) (fun hg => av_eql rfl rfl)
  · exact ob_pick (b := false) (p := (decide (p0.2.1 = 4)) || (decide (p0.2.1 = 5))) (q := decide (p0.2.2.2.1 = 0)) ⟨rfl, rfl, rfl, _, rfl, rfl⟩ rfl rfl (fun hg => allT_of ⟨hg, rfl, trivial⟩) rfl rfl rfl rfl rfl
  · exact ob_pick (b := true) (p := ((decide (1 ≤ p0.2.1)) && (decide (p0.2.1 ≤ 5))) && (((decide (p0.2.1 = 2)) || (decide (p0.2.1 = 3))) || (decide (p0.2.2.1 = 0)))) (q := ((decide (p0.2.1 = 4)) || (decide (p0.2.1 = 5))) || (decide (p0.2.2.2.1 = 0))) rfl rfl rfl (fun hg => allT_of ⟨rfl, trivial⟩) rfl rfl rfl rfl rfl
  · exact ob_v rfl (fun hg => allT_of ⟨rfl, trivial⟩) (fun hg => av_move rfl)
  · exact ob_v ⟨rfl, rfl, rfl, _, rfl, rfl⟩ (fun hg => allT_of ⟨rfl, trivial⟩) (fun hg => av_fa_ptr fa50_4 rfl rfl)
  · exact ob_v ⟨rfl, rfl, rfl, _, rfl, rfl⟩ (fun hg => allT_of ⟨hg, rfl, trivial⟩) (fun hg => av_load_ptr ts9 rfl rfl rfl)
  · exact ob_v ⟨rfl, rfl, rfl, _, rfl, rfl⟩ (fun hg => allT_of ⟨hg, rfl, trivial⟩) (fun hg => av_len_str rfl rfl und9 rfl)
  · exact ob_v ⟨rfl, rfl, rfl, _, rfl, rfl⟩ (fun hg => allT_of ⟨hg, rfl, trivial⟩) (fun hg => av_leq rfl rfl)
  · exact ob_pick (b := true) (p := (((decide (1 ≤ p0.2.1)) && (decide (p0.2.1 ≤ 5))) && (((decide (p0.2.1 = 2)) || (decide (p0.2.1 = 3))) || (decide (p0.2.2.1 = 0)))) && (((decide (p0.2.1 = 4)) || (decide (p0.2.1 = 5))) || (decide (p0.2.2.2.1 = 0)))) (q := decide ((List.length p0.2.2.2.2 : Int) ≤ 32)) rfl rfl rfl (fun hg => allT_of ⟨rfl, trivial⟩) rfl rfl rfl rfl rfl
  · exact ob_v rfl (fun hg => allT_of ⟨rfl, trivial⟩) (fun hg => av_assign rfl)
  have hr := Option.some.inj hr
  subst hr
  exact athen_norm (awc_ret (ret_q (l' := [(2, .bool (((((decide (1 ≤ p0.2.1)) && (decide (p0.2.1 ≤ 5))) && (((decide (p0.2.1 = 2)) || (decide (p0.2.1 = 3))) || (decide (p0.2.2.1 = 0)))) && (((decide (p0.2.1 = 4)) || (decide (p0.2.1 = 5))) || (decide (p0.2.2.2.1 = 0)))) && (decide ((List.length p0.2.2.2.2 : Int) ≤ 32))))]) (wk_of hX [] 4 rfl rfl ⟨⟨_, rfl, cv0⟩, trivial⟩ trivial) rfl ⟨rfl, trivial⟩))
theorem f51_runs {p0 : List (Int × Int × Int × Int × Str)} {p1 : Int} {p2 : Int} {r : Int} (hr : f51 p0 p1 p2 = some r) : RunsP Try.prog 51 [.sl Y1 p0, .int .i64 p1, .int .i64 p2] [.int .i64 r] := by
  refine runs_w Try.func51 Try.ntmps51 rfl (rs := [.tmp 6]) rfl rfl fun w0 X hX => ?_
  refine awc_seq ?_
  refine awc_region ?_
  refine awl_v (av_assign rfl) ?_
  refine awl_nil (athen_norm (awc_seq (awc_seq ?_)))
  refine awc_region ?_
  refine awl_v (av_move rfl) ?_
  refine awl_v (av_len_sl (t := Y1) rfl rfl und30 rfl) ?_
  refine awl_v (av_move rfl) ?_
  refine awl_nil (athen_norm (awc_block ?_))
  obtain ⟨o4, e5, hr⟩ := bnd_some hr
  refine awc_len (t := 0) rfl (fun hl => ?_)
  refine awc_range (S := Unit) (R := Int) (List.length p0 : Int) (f51_b0 p0 p1 p2) (fun p => match p with | (i1, ()) => (⟨[(1, .int .i64 p1), (2, .int .i64 p2), (6, .int .i64 0), (9, .sl Y1 p0), (10, .int .i64 (List.length p0 : Int)), (11, .int .i64 i1)], [], 0⟩ : AS)) (fun o e st => match o with | .inl () => e = .exit 0 ∧ Wk X st ⟨[(6, .int .i64 0)], [], 0⟩ | .inr s3 => e = .ret ∧ Wk X st ⟨[(6, .int .i64 s3)], [], 0⟩) (len_ok hl) e5 (wk_of hX [] 4 rfl rfl ⟨⟨_, rfl, cv0⟩, ⟨_, rfl, cv0⟩, ⟨_, rfl, cv0⟩, ⟨_, rfl, cv0⟩, ⟨_, rfl, cv0⟩, ⟨_, rfl, cv0⟩, trivial⟩ trivial) ?_ ?_
  · intro e st hx
    rcases o4 with _ | s3
    · obtain ⟨rfl, hw⟩ := hx
      refine ablock_here (athen_norm ((awc_wk hw) (awc_seq ?_)))
      refine awc_region ?_
      refine awl_v (av_assign rfl) ?_
      have hr := Option.some.inj hr
      subst hr
      exact awl_nil (athen_norm (awc_ret (ret_q (l' := [(6, .int .i64 (-1))]) (wk_of hX [] 4 rfl rfl ⟨⟨_, rfl, cv0⟩, trivial⟩ trivial) rfl ⟨rfl, trivial⟩)))
    · obtain ⟨rfl, hw⟩ := hx
      have hr := Option.some.inj hr
      subst hr
      exact ablock_ret (athen_ret (ret_q (l' := [(6, .int .i64 s3)]) (Wk.trans hw (wk_of hX [] 4 rfl rfl ⟨⟨_, rfl, cv0⟩, trivial⟩ trivial)) rfl ⟨rfl, trivial⟩))
  · rintro i1 _ o ho
    refine awc_seq ?_
    refine awc_region ?_
    refine awl_v (av_lss rfl rfl) ?_
    refine awl_nil (athen_norm (awc_seq ?_))
    refine awc_cond (b := decide (i1 < (List.length p0 : Int))) rfl (fun hc6 => ?_) (fun hc6 => ?_)
    · obtain ⟨q, hr, rfl⟩ := rb_t hc6 ho
      refine awc_skip (athen_norm (awc_seq (awc_block (awc_seq ?_))))
      refine awc_region ?_
      refine awl_v (av_move rfl) ?_
      obtain ⟨x7, e8, hr⟩ := bnd_some hr
      refine awl_v (av_ia_sl (t := Y1) (e := x7) und30 sz50 rfl rfl e8) ?_
      refine awl_v (av_load_rpN ts50 rfl rfl rfl) ?_
      refine awl_op (aop_alloc zero50 rfl ?_)
      refine awl_v (av_assign rfl) ?_
      refine awl_op (aop_store sz50 rfl rfl rfl rfl rfl rfl rfl ?_)
      refine awl_nil (athen_norm (awc_seq ?_))
      refine awc_text [1, 2, 6, 9, 10, 11, 8, 7] [(true, .ptr 0 1), (true, .int .i64 x7.2.1), (true, .int .i64 p1), (true, .bool (decide (x7.2.1 = p1))), (true, .bool (decide (x7.2.1 = p1))), (decide (x7.2.1 = p1), .ptr 0 2), (decide (x7.2.1 = p1), .int .i64 x7.2.2.1), (decide (x7.2.1 = p1), .ptr 0 3), (decide (x7.2.1 = p1), .int .i64 x7.2.2.2.1), (decide (x7.2.1 = p1), .int .i64 (w64 (x7.2.2.1 + x7.2.2.2.1))), (decide (x7.2.1 = p1), .int .i64 p2), (decide (x7.2.1 = p1), .bool (decide ((w64 (x7.2.2.1 + x7.2.2.2.1)) = p2))), (true, .bool ((decide (x7.2.1 = p1)) && (decide ((w64 (x7.2.2.1 + x7.2.2.2.1)) = p2))))] [[], [0], [], [1, 2], [3], [4], [5, 4], [4], [7, 4], [6, 8, 4], [4], [9, 10, 4], [11, 4]] [12] rfl rfl rfl rfl rfl ⟨?_, ?_, ?_, ?_, ?_, ?_, ?_, ?_, ?_, ?_, ?_, ?_, ?_, trivial⟩ (allT_of ⟨rfl, trivial⟩) ?_
      · exact ob_v rfl (fun hg => allT_of trivial) (fun hg => av_fa_ptr fa50_1 rfl rfl)
      · exact ob_v rfl (fun hg => allT_of ⟨rfl, trivial⟩) (fun hg => av_load_ptr ts3 rfl rfl rfl)
      · exact ob_v rfl (fun hg => allT_of trivial) (fun hg => av_move rfl)
      · exact ob_v rfl (fun hg => allT_of ⟨rfl, rfl, trivial⟩) (fun hg => av_eql rfl rfl)
      · exact ob_v rfl (fun hg => allT_of ⟨rfl, trivial⟩) (fun hg => av_move rfl)
      · exact ob_v ⟨rfl, rfl, rfl, _, rfl, rfl⟩ (fun hg => allT_of ⟨rfl, trivial⟩) (fun hg => av_fa_ptr fa50_2 rfl rfl)
      · exact ob_v ⟨rfl, rfl, rfl, _, rfl, rfl⟩ (fun hg => allT_of ⟨hg, rfl, trivial⟩) (fun hg => av_load_ptr ts3 rfl rfl rfl)
      · exact ob_v ⟨rfl, rfl, rfl, _, rfl, rfl⟩ (fun hg => allT_of ⟨rfl, trivial⟩) (fun hg => av_fa_ptr fa50_3 rfl rfl)
      · exact ob_v ⟨rfl, rfl, rfl, _, rfl, rfl⟩ (fun hg => allT_of ⟨hg, rfl, trivial⟩) (fun hg => av_load_ptr ts3 rfl rfl rfl)
      · exact ob_v ⟨rfl, rfl, rfl, _, rfl, rfl⟩ (fun hg => allT_of ⟨hg, hg, rfl, trivial⟩) (fun hg => av_add rfl rfl)
      · exact ob_v ⟨rfl, rfl, rfl, _, rfl, rfl⟩ (fun hg => allT_of ⟨rfl, trivial⟩) (fun hg => av_move rfl)
      · exact ob_v ⟨rfl, rfl, rfl, _, rfl, rfl⟩ (fun hg => allT_of ⟨hg, hg, rfl, trivial⟩) (fun hg => av_eql rfl rfl)
      · exact ob_pick (b := true) (p := decide (x7.2.1 = p1)) (q := decide ((w64 (x7.2.2.1 + x7.2.2.2.1)) = p2)) rfl rfl rfl (fun hg => allT_of ⟨rfl, trivial⟩) rfl rfl rfl rfl rfl
      refine athen_norm ?_
      refine awc_cond (b := (decide (x7.2.1 = p1)) && (decide ((w64 (x7.2.2.1 + x7.2.2.2.1)) = p2))) rfl (fun hc9 => ?_) (fun hc9 => ?_)
      · have hr := if_t hc9 hr
        refine awc_seq ?_
        refine awc_region ?_
        refine awl_v (av_move rfl) ?_
        refine awl_v (av_assign rfl) ?_
        have hr := Option.some.inj hr
        subst hr
        exact awl_nil (athen_norm (awc_ret (ablock_ret (athen_ret (⟨rfl, (wk_of hX [] 4 rfl rfl ⟨⟨_, rfl, cv0⟩, trivial⟩ trivial)⟩)))))
      · have hr := if_f hc9 hr
        refine awc_skip (ablock_norm (athen_norm ?_))
        refine awc_region ?_
        refine awl_v (av_add rfl rfl) ?_
        refine awl_v (av_move rfl) ?_
        have hr := Option.some.inj hr
        subst hr
        exact awl_nil ((wk_of hX [] 4 rfl rfl ⟨⟨_, rfl, cv0⟩, ⟨_, rfl, cv0⟩, ⟨_, rfl, cv0⟩, ⟨_, rfl, cv0⟩, ⟨_, rfl, cv0⟩, ⟨_, rfl, cv0⟩, trivial⟩ trivial))
    · obtain rfl := rb_f hc6 ho
      exact awc_exit (athen_exit (⟨rfl, (wk_of hX [] 4 rfl rfl ⟨⟨_, rfl, cv0⟩, trivial⟩ trivial)⟩))
theorem f16_runs {p0 : Int} {p1 : List (Int × Int × Int × Int × Str)} {r : Int × Int} (hr : f16 p0 p1 = some r) : RunsP Try.prog 16 [.int .i64 p0, .sl Y1 p1] [.int .i64 r.1, .int .i64 r.2] := by
  refine runs_w Try.func16 Try.ntmps16 rfl (rs := [.tmp 4, .tmp 5]) rfl rfl fun w0 X hX => ?_
  refine awc_seq ?_
  refine awc_region ?_
  refine awl_v (av_assign rfl) ?_
  refine awl_v (av_assign rfl) ?_
  refine awl_nil (athen_norm (awc_seq (awc_seq ?_)))
  refine awc_text [0, 1, 4, 5] [(true, .int .i64 p0), (true, .bool (decide (p0 < 1))), (true, .bool (decide (p0 < 1))), (!(decide (p0 < 1)), .int .i64 p0), (!(decide (p0 < 1)), .bool (decide (16 < p0))), (true, .bool ((decide (p0 < 1)) || (decide (16 < p0))))] [[], [0], [1], [2], [3, 2], [4, 2]] [5] rfl rfl rfl rfl rfl ⟨?_, ?_, ?_, ?_, ?_, ?_, trivial⟩ (allT_of ⟨rfl, trivial⟩) ?_
  · exact ob_v rfl (fun hg => allT_of trivial) (fun hg => av_move rfl)
  · exact ob_v rfl (fun hg => allT_of ⟨rfl, trivial⟩) (fun hg => av_lss rfl rfl)
  · exact ob_v rfl (fun hg => allT_of ⟨rfl, trivial⟩) (fun hg => av_move rfl)
  · exact ob_v ⟨rfl, rfl, rfl, _, rfl, rfl⟩ (fun hg => allT_of ⟨rfl, trivial⟩) (fun hg => av_move rfl)
  · exact ob_v ⟨rfl, rfl, rfl, _, rfl, rfl⟩ (fun hg => allT_of ⟨hg, rfl, trivial⟩) (fun hg => av_gtr rfl rfl)
  · exact ob_pick (b := false) (p := decide (p0 < 1)) (q := decide (16 < p0)) rfl rfl rfl (fun hg => allT_of ⟨rfl, trivial⟩) rfl rfl rfl rfl rfl
  refine athen_norm ?_
  refine awc_cond (b := (decide (p0 < 1)) || (decide (16 < p0))) rfl (fun hc1 => ?_) (fun hc1 => ?_)
  · have hr := if_t hc1 hr
    refine awc_seq ?_
    refine awc_region ?_
    refine awl_v (av_assign rfl) ?_
    refine awl_v (av_assign rfl) ?_
    have hr := Option.some.inj hr
    subst hr
    exact awl_nil (athen_norm (awc_ret (athen_ret (ret_q (l' := [(4, .int .i64 0), (5, .int .i64 7)]) (wk_of hX [] 4 rfl rfl ⟨⟨_, rfl, cv0⟩, ⟨_, rfl, cv0⟩, trivial⟩ trivial) rfl ⟨rfl, rfl, trivial⟩))))
  · have hr := if_f hc1 hr
    refine awc_skip (athen_norm (awc_seq (awc_seq ?_)))
    refine awc_region ?_
    refine awl_v (av_move rfl) ?_
    refine awl_v (av_len_sl (t := Y1) rfl rfl und30 rfl) ?_
    refine awl_v (av_move rfl) ?_
    refine awl_nil (athen_norm (awc_block ?_))
    obtain ⟨o6, e7, hr⟩ := bnd_some hr
    refine awc_len (t := 1) rfl (fun hl => ?_)
    refine awc_range (S := Unit) (R := Int × Int) (List.length p1 : Int) (f16_b0 p0 p1) (fun p => match p with | (i2, ()) => (⟨[(0, .int .i64 p0), (1, .sl Y1 p1), (4, .int .i64 0), (5, .int .i64 0), (17, .sl Y1 p1), (18, .int .i64 (List.length p1 : Int)), (19, .int .i64 i2)], [], 0⟩ : AS)) (fun o e st => match o with | .inl () => e = .exit 0 ∧ Wk X st ⟨[(4, .int .i64 0), (5, .int .i64 0)], [], 0⟩ | .inr (s4, s5) => e = .ret ∧ Wk X st ⟨[(4, .int .i64 s4), (5, .int .i64 s5)], [], 0⟩) (len_ok hl) e7 (wk_of hX [] 4 rfl rfl ⟨⟨_, rfl, cv0⟩, ⟨_, rfl, cv0⟩, ⟨_, rfl, cv0⟩, ⟨_, rfl, cv0⟩, ⟨_, rfl, cv0⟩, ⟨_, rfl, cv0⟩, ⟨_, rfl, cv0⟩, trivial⟩ trivial) ?_ ?_
    · intro e st hx
      rcases o6 with _ | ⟨s4, s5⟩
      · obtain ⟨rfl, hw⟩ := hx
        refine ablock_here (athen_norm ((awc_wk hw) (awc_seq ?_)))
        refine awc_region ?_
        refine awl_v (av_assign rfl) ?_
        refine awl_v (av_assign rfl) ?_
        have hr := Option.some.inj hr
        subst hr
        exact awl_nil (athen_norm (awc_ret (ret_q (l' := [(4, .int .i64 (-1)), (5, .int .i64 0)]) (wk_of hX [] 4 rfl rfl ⟨⟨_, rfl, cv0⟩, ⟨_, rfl, cv0⟩, trivial⟩ trivial) rfl ⟨rfl, rfl, trivial⟩)))
      · obtain ⟨rfl, hw⟩ := hx
        have hr := Option.some.inj hr
        subst hr
        exact ablock_ret (athen_ret (ret_q (l' := [(4, .int .i64 s4), (5, .int .i64 s5)]) (Wk.trans hw (wk_of hX [] 4 rfl rfl ⟨⟨_, rfl, cv0⟩, ⟨_, rfl, cv0⟩, trivial⟩ trivial)) rfl ⟨rfl, rfl, trivial⟩))
    · rintro i2 _ o ho
      refine awc_seq ?_
      refine awc_region ?_
      refine awl_v (av_lss rfl rfl) ?_
      refine awl_nil (athen_norm (awc_seq ?_))
      refine awc_cond (b := decide (i2 < (List.length p1 : Int))) rfl (fun hc8 => ?_) (fun hc8 => ?_)
      · obtain ⟨q, hr, rfl⟩ := rb_t hc8 ho
        refine awc_skip (athen_norm ?_)
        obtain ⟨o10, e11, hr⟩ := bnd_some hr
        refine awc_join (S := Unit) (R := Int) (fun s => match s with | () => (⟨[(0, .int .i64 p0), (1, .sl Y1 p1), (4, .int .i64 0), (5, .int .i64 0), (17, .sl Y1 p1), (18, .int .i64 (List.length p1 : Int)), (19, .int .i64 i2)], [], 0⟩ : AS)) (fun r e st => match r with | s9 => e = .ret ∧ Wk X st ⟨[(4, .int .i64 i2), (5, .int .i64 s9)], [], 0⟩) e11 (fun hr => ?_) ?_ ?_
        · refine awc_block (awc_seq ?_)
          refine awc_region ?_
          refine awl_v (av_move rfl) ?_
          obtain ⟨x12, e13, hr⟩ := bnd_some hr
          refine awl_v (av_ia_sl (t := Y1) (e := x12) und30 sz50 rfl rfl e13) ?_
          refine awl_v (av_load_rpN ts50 rfl rfl rfl) ?_
          refine awl_op (aop_alloc zero50 rfl ?_)
          refine awl_v (av_assign rfl) ?_
          refine awl_op (aop_store sz50 rfl rfl rfl rfl rfl rfl rfl ?_)
          refine awl_nil (athen_norm (awc_seq (awc_seq ?_)))
          refine awc_region ?_
          refine awl_v (av_move rfl) ?_
          refine awl_v (av_eql rfl rfl) ?_
          refine awl_nil (athen_norm ?_)
          refine awc_cond (b := decide (i2 = 1000)) rfl (fun hc14 => ?_) (fun hc14 => ?_)
          · have hr := if_t hc14 hr
            refine awc_seq ?_
            refine awc_region ?_
            refine awl_v (av_move rfl) ?_
            refine awl_v (av_assign rfl) ?_
            refine awl_v (av_assign rfl) ?_
            have hr := Option.some.inj hr
            subst hr
            exact awl_nil (athen_norm (awc_ret (athen_ret (ablock_ret (⟨rfl, (wk_of hX [] 4 rfl rfl ⟨⟨_, rfl, cv0⟩, ⟨_, rfl, cv0⟩, trivial⟩ trivial)⟩)))))
          · have hr := if_f hc14 hr
            refine awc_skip (athen_norm (awc_seq ?_))
            refine awc_draw mixed [0, 1, 4, 5, 17, 18, 19, 7, 6] [(true, .ptr 0 1), (true, .int .i64 x12.2.1), (true, .bool (decide (x12.2.1 = 2))), (true, .bool (decide (x12.2.1 = 2))), (!(decide (x12.2.1 = 2)), .ptr 0 1), (!(decide (x12.2.1 = 2)), .int .i64 x12.2.1), (!(decide (x12.2.1 = 2)), .bool (decide (x12.2.1 = 3))), (true, .bool ((decide (x12.2.1 = 2)) || (decide (x12.2.1 = 3)))), (true, .ptr 0 1), (true, .int .i64 x12.2.1), (true, .bool (decide (x12.2.1 = 4))), (true, .bool (decide (x12.2.1 = 4))), (!(decide (x12.2.1 = 4)), .ptr 0 1), (!(decide (x12.2.1 = 4)), .int .i64 x12.2.1), (!(decide (x12.2.1 = 4)), .bool (decide (x12.2.1 = 5))), (true, .bool ((decide (x12.2.1 = 4)) || (decide (x12.2.1 = 5)))), (true, .bool ((decide (x12.2.1 = 2)) || (decide (x12.2.1 = 3)))), (true, .bool ((decide (x12.2.1 = 4)) || (decide (x12.2.1 = 5))))] [[], [0], [1], [2], [3], [4, 3], [5, 3], [6, 3], [], [8], [9], [10], [11], [12, 11], [13, 11], [14, 11], [7], [15]] [16, 17] rfl rfl rfl rfl rfl ⟨?_, ?_, ?_, ?_, ?_, ?_, ?_, ?_, ?_, ?_, ?_, ?_, ?_, ?_, ?_, ?_, ?_, ?_, trivial⟩ (allT_of ⟨rfl, rfl, trivial⟩) ?_
            · exact ob_v rfl (fun hg => allT_of trivial) (fun hg => av_fa_ptr fa50_1 rfl rfl)
            · exact ob_v rfl (fun hg => allT_of ⟨rfl, trivial⟩) (fun hg => av_load_ptr ts3 rfl rfl rfl)
            · exact ob_v rfl (fun hg => allT_of ⟨rfl, trivial⟩) (fun hg => av_eql rfl rfl)
            · exact ob_v rfl (fun hg => allT_of ⟨rfl, trivial⟩) (fun hg => av_move rfl)
            · exact ob_v ⟨rfl, rfl, rfl, _, rfl, rfl⟩ (fun hg => allT_of ⟨rfl, trivial⟩) (fun hg => av_fa_ptr fa50_1 rfl rfl)
            · exact ob_v ⟨rfl, rfl, rfl, _, rfl, rfl⟩ (fun hg => allT_of ⟨hg, rfl, trivial⟩) (fun hg => av_load_ptr ts3 rfl rfl rfl)
            · exact ob_v ⟨rfl, rfl, rfl, _, rfl, rfl⟩ (fun hg => allT_of ⟨hg, rfl, trivial⟩) (fun hg => av_eql rfl rfl)
            · exact ob_pick (b := false) (p := decide (x12.2.1 = 2)) (q := decide (x12.2.1 = 3)) rfl rfl rfl (fun hg => allT_of ⟨rfl, trivial⟩) rfl rfl rfl rfl rfl
            · exact ob_v rfl (fun hg => allT_of trivial) (fun hg => av_fa_ptr fa50_1 rfl rfl)
            · exact ob_v rfl (fun hg => allT_of ⟨rfl, trivial⟩) (fun hg => av_load_ptr ts3 rfl rfl rfl)
            · exact ob_v rfl (fun hg => allT_of ⟨rfl, trivial⟩) (fun hg => av_eql rfl rfl)
            · exact ob_v rfl (fun hg => allT_of ⟨rfl, trivial⟩) (fun hg => av_move rfl)
            · exact ob_v ⟨rfl, rfl, rfl, _, rfl, rfl⟩ (fun hg => allT_of ⟨rfl, trivial⟩) (fun hg => av_fa_ptr fa50_1 rfl rfl)
            · exact ob_v ⟨rfl, rfl, rfl, _, rfl, rfl⟩ (fun hg => allT_of ⟨hg, rfl, trivial⟩) (fun hg => av_load_ptr ts3 rfl rfl rfl)
            · exact ob_v ⟨rfl, rfl, rfl, _, rfl, rfl⟩ (fun hg => allT_of ⟨hg, rfl, trivial⟩) (fun hg => av_eql rfl rfl)
            · exact ob_pick (b := false) (p := decide (x12.2.1 = 4)) (q := decide (x12.2.1 = 5)) rfl rfl rfl (fun hg => allT_of ⟨rfl, trivial⟩) rfl rfl rfl rfl rfl
            · exact ob_v rfl (fun hg => allT_of ⟨rfl, trivial⟩) (fun hg => av_assign rfl)
            · exact ob_v rfl (fun hg => allT_of ⟨rfl, trivial⟩) (fun hg => av_assign rfl)
            refine athen_norm (awc_seq (awc_seq ?_))
            refine awc_text [0, 1, 4, 5, 17, 18, 19, 7, 6, 8, 9] [(true, .ptr 0 0), (true, .int .i64 x12.1), (true, .bool (decide (x12.1 < 0))), (true, .bool (decide (x12.1 < 0))), (!(decide (x12.1 < 0)), .ptr 0 0), (!(decide (x12.1 < 0)), .int .i64 x12.1), (!(decide (x12.1 < 0)), .int .i64 p0), (!(decide (x12.1 < 0)), .bool (decide (p0 ≤ x12.1))), (true, .bool ((decide (x12.1 < 0)) || (decide (p0 ≤ x12.1)))), (true, .bool ((decide (x12.1 < 0)) || (decide (p0 ≤ x12.1)))), (!((decide (x12.1 < 0)) || (decide (p0 ≤ x12.1))), .bool ((decide (x12.2.1 = 2)) || (decide (x12.2.1 = 3)))), (!((decide (x12.1 < 0)) || (decide (p0 ≤ x12.1))), .bool ((decide (x12.2.1 = 2)) || (decide (x12.2.1 = 3)))), ((!((decide (x12.1 < 0)) || (decide (p0 ≤ x12.1)))) && ((decide (x12.2.1 = 2)) || (decide (x12.2.1 = 3))), .ptr 0 2), ((!((decide (x12.1 < 0)) || (decide (p0 ≤ x12.1)))) && ((decide (x12.2.1 = 2)) || (decide (x12.2.1 = 3))), .int .i64 x12.2.2.1), ((!((decide (x12.1 < 0)) || (decide (p0 ≤ x12.1)))) && ((decide (x12.2.1 = 2)) || (decide (x12.2.1 = 3))), .bool (decide (x12.2.2.1 < 1))), (!((decide (x12.1 < 0)) || (decide (p0 ≤ x12.1))), .bool (((decide (x12.2.1 = 2)) || (decide (x12.2.1 = 3))) && (decide (x12.2.2.1 < 1)))), (true, .bool (((decide (x12.1 < 0)) || (decide (p0 ≤ x12.1))) || (((decide (x12.2.1 = 2)) || (decide (x12.2.1 = 3))) && (decide (x12.2.2.1 < 1))))), (true, .bool (((decide (x12.1 < 0)) || (decide (p0 ≤ x12.1))) || (((decide (x12.2.1 = 2)) || (decide (x12.2.1 = 3))) && (decide (x12.2.2.1 < 1))))), (!(((decide (x12.1 < 0)) || (decide (p0 ≤ x12.1))) || (((decide (x12.2.1 = 2)) || (decide (x12.2.1 = 3))) && (decide (x12.2.2.1 < 1)))), .bool ((decide (x12.2.1 = 4)) || (decide (x12.2.1 = 5)))), (!(((decide (x12.1 < 0)) || (decide (p0 ≤ x12.1))) || (((decide (x12.2.1 = 2)) || (decide (x12.2.1 = 3))) && (decide (x12.2.2.1 < 1)))), .bool ((decide (x12.2.1 = 4)) || (decide (x12.2.1 = 5)))), ((!(((decide (x12.1 < 0)) || (decide (p0 ≤ x12.1))) || (((decide (x12.2.1 = 2)) || (decide (x12.2.1 = 3))) && (decide (x12.2.2.1 < 1))))) && ((decide (x12.2.1 = 4)) || (decide (x12.2.1 = 5))), .ptr 0 3), ((!(((decide (x12.1 < 0)) || (decide (p0 ≤ x12.1))) || (((decide (x12.2.1 = 2)) || (decide (x12.2.1 = 3))) && (decide (x12.2.2.1 < 1))))) && ((decide (x12.2.1 = 4)) || (decide (x12.2.1 = 5))), .int .i64 x12.2.2.2.1), ((!(((decide (x12.1 < 0)) || (decide (p0 ≤ x12.1))) || (((decide (x12.2.1 = 2)) || (decide (x12.2.1 = 3))) && (decide (x12.2.2.1 < 1))))) && ((decide (x12.2.1 = 4)) || (decide (x12.2.1 = 5))), .bool (decide (x12.2.2.2.1 < 1))), (!(((decide (x12.1 < 0)) || (decide (p0 ≤ x12.1))) || (((decide (x12.2.1 = 2)) || (decide (x12.2.1 = 3))) && (decide (x12.2.2.1 < 1)))), .bool (((decide (x12.2.1 = 4)) || (decide (x12.2.1 = 5))) && (decide (x12.2.2.2.1 < 1)))), (true, .bool ((((decide (x12.1 < 0)) || (decide (p0 ≤ x12.1))) || (((decide (x12.2.1 = 2)) || (decide (x12.2.1 = 3))) && (decide (x12.2.2.1 < 1)))) || (((decide (x12.2.1 = 4)) || (decide (x12.2.1 = 5))) && (decide (x12.2.2.2.1 < 1)))))] [[], [0], [1], [2], [3], [4, 3], [3], [5, 6, 3], [7, 3], [8], [9], [10, 9], [11], [12, 11], [13, 11], [14, 11, 9], [15, 9], [16], [17], [18, 17], [19], [20, 19], [21, 19], [22, 19, 17], [23, 17]] [24] rfl rfl rfl rfl rfl ⟨?_, ?_, ?_, ?_, ?_, ?_, ?_, ?_, ?_, ?_, ?_, ?_, ?_, ?_, ?_, ?_, ?_, ?_, ?_, ?_, ?_, ?_, ?_, ?_, ?_, trivial⟩ (allT_of ⟨rfl, trivial⟩) ?_
            · exact ob_v rfl (fun hg => allT_of trivial) (fun hg => av_fa_ptr fa50_0 rfl rfl)
            · exact ob_v rfl (fun hg => allT_of ⟨rfl, trivial⟩) (fun hg => av_load_ptr ts3 rfl rfl rfl)
            · exact ob_v rfl (fun hg => allT_of ⟨rfl, trivial⟩) (fun hg => av_lss rfl rfl)
            · exact ob_v rfl (fun hg => allT_of ⟨rfl, trivial⟩) (fun hg => av_move rfl)
            · exact ob_v ⟨rfl, rfl, rfl, _, rfl, rfl⟩ (fun hg => allT_of ⟨rfl, trivial⟩) (fun hg => av_fa_ptr fa50_0 rfl rfl)
            · exact ob_v ⟨rfl, rfl, rfl, _, rfl, rfl⟩ (fun hg => allT_of ⟨hg, rfl, trivial⟩) (fun hg => av_load_ptr ts3 rfl rfl rfl)
            · exact ob_v ⟨rfl, rfl, rfl, _, rfl, rfl⟩ (fun hg => allT_of ⟨rfl, trivial⟩) (fun hg => av_move rfl)
            · exact ob_v ⟨rfl, rfl, rfl, _, rfl, rfl⟩ (fun hg => allT_of ⟨hg, hg, rfl, trivial⟩) (fun hg => av_geq rfl rfl)
            · exact ob_pick (b := false) (p := decide (x12.1 < 0)) (q := decide (p0 ≤ x12.1)) rfl rfl rfl (fun hg => allT_of ⟨rfl, trivial⟩) rfl rfl rfl rfl rfl
            · exact ob_v rfl (fun hg => allT_of ⟨rfl, trivial⟩) (fun hg => av_move rfl)
            · exact ob_v ⟨rfl, rfl, rfl, _, rfl, rfl⟩ (fun hg => allT_of ⟨rfl, trivial⟩) (fun hg => av_move rfl)
            · exact ob_v ⟨rfl, rfl, rfl, _, rfl, rfl⟩ (fun hg => allT_of ⟨hg, rfl, trivial⟩) (fun hg => av_move rfl)
            · exact ob_v ⟨rfl, rfl, rfl, _, rfl, rfl⟩ (fun hg => allT_of ⟨(and_l hg), trivial⟩) (fun hg => av_fa_ptr fa50_2 rfl rfl)
            · exact ob_v ⟨rfl, rfl, rfl, _, rfl, rfl⟩ (fun hg => allT_of ⟨hg, (and_l hg), trivial⟩) (fun hg => av_load_ptr ts3 rfl rfl rfl)
            · exact ob_v ⟨rfl, rfl, rfl, _, rfl, rfl⟩ (fun hg => allT_of ⟨hg, (and_l hg), trivial⟩) (fun hg => av_lss rfl rfl)
            · exact ob_pick (b := true) (p := (decide (x12.2.1 = 2)) || (decide (x12.2.1 = 3))) (q := decide (x12.2.2.1 < 1)) ⟨rfl, rfl, rfl, _, rfl, rfl⟩ rfl rfl (fun hg => allT_of ⟨hg, rfl, trivial⟩) rfl rfl rfl rfl rfl
            · exact ob_pick (b := false) (p := (decide (x12.1 < 0)) || (decide (p0 ≤ x12.1))) (q := ((decide (x12.2.1 = 2)) || (decide (x12.2.1 = 3))) && (decide (x12.2.2.1 < 1))) rfl rfl rfl (fun hg => allT_of ⟨rfl, trivial⟩) rfl rfl rfl rfl rfl
            · exact ob_v rfl (fun hg => allT_of ⟨rfl, trivial⟩) (fun hg => av_move rfl)
            · exact ob_v ⟨rfl, rfl, rfl, _, rfl, rfl⟩ (fun hg => allT_of ⟨rfl, trivial⟩) (fun hg => av_move rfl)
            · exact ob_v ⟨rfl, rfl, rfl, _, rfl, rfl⟩ (fun hg => allT_of ⟨hg, rfl, trivial⟩) (fun hg => av_move rfl)
            · exact ob_v ⟨rfl, rfl, rfl, _, rfl, rfl⟩ (fun hg => allT_of ⟨(and_l hg), trivial⟩) (fun hg => av_fa_ptr fa50_3 rfl rfl)
            · exact ob_v ⟨rfl, rfl, rfl, _, rfl, rfl⟩ (fun hg => allT_of ⟨hg, (and_l hg), trivial⟩) (fun hg => av_load_ptr ts3 rfl rfl rfl)
            · exact ob_v ⟨rfl, rfl, rfl, _, rfl, rfl⟩ (fun hg => allT_of ⟨hg, (and_l hg), trivial⟩) (fun hg => av_lss rfl rfl)
            · exact ob_pick (b := true) (p := (decide (x12.2.1 = 4)) || (decide (x12.2.1 = 5))) (q := decide (x12.2.2.2.1 < 1)) ⟨rfl, rfl, rfl, _, rfl, rfl⟩ rfl rfl (fun hg => allT_of ⟨hg, rfl, trivial⟩) rfl rfl rfl rfl rfl
            · exact ob_pick (b := false) (p := ((decide (x12.1 < 0)) || (decide (p0 ≤ x12.1))) || (((decide (x12.2.1 = 2)) || (decide (x12.2.1 = 3))) && (decide (x12.2.2.1 < 1)))) (q := ((decide (x12.2.1 = 4)) || (decide (x12.2.1 = 5))) && (decide (x12.2.2.2.1 < 1))) rfl rfl rfl (fun hg => allT_of ⟨rfl, trivial⟩) rfl rfl rfl rfl rfl
            refine athen_norm ?_
            refine awc_cond (b := (((decide (x12.1 < 0)) || (decide (p0 ≤ x12.1))) || (((decide (x12.2.1 = 2)) || (decide (x12.2.1 = 3))) && (decide (x12.2.2.1 < 1)))) || (((decide (x12.2.1 = 4)) || (decide (x12.2.1 = 5))) && (decide (x12.2.2.2.1 < 1)))) rfl (fun hc15 => ?_) (fun hc15 => ?_)
            · have hr := if_t hc15 hr
              refine awc_seq ?_
              refine awc_region ?_
              refine awl_v (av_move rfl) ?_
              refine awl_v (av_assign rfl) ?_
              refine awl_v (av_assign rfl) ?_
              have hr := Option.some.inj hr
              subst hr
              exact awl_nil (athen_norm (awc_ret (athen_ret (ablock_ret (⟨rfl, (wk_of hX [] 4 rfl rfl ⟨⟨_, rfl, cv0⟩, ⟨_, rfl, cv0⟩, trivial⟩ trivial)⟩)))))
            · have hr := if_f hc15 hr
              refine awc_skip (athen_norm (awc_seq (awc_seq ?_)))
              refine awc_region ?_
              refine awl_v (av_load_ptrN ts50 rfl rfl rfl rfl) ?_
              obtain ⟨x16, e17, hr⟩ := bnd_some hr
              refine awl_v (av_call (f50_runs e17) ent50 rfl rfl) ?_
              refine awl_v (av_not rfl) ?_
              refine awl_nil (athen_norm ?_)
              refine awc_cond (b := !x16) rfl (fun hc18 => ?_) (fun hc18 => ?_)
              · have hr := if_t hc18 hr
                refine awc_seq ?_
                refine awc_region ?_
                refine awl_v (av_move rfl) ?_
                refine awl_v (av_assign rfl) ?_
                refine awl_v (av_assign rfl) ?_
                have hr := Option.some.inj hr
                subst hr
                exact awl_nil (athen_norm (awc_ret (athen_ret (ablock_ret (⟨rfl, (wk_of hX [] 4 rfl rfl ⟨⟨_, rfl, cv0⟩, ⟨_, rfl, cv0⟩, trivial⟩ trivial)⟩)))))
              · have hr := if_f hc18 hr
                refine awc_skip (athen_norm (awc_seq (awc_seq ?_)))
                obtain ⟨h19, hr⟩ := chk_some hr
                obtain ⟨h20, hr⟩ := chk_some hr
                refine awc_draw mixed [0, 1, 4, 5, 17, 18, 19, 7, 6] [(true, .ptr 0 1), (true, .int .i64 x12.2.1), (true, .bool (!decide (x12.2.1 = 1))), (true, .bool (!decide (x12.2.1 = 1))), (!decide (x12.2.1 = 1), .ptr 0 1), (!decide (x12.2.1 = 1), .int .i64 x12.2.1), (!decide (x12.2.1 = 1), .bool (!decide (x12.2.1 = 3))), (true, .bool ((!decide (x12.2.1 = 1)) && (!decide (x12.2.1 = 3)))), (true, .bool ((!decide (x12.2.1 = 1)) && (!decide (x12.2.1 = 3)))), ((!decide (x12.2.1 = 1)) && (!decide (x12.2.1 = 3)), .sl Y1 p1), ((!decide (x12.2.1 = 1)) && (!decide (x12.2.1 = 3)), .int .i64 i2), ((!decide (x12.2.1 = 1)) && (!decide (x12.2.1 = 3)), .sl Y1 ((p1.take (Int.toNat i2)).drop (Int.toNat 0))), ((!decide (x12.2.1 = 1)) && (!decide (x12.2.1 = 3)), .ptr 0 1), ((!decide (x12.2.1 = 1)) && (!decide (x12.2.1 = 3)), .int .i64 x12.2.1), ((!decide (x12.2.1 = 1)) && (!decide (x12.2.1 = 3)), .ptr 0 2), ((!decide (x12.2.1 = 1)) && (!decide (x12.2.1 = 3)), .int .i64 x12.2.2.1), ((!decide (x12.2.1 = 1)) && (!decide (x12.2.1 = 3)), .ptr 0 3), ((!decide (x12.2.1 = 1)) && (!decide (x12.2.1 = 3)), .int .i64 x12.2.2.2.1), ((!decide (x12.2.1 = 1)) && (!decide (x12.2.1 = 3)), .int .i64 (w64 (x12.2.2.1 + x12.2.2.2.1))), ((!decide (x12.2.1 = 1)) && (!decide (x12.2.1 = 3)), .int .i64 ((f51 ((p1.take (Int.toNat i2)).drop (Int.toNat 0)) x12.2.1 (w64 (x12.2.2.1 + x12.2.2.2.1))).getD default)), ((!decide (x12.2.1 = 1)) && (!decide (x12.2.1 = 3)), .bool (decide (0 ≤ ((f51 ((p1.take (Int.toNat i2)).drop (Int.toNat 0)) x12.2.1 (w64 (x12.2.2.1 + x12.2.2.2.1))).getD default)))), (true, .bool (((!decide (x12.2.1 = 1)) && (!decide (x12.2.1 = 3))) && (decide (0 ≤ ((f51 ((p1.take (Int.toNat i2)).drop (Int.toNat 0)) x12.2.1 (w64 (x12.2.2.1 + x12.2.2.2.1))).getD default)))))] [[], [0], [1], [2], [3], [4, 3], [5, 3], [6, 3], [7], [8], [8], [9, 10, 8], [8], [12, 8], [8], [14, 8], [8], [16, 8], [15, 17, 8], [11, 13, 18, 8], [19, 8], [20, 8]] [21] rfl rfl rfl rfl rfl ⟨?_, ?_, ?_, ?_, ?_, ?_, ?_, ?_, ?_, ?_, ?_, ?_, ?_, ?_, ?_, ?_, ?_, ?_, ?_, ?_, ?_, ?_, trivial⟩ (allT_of ⟨rfl, trivial⟩) ?_
                · exact ob_v rfl (fun hg => allT_of trivial) (fun hg => av_fa_ptr fa50_1 rfl rfl)
                · exact ob_v rfl (fun hg => allT_of ⟨rfl, trivial⟩) (fun hg => av_load_ptr ts3 rfl rfl rfl)
                · exact ob_v rfl (fun hg => allT_of ⟨rfl, trivial⟩) (fun hg => av_neq rfl rfl)
                · exact ob_v rfl (fun hg => allT_of ⟨rfl, trivial⟩) (fun hg => av_move rfl)
                · exact ob_v ⟨rfl, rfl, rfl, _, rfl, rfl⟩ (fun hg => allT_of ⟨rfl, trivial⟩) (fun hg => av_fa_ptr fa50_1 rfl rfl)
                · exact ob_v ⟨rfl, rfl, rfl, _, rfl, rfl⟩ (fun hg => allT_of ⟨hg, rfl, trivial⟩) (fun hg => av_load_ptr ts3 rfl rfl rfl)
                · exact ob_v ⟨rfl, rfl, rfl, _, rfl, rfl⟩ (fun hg => allT_of ⟨hg, rfl, trivial⟩) (fun hg => av_neq rfl rfl)
                · exact ob_pick (b := true) (p := !decide (x12.2.1 = 1)) (q := !decide (x12.2.1 = 3)) rfl rfl rfl (fun hg => allT_of ⟨rfl, trivial⟩) rfl rfl rfl rfl rfl
                · exact ob_v rfl (fun hg => allT_of ⟨rfl, trivial⟩) (fun hg => av_move rfl)
                · exact ob_v ⟨rfl, rfl, rfl, _, rfl, rfl⟩ (fun hg => allT_of ⟨rfl, trivial⟩) (fun hg => av_move rfl)
                · exact ob_v ⟨rfl, rfl, rfl, _, rfl, rfl⟩ (fun hg => allT_of ⟨rfl, trivial⟩) (fun hg => av_move rfl)
                · exact ob_v ⟨rfl, rfl, rfl, _, rfl, rfl⟩ (fun hg => allT_of ⟨hg, hg, rfl, trivial⟩) (fun hg => av_slice_sl (t := Y1) (l := 0) (h := i2) und30 sz50 rfl rfl ⟨_, rfl⟩ (imp_g h19 hg))
                · exact ob_v ⟨rfl, rfl, rfl, _, rfl, rfl⟩ (fun hg => allT_of ⟨rfl, trivial⟩) (fun hg => av_fa_ptr fa50_1 rfl rfl)
                · exact ob_v ⟨rfl, rfl, rfl, _, rfl, rfl⟩ (fun hg => allT_of ⟨hg, rfl, trivial⟩) (fun hg => av_load_ptr ts3 rfl rfl rfl)
                · exact ob_v ⟨rfl, rfl, rfl, _, rfl, rfl⟩ (fun hg => allT_of ⟨rfl, trivial⟩) (fun hg => av_fa_ptr fa50_2 rfl rfl)
                · exact ob_v ⟨rfl, rfl, rfl, _, rfl, rfl⟩ (fun hg => allT_of ⟨hg, rfl, trivial⟩) (fun hg => av_load_ptr ts3 rfl rfl rfl)
                · exact ob_v ⟨rfl, rfl, rfl, _, rfl, rfl⟩ (fun hg => allT_of ⟨rfl, trivial⟩) (fun hg => av_fa_ptr fa50_3 rfl rfl)
                · exact ob_v ⟨rfl, rfl, rfl, _, rfl, rfl⟩ (fun hg => allT_of ⟨hg, rfl, trivial⟩) (fun hg => av_load_ptr ts3 rfl rfl rfl)
                · exact ob_v ⟨rfl, rfl, rfl, _, rfl, rfl⟩ (fun hg => allT_of ⟨hg, hg, rfl, trivial⟩) (fun hg => av_add rfl rfl)
                · exact ob_v ⟨rfl, rfl, rfl, _, rfl, rfl⟩ (fun hg => allT_of ⟨hg, hg, hg, rfl, trivial⟩) (fun hg => av_call (f51_runs (get_g h20 hg)) ent51 rfl rfl)
                · exact ob_v ⟨rfl, rfl, rfl, _, rfl, rfl⟩ (fun hg => allT_of ⟨hg, rfl, trivial⟩) (fun hg => av_geq rfl rfl)
                · exact ob_pick (b := true) (p := (!decide (x12.2.1 = 1)) && (!decide (x12.2.1 = 3))) (q := decide (0 ≤ ((f51 ((p1.take (Int.toNat i2)).drop (Int.toNat 0)) x12.2.1 (w64 (x12.2.2.1 + x12.2.2.2.1))).getD default))) rfl rfl rfl (fun hg => allT_of ⟨rfl, trivial⟩) rfl rfl rfl rfl rfl
                refine athen_norm ?_
                refine awc_cond (b := ((!decide (x12.2.1 = 1)) && (!decide (x12.2.1 = 3))) && (decide (0 ≤ ((f51 ((p1.take (Int.toNat i2)).drop (Int.toNat 0)) x12.2.1 (w64 (x12.2.2.1 + x12.2.2.2.1))).getD default)))) rfl (fun hc21 => ?_) (fun hc21 => ?_)
                · have hr := if_t hc21 hr
                  refine awc_seq ?_
                  refine awc_region ?_
                  refine awl_v (av_move rfl) ?_
                  refine awl_v (av_assign rfl) ?_
                  refine awl_v (av_assign rfl) ?_
                  have hr := Option.some.inj hr
                  subst hr
                  exact awl_nil (athen_norm (awc_ret (athen_ret (ablock_ret (⟨rfl, (wk_of hX [] 4 rfl rfl ⟨⟨_, rfl, cv0⟩, ⟨_, rfl, cv0⟩, trivial⟩ trivial)⟩)))))
                · have hr := if_f hc21 hr
                  refine awc_skip (athen_norm (awc_seq (awc_seq ?_)))
                  obtain ⟨h22, hr⟩ := chk_some hr
                  obtain ⟨h23, hr⟩ := chk_some hr
                  refine awc_draw mixed [0, 1, 4, 5, 17, 18, 19, 7, 6] [(true, .ptr 0 1), (true, .int .i64 x12.2.1), (true, .bool (decide (x12.2.1 = 3))), (true, .bool (decide (x12.2.1 = 3))), (decide (x12.2.1 = 3), .sl Y1 p1), (decide (x12.2.1 = 3), .int .i64 i2), (decide (x12.2.1 = 3), .sl Y1 ((p1.take (Int.toNat i2)).drop (Int.toNat 0))), (decide (x12.2.1 = 3), .ptr 0 2), (decide (x12.2.1 = 3), .int .i64 x12.2.2.1), (decide (x12.2.1 = 3), .int .i64 ((f51 ((p1.take (Int.toNat i2)).drop (Int.toNat 0)) 2 x12.2.2.1).getD default)), (decide (x12.2.1 = 3), .bool (decide (((f51 ((p1.take (Int.toNat i2)).drop (Int.toNat 0)) 2 x12.2.2.1).getD default) < 0))), (true, .bool ((decide (x12.2.1 = 3)) && (decide (((f51 ((p1.take (Int.toNat i2)).drop (Int.toNat 0)) 2 x12.2.2.1).getD default) < 0))))] [[], [0], [1], [2], [3], [3], [4, 5, 3], [3], [7, 3], [6, 8, 3], [9, 3], [10, 3]] [11] rfl rfl rfl rfl rfl ⟨?_, ?_, ?_, ?_, ?_, ?_, ?_, ?_, ?_, ?_, ?_, ?_, trivial⟩ (allT_of ⟨rfl, trivial⟩) ?_
                  · exact ob_v rfl (fun hg => allT_of trivial) (fun hg => av_fa_ptr fa50_1 rfl rfl)
                  · exact ob_v rfl (fun hg => allT_of ⟨rfl, trivial⟩) (fun hg => av_load_ptr ts3 rfl rfl rfl)
                  · exact ob_v rfl (fun hg => allT_of ⟨rfl, trivial⟩) (fun hg => av_eql rfl rfl)
                  · exact ob_v rfl (fun hg => allT_of ⟨rfl, trivial⟩) (fun hg => av_move rfl)
                  · exact ob_v ⟨rfl, rfl, rfl, _, rfl, rfl⟩ (fun hg => allT_of ⟨rfl, trivial⟩) (fun hg => av_move rfl)
                  · exact ob_v ⟨rfl, rfl, rfl, _, rfl, rfl⟩ (fun hg => allT_of ⟨rfl, trivial⟩) (fun hg => av_move rfl)
                  · exact ob_v ⟨rfl, rfl, rfl, _, rfl, rfl⟩ (fun hg => allT_of ⟨hg, hg, rfl, trivial⟩) (fun hg => av_slice_sl (t := Y1) (l := 0) (h := i2) und30 sz50 rfl rfl ⟨_, rfl⟩ (imp_g h22 hg))
                  · exact ob_v ⟨rfl, rfl, rfl, _, rfl, rfl⟩ (fun hg => allT_of ⟨rfl, trivial⟩) (fun hg => av_fa_ptr fa50_2 rfl rfl)
                  · exact ob_v ⟨rfl, rfl, rfl, _, rfl, rfl⟩ (fun hg => allT_of ⟨hg, rfl, trivial⟩) (fun hg => av_load_ptr ts3 rfl rfl rfl)
                  · exact ob_v ⟨rfl, rfl, rfl, _, rfl, rfl⟩ (fun hg => allT_of ⟨hg, hg, rfl, trivial⟩) (fun hg => av_call (f51_runs (get_g h23 hg)) ent51 rfl rfl)
                  · exact ob_v ⟨rfl, rfl, rfl, _, rfl, rfl⟩ (fun hg => allT_of ⟨hg, rfl, trivial⟩) (fun hg => av_lss rfl rfl)
                  · exact ob_pick (b := true) (p := decide (x12.2.1 = 3)) (q := decide (((f51 ((p1.take (Int.toNat i2)).drop (Int.toNat 0)) 2 x12.2.2.1).getD default) < 0)) rfl rfl rfl (fun hg => allT_of ⟨rfl, trivial⟩) rfl rfl rfl rfl rfl
                  refine athen_norm ?_
                  refine awc_cond (b := (decide (x12.2.1 = 3)) && (decide (((f51 ((p1.take (Int.toNat i2)).drop (Int.toNat 0)) 2 x12.2.2.1).getD default) < 0))) rfl (fun hc24 => ?_) (fun hc24 => ?_)
                  · have hr := if_t hc24 hr
                    refine awc_seq ?_
                    refine awc_region ?_
                    refine awl_v (av_move rfl) ?_
                    refine awl_v (av_assign rfl) ?_
                    refine awl_v (av_assign rfl) ?_
                    have hr := Option.some.inj hr
                    subst hr
                    exact awl_nil (athen_norm (awc_ret (athen_ret (ablock_ret (⟨rfl, (wk_of hX [] 4 rfl rfl ⟨⟨_, rfl, cv0⟩, ⟨_, rfl, cv0⟩, trivial⟩ trivial)⟩)))))
                  · have hr := if_f hc24 hr
                    refine awc_skip (athen_norm (awc_seq ?_))
                    refine awc_region ?_
                    refine awl_v (av_fa_ptr fa50_1 rfl rfl) ?_
                    refine awl_v (av_load_ptr ts3 rfl rfl rfl) ?_
                    refine awl_v (av_eql rfl rfl) ?_
                    refine awl_nil (athen_norm ?_)
                    refine awc_cond (b := decide (x12.2.1 = 5)) rfl (fun hc25 => ?_) (fun hc25 => ?_)
                    · have hr := if_t hc25 hr
                      refine awc_seq ?_
                      obtain ⟨h26, hr⟩ := chk_some hr
                      obtain ⟨x27, e28, hr⟩ := bnd_some hr
                      refine awc_draw mixed [0, 1, 4, 5, 17, 18, 19, 7, 6] [(true, .sl Y1 p1), (true, .int .i64 i2), (true, .sl Y1 ((p1.take (Int.toNat i2)).drop (Int.toNat 0))), (true, .ptr 0 3), (true, .int .i64 x12.2.2.2.1), (true, .int .i64 x27), (true, .int .i64 x27)] [[], [], [0, 1], [], [3], [2, 4], [5]] [6] rfl rfl rfl rfl rfl ⟨?_, ?_, ?_, ?_, ?_, ?_, ?_, trivial⟩ (allT_of ⟨rfl, trivial⟩) ?_
                      · exact ob_v rfl (fun hg => allT_of trivial) (fun hg => av_move rfl)
                      · exact ob_v rfl (fun hg => allT_of trivial) (fun hg => av_move rfl)
                      · exact ob_v rfl (fun hg => allT_of ⟨rfl, rfl, trivial⟩) (fun hg => av_slice_sl (t := Y1) (l := 0) (h := i2) und30 sz50 rfl rfl ⟨_, rfl⟩ h26)
                      · exact ob_v rfl (fun hg => allT_of trivial) (fun hg => av_fa_ptr fa50_3 rfl rfl)
                      · exact ob_v rfl (fun hg => allT_of ⟨rfl, trivial⟩) (fun hg => av_load_ptr ts3 rfl rfl rfl)
                      · exact ob_v rfl (fun hg => allT_of ⟨rfl, rfl, trivial⟩) (fun hg => av_call (f51_runs e28) ent51 rfl rfl)
                      · exact ob_v rfl (fun hg => allT_of ⟨rfl, trivial⟩) (fun hg => av_assign rfl)
                      refine athen_norm (awc_seq (awc_seq ?_))
                      refine awc_region ?_
                      refine awl_v (av_move rfl) ?_
                      refine awl_v (av_lss rfl rfl) ?_
                      refine awl_nil (athen_norm ?_)
                      refine awc_cond (b := decide (x27 < 0)) rfl (fun hc29 => ?_) (fun hc29 => ?_)
                      · have hr := if_t hc29 hr
                        refine awc_seq ?_
                        refine awc_region ?_
                        refine awl_v (av_move rfl) ?_
                        refine awl_v (av_assign rfl) ?_
                        refine awl_v (av_assign rfl) ?_
                        have hr := Option.some.inj hr
                        subst hr
                        exact awl_nil (athen_norm (awc_ret (athen_ret (ablock_ret (⟨rfl, (wk_of hX [] 4 rfl rfl ⟨⟨_, rfl, cv0⟩, ⟨_, rfl, cv0⟩, trivial⟩ trivial)⟩)))))
                      · have hr := if_f hc29 hr
                        refine awc_skip (athen_norm (awc_seq ?_))
                        obtain ⟨x30, e31, hr⟩ := bnd_some hr
                        refine awc_draw mixed [0, 1, 4, 5, 17, 18, 19, 7, 6, 10] [(true, .sl Y1 p1), (true, .int .i64 x27), (true, .rp [.int .i64 x30.1, .int .i64 x30.2.1, .int .i64 x30.2.2.1, .int .i64 x30.2.2.2.1, .str x30.2.2.2.2]), (true, .rp [.int .i64 x30.1, .int .i64 x30.2.1, .int .i64 x30.2.2.1, .int .i64 x30.2.2.2.1, .str x30.2.2.2.2]), (true, .int .i64 x30.1), (true, .ptr 0 0), (true, .int .i64 x12.1), (true, .bool (!decide (x30.1 = x12.1)))] [[], [], [0, 1], [2], [3], [], [5], [4, 6]] [7] rfl rfl rfl rfl rfl ⟨?_, ?_, ?_, ?_, ?_, ?_, ?_, ?_, trivial⟩ (allT_of ⟨rfl, trivial⟩) ?_
                        · exact ob_v rfl (fun hg => allT_of trivial) (fun hg => av_move rfl)
                        · exact ob_v rfl (fun hg => allT_of trivial) (fun hg => av_move rfl)
                        · exact ob_v rfl (fun hg => allT_of ⟨rfl, rfl, trivial⟩) (fun hg => av_ia_sl (t := Y1) (e := x30) und30 sz50 rfl rfl e31)
                        · exact ob_v rfl (fun hg => allT_of ⟨rfl, trivial⟩) (fun hg => av_fa_rp fa50_0 rfl rfl)
                        · exact ob_v rfl (fun hg => allT_of ⟨rfl, trivial⟩) (fun hg => av_load_rp ts3 rfl)
                        · exact ob_v rfl (fun hg => allT_of trivial) (fun hg => av_fa_ptr fa50_0 rfl rfl)
                        · exact ob_v rfl (fun hg => allT_of ⟨rfl, trivial⟩) (fun hg => av_load_ptr ts3 rfl rfl rfl)
                        · exact ob_v rfl (fun hg => allT_of ⟨rfl, rfl, trivial⟩) (fun hg => av_neq rfl rfl)
                        refine athen_norm ?_
                        refine awc_cond (b := !decide (x30.1 = x12.1)) rfl (fun hc32 => ?_) (fun hc32 => ?_)
                        · have hr := if_t hc32 hr
                          refine awc_seq ?_
                          refine awc_region ?_
                          refine awl_v (av_move rfl) ?_
                          refine awl_v (av_assign rfl) ?_
                          refine awl_v (av_assign rfl) ?_
                          have hr := Option.some.inj hr
                          subst hr
                          exact awl_nil (athen_norm (awc_ret (ablock_ret (⟨rfl, (wk_of hX [] 4 rfl rfl ⟨⟨_, rfl, cv0⟩, ⟨_, rfl, cv0⟩, trivial⟩ trivial)⟩))))
                        · have hr := if_f hc32 hr
                          have hr := Option.some.inj hr
                          subst hr
                          exact awc_skip (ablock_norm ((wk_of hX [] 4 rfl rfl ⟨⟨_, rfl, cv0⟩, ⟨_, rfl, cv0⟩, ⟨_, rfl, cv0⟩, ⟨_, rfl, cv0⟩, ⟨_, rfl, cv0⟩, ⟨_, rfl, cv0⟩, ⟨_, rfl, cv0⟩, trivial⟩ trivial)))
                    · have hr := if_f hc25 hr
                      have hr := Option.some.inj hr
                      subst hr
                      exact awc_skip (ablock_norm ((wk_of hX [] 4 rfl rfl ⟨⟨_, rfl, cv0⟩, ⟨_, rfl, cv0⟩, ⟨_, rfl, cv0⟩, ⟨_, rfl, cv0⟩, ⟨_, rfl, cv0⟩, ⟨_, rfl, cv0⟩, ⟨_, rfl, cv0⟩, trivial⟩ trivial)))
        · rintro _ rfl
          refine awc_region ?_
          refine awl_v (av_add rfl rfl) ?_
          refine awl_v (av_move rfl) ?_
          have hr := Option.some.inj hr
          subst hr
          exact awl_nil ((wk_of hX [] 4 rfl rfl ⟨⟨_, rfl, cv0⟩, ⟨_, rfl, cv0⟩, ⟨_, rfl, cv0⟩, ⟨_, rfl, cv0⟩, ⟨_, rfl, cv0⟩, ⟨_, rfl, cv0⟩, ⟨_, rfl, cv0⟩, trivial⟩ trivial))
        · rintro r rfl e st hne hx
          obtain s9 := r
          obtain ⟨rfl, hw⟩ := hx
          have hr := Option.some.inj hr
          subst hr
          exact ⟨rfl, (Wk.trans hw (wk_of hX [] 4 rfl rfl ⟨⟨_, rfl, cv0⟩, ⟨_, rfl, cv0⟩, trivial⟩ trivial))⟩
      · obtain rfl := rb_f hc8 ho
        exact awc_exit (athen_exit (⟨rfl, (wk_of hX [] 4 rfl rfl ⟨⟨_, rfl, cv0⟩, ⟨_, rfl, cv0⟩, trivial⟩ trivial)⟩))
theorem f18_runs {p0 : Int} {p1 : List (Int × Int × Int × Int × Str)} {r : Bool} (hr : f18 p0 p1 = some r) : RunsP Try.prog 18 [.int .i64 p0, .sl Y1 p1] [.bool r] := by
  refine runs_w Try.func18 Try.ntmps18 rfl (rs := [.tmp 4]) rfl rfl fun w0 X hX => ?_
  refine awc_seq ?_
  refine awc_region ?_
  refine awl_v (av_assign rfl) ?_
  refine awl_nil (athen_norm (awc_seq ?_))
  refine awc_region ?_
  refine awl_v (av_move rfl) ?_
  refine awl_v (av_move rfl) ?_
  obtain ⟨x1, e2, hr⟩ := bnd_some hr
  refine awl_v (av_call (f16_runs e2) ent16 rfl rfl) ?_
  refine awl_v (av_move rfl) ?_
  refine awl_v (av_extract rfl rfl) ?_
  refine awl_v (av_extract rfl rfl) ?_
  refine awl_v (av_assign rfl) ?_
  refine awl_v (av_assign rfl) ?_
  refine awl_nil (athen_norm (awc_seq ?_))
  refine awc_region ?_
  refine awl_v (av_move rfl) ?_
  refine awl_v (av_eql rfl rfl) ?_
  refine awl_v (av_assign rfl) ?_
  have hr := Option.some.inj hr
  subst hr
  exact awl_nil (athen_norm (awc_ret (ret_q (l' := [(4, .bool (decide (x1.2 = 0)))]) (wk_of hX [] 4 rfl rfl ⟨⟨_, rfl, cv0⟩, trivial⟩ trivial) rfl ⟨rfl, trivial⟩)))
theorem f53_runs {p0 : Int} {p1 : List (Int × Int × Int × Int × Str)} {p2 : List Int} {r : Int} (hr : f53 p0 p1 p2 = some r) : RunsP Try.prog 53 [.int .i64 p0, .sl Y1 p1, .sl (.int .i64) p2] [.int .i64 r] := by
  refine runs_w Try.func53 Try.ntmps53 rfl (rs := [.tmp 6]) rfl rfl fun w0 X hX => ?_
  refine awc_seq ?_
  refine awc_region ?_
  refine awl_v (av_assign rfl) ?_
  refine awl_nil (athen_norm (awc_seq (awc_seq ?_)))
  refine awc_region ?_
  refine awl_v (av_move rfl) ?_
  refine awl_v (av_move rfl) ?_
  obtain ⟨x1, e2, hr⟩ := bnd_some hr
  refine awl_v (av_call (f18_runs e2) ent18 rfl rfl) ?_
  refine awl_v (av_not rfl) ?_
  refine awl_nil (athen_norm ?_)
  refine awc_cond (b := !x1) rfl (fun hc3 => ?_) (fun hc3 => ?_)
  · have hr := if_t hc3 hr
    refine awc_seq ?_
    refine awc_region ?_
    refine awl_v (av_assign rfl) ?_
    have hr := Option.some.inj hr
    subst hr
    exact awl_nil (athen_norm (awc_ret (athen_ret (ret_q (l' := [(6, .int .i64 1)]) (wk_of hX [] 4 rfl rfl ⟨⟨_, rfl, cv0⟩, trivial⟩ trivial) rfl ⟨rfl, trivial⟩))))
  · have hr := if_f hc3 hr
    refine awc_skip (athen_norm (awc_seq (awc_seq ?_)))
    refine awc_region ?_
    refine awl_v (av_move rfl) ?_
    refine awl_v (av_len_sl (t := (.int .i64)) rfl rfl und22 rfl) ?_
    refine awl_v (av_move rfl) ?_
    refine awl_nil (athen_norm (awc_block ?_))
    obtain ⟨o6, e7, hr⟩ := bnd_some hr
    refine awc_len (t := 2) rfl (fun hl => ?_)
    refine awc_range (S := Unit) (R := Unit) (List.length p2 : Int) (f53_b0 p1 p2) (fun p => match p with | (i4, ()) => (⟨[(1, .sl Y1 p1), (6, .int .i64 0), (13, .sl (.int .i64) p2), (14, .int .i64 (List.length p2 : Int)), (15, .int .i64 i4)], [], 0⟩ : AS)) (fun o e st => match o with | .inl () => e = .exit 0 ∧ Wk X st ⟨[(6, .int .i64 0)], [], 0⟩ | .inr () => e = .ret ∧ Wk X st ⟨[(6, .int .i64 7)], [], 0⟩) (len_ok hl) e7 (wk_of hX [] 4 rfl rfl ⟨⟨_, rfl, cv0⟩, ⟨_, rfl, cv0⟩, ⟨_, rfl, cv0⟩, ⟨_, rfl, cv0⟩, ⟨_, rfl, cv0⟩, trivial⟩ trivial) ?_ ?_
    · intro e st hx
      rcases o6 with _ | _
      · obtain ⟨rfl, hw⟩ := hx
        refine ablock_here (athen_norm ((awc_wk hw) (awc_seq ?_)))
        refine awc_region ?_
        refine awl_v (av_assign rfl) ?_
        have hr := Option.some.inj hr
        subst hr
        exact awl_nil (athen_norm (awc_ret (ret_q (l' := [(6, .int .i64 0)]) (wk_of hX [] 4 rfl rfl ⟨⟨_, rfl, cv0⟩, trivial⟩ trivial) rfl ⟨rfl, trivial⟩)))
      · obtain ⟨rfl, hw⟩ := hx
        have hr := Option.some.inj hr
        subst hr
        exact ablock_ret (athen_ret (ret_q (l' := [(6, .int .i64 7)]) (Wk.trans hw (wk_of hX [] 4 rfl rfl ⟨⟨_, rfl, cv0⟩, trivial⟩ trivial)) rfl ⟨rfl, trivial⟩))
    · rintro i4 _ o ho
      refine awc_seq ?_
      refine awc_region ?_
      refine awl_v (av_lss rfl rfl) ?_
      refine awl_nil (athen_norm (awc_seq ?_))
      refine awc_cond (b := decide (i4 < (List.length p2 : Int))) rfl (fun hc8 => ?_) (fun hc8 => ?_)
      · obtain ⟨q, hr, rfl⟩ := rb_t hc8 ho
        refine awc_skip (athen_norm (awc_seq (awc_block (awc_seq ?_))))
        refine awc_region ?_
        obtain ⟨x9, e10, hr⟩ := bnd_some hr
        refine awl_v (av_ia_sl (t := (.int .i64)) (e := x9) und22 sz3 rfl rfl e10) ?_
        refine awl_v (av_load_rp ts3 rfl) ?_
        refine awl_v (av_assign rfl) ?_
        refine awl_nil (athen_norm (awc_seq ?_))
        refine awc_text [1, 6, 13, 14, 15, 8] [(true, .int .i64 x9), (true, .bool (decide (x9 < 0))), (true, .bool (decide (x9 < 0))), (!(decide (x9 < 0)), .int .i64 x9), (!(decide (x9 < 0)), .sl Y1 p1), (!(decide (x9 < 0)), .int .i64 (List.length p1 : Int)), (!(decide (x9 < 0)), .bool (decide ((List.length p1 : Int) ≤ x9))), (true, .bool ((decide (x9 < 0)) || (decide ((List.length p1 : Int) ≤ x9))))] [[], [0], [1], [2], [2], [4, 2], [3, 5, 2], [6, 2]] [7] rfl rfl rfl rfl rfl ⟨?_, ?_, ?_, ?_, ?_, ?_, ?_, ?_, trivial⟩ (allT_of ⟨rfl, trivial⟩) ?_
        · exact ob_v rfl (fun hg => allT_of trivial) (fun hg => av_move rfl)
        · exact ob_v rfl (fun hg => allT_of ⟨rfl, trivial⟩) (fun hg => av_lss rfl rfl)
        · exact ob_v rfl (fun hg => allT_of ⟨rfl, trivial⟩) (fun hg => av_move rfl)
        · exact ob_v ⟨rfl, rfl, rfl, _, rfl, rfl⟩ (fun hg => allT_of ⟨rfl, trivial⟩) (fun hg => av_move rfl)
        · exact ob_v ⟨rfl, rfl, rfl, _, rfl, rfl⟩ (fun hg => allT_of ⟨rfl, trivial⟩) (fun hg => av_move rfl)
        · exact ob_v ⟨rfl, rfl, rfl, _, rfl, rfl⟩ (fun hg => allT_of ⟨hg, rfl, trivial⟩) (fun hg => av_len_sl (t := Y1) rfl rfl und30 rfl)
        · exact ob_v ⟨rfl, rfl, rfl, _, rfl, rfl⟩ (fun hg => allT_of ⟨hg, hg, rfl, trivial⟩) (fun hg => av_geq rfl rfl)
        · exact ob_pick (b := false) (p := decide (x9 < 0)) (q := decide ((List.length p1 : Int) ≤ x9)) rfl rfl rfl (fun hg => allT_of ⟨rfl, trivial⟩) rfl rfl rfl rfl rfl
        refine athen_norm ?_
        refine awc_cond (b := (decide (x9 < 0)) || (decide ((List.length p1 : Int) ≤ x9))) rfl (fun hc11 => ?_) (fun hc11 => ?_)
        · have hr := if_t hc11 hr
          refine awc_seq ?_
          refine awc_region ?_
          refine awl_v (av_assign rfl) ?_
          have hr := Option.some.inj hr
          subst hr
          exact awl_nil (athen_norm (awc_ret (ablock_ret (athen_ret (⟨rfl, (wk_of hX [] 4 rfl rfl ⟨⟨_, rfl, cv0⟩, trivial⟩ trivial)⟩)))))
        · have hr := if_f hc11 hr
          refine awc_skip (ablock_norm (athen_norm ?_))
          refine awc_region ?_
          refine awl_v (av_add rfl rfl) ?_
          refine awl_v (av_move rfl) ?_
          have hr := Option.some.inj hr
          subst hr
          exact awl_nil ((wk_of hX [] 4 rfl rfl ⟨⟨_, rfl, cv0⟩, ⟨_, rfl, cv0⟩, ⟨_, rfl, cv0⟩, ⟨_, rfl, cv0⟩, ⟨_, rfl, cv0⟩, trivial⟩ trivial))
      · obtain rfl := rb_f hc8 ho
        exact awc_exit (athen_exit (⟨rfl, (wk_of hX [] 4 rfl rfl ⟨⟨_, rfl, cv0⟩, trivial⟩ trivial)⟩))
theorem f56_runs {p0 : List (Int × Int × Int × Int × Str)} {p1 : Int} {p2 : Int} {r : Bool} (hr : f56 p0 p1 p2 = some r) : RunsP Try.prog 56 [.sl Y1 p0, .int .i64 p1, .int .i64 p2] [.bool r] := by
  refine runs_w Try.func56 Try.ntmps56 rfl (rs := [.tmp 6]) rfl rfl fun w0 X hX => ?_
  refine awc_seq ?_
  refine awc_region ?_
  refine awl_v (av_assign rfl) ?_
  refine awl_nil (athen_norm (awc_seq (awc_seq ?_)))
  obtain ⟨x1, e2, hr⟩ := bnd_some hr
  obtain ⟨h3, hr⟩ := chk_some hr
  obtain ⟨h4, hr⟩ := chk_some hr
  obtain ⟨h5, hr⟩ := chk_some hr
  refine awc_draw mixed [0, 1, 2, 6] [(true, .sl Y1 p0), (true, .int .i64 p1), (true, .rp [.int .i64 x1.1, .int .i64 x1.2.1, .int .i64 x1.2.2.1, .int .i64 x1.2.2.2.1, .str x1.2.2.2.2]), (true, .rp [.int .i64 x1.2.1, .int .i64 x1.2.2.1, .int .i64 x1.2.2.2.1, .str x1.2.2.2.2]), (true, .int .i64 x1.2.1), (true, .bool (decide (x1.2.1 = 2))), (true, .bool (decide (x1.2.1 = 2))), (decide (x1.2.1 = 2), .sl Y1 p0), (decide (x1.2.1 = 2), .int .i64 p2), (decide (x1.2.1 = 2), .rp [.int .i64 ((((ix p0 p2).getD default)).1), .int .i64 (((((ix p0 p2).getD default)).2).1), .int .i64 ((((((ix p0 p2).getD default)).2).2).1), .int .i64 (((((((ix p0 p2).getD default)).2).2).2).1), .str (((((((ix p0 p2).getD default)).2).2).2).2)]), (decide (x1.2.1 = 2), .rp [.int .i64 (((((ix p0 p2).getD default)).2).1), .int .i64 ((((((ix p0 p2).getD default)).2).2).1), .int .i64 (((((((ix p0 p2).getD default)).2).2).2).1), .str (((((((ix p0 p2).getD default)).2).2).2).2)]), (decide (x1.2.1 = 2), .int .i64 (((((ix p0 p2).getD default)).2).1)), (decide (x1.2.1 = 2), .bool (decide ((((((ix p0 p2).getD default)).2).1) = 3))), (true, .bool ((decide (x1.2.1 = 2)) && (decide ((((((ix p0 p2).getD default)).2).1) = 3)))), (true, .bool ((decide (x1.2.1 = 2)) && (decide ((((((ix p0 p2).getD default)).2).1) = 3)))), ((decide (x1.2.1 = 2)) && (decide ((((((ix p0 p2).getD default)).2).1) = 3)), .sl Y1 p0), ((decide (x1.2.1 = 2)) && (decide ((((((ix p0 p2).getD default)).2).1) = 3)), .int .i64 p1), ((decide (x1.2.1 = 2)) && (decide ((((((ix p0 p2).getD default)).2).1) = 3)), .rp [.int .i64 ((((ix p0 p1).getD default)).1), .int .i64 (((((ix p0 p1).getD default)).2).1), .int .i64 ((((((ix p0 p1).getD default)).2).2).1), .int .i64 (((((((ix p0 p1).getD default)).2).2).2).1), .str (((((((ix p0 p1).getD default)).2).2).2).2)]), ((decide (x1.2.1 = 2)) && (decide ((((((ix p0 p2).getD default)).2).1) = 3)), .rp [.int .i64 ((((((ix p0 p1).getD default)).2).2).1), .int .i64 (((((((ix p0 p1).getD default)).2).2).2).1), .str (((((((ix p0 p1).getD default)).2).2).2).2)]), ((decide (x1.2.1 = 2)) && (decide ((((((ix p0 p2).getD default)).2).1) = 3)), .int .i64 ((((((ix p0 p1).getD default)).2).2).1)), ((decide (x1.2.1 = 2)) && (decide ((((((ix p0 p2).getD default)).2).1) = 3)), .sl Y1 p0), ((decide (x1.2.1 = 2)) && (decide ((((((ix p0 p2).getD default)).2).1) = 3)), .int .i64 p2), ((decide (x1.2.1 = 2)) && (decide ((((((ix p0 p2).getD default)).2).1) = 3)), .rp [.int .i64 ((((ix p0 p2).getD default)).1), .int .i64 (((((ix p0 p2).getD default)).2).1), .int .i64 ((((((ix p0 p2).getD default)).2).2).1), .int .i64 (((((((ix p0 p2).getD default)).2).2).2).1), .str (((((((ix p0 p2).getD default)).2).2).2).2)]), ((decide (x1.2.1 = 2)) && (decide ((((((ix p0 p2).getD default)).2).1) = 3)), .rp [.int .i64 ((((((ix p0 p2).getD default)).2).2).1), .int .i64 (((((((ix p0 p2).getD default)).2).2).2).1), .str (((((((ix p0 p2).getD default)).2).2).2).2)]), ((decide (x1.2.1 = 2)) && (decide ((((((ix p0 p2).getD default)).2).1) = 3)), .int .i64 ((((((ix p0 p2).getD default)).2).2).1)), ((decide (x1.2.1 = 2)) && (decide ((((((ix p0 p2).getD default)).2).1) = 3)), .bool (decide (((((((ix p0 p1).getD default)).2).2).1) = ((((((ix p0 p2).getD default)).2).2).1)))), (true, .bool (((decide (x1.2.1 = 2)) && (decide ((((((ix p0 p2).getD default)).2).1) = 3))) && (decide (((((((ix p0 p1).getD default)).2).2).1) = ((((((ix p0 p2).getD default)).2).2).1)))))] [[], [], [0, 1], [2], [3], [4], [5], [6], [6], [7, 8, 6], [9, 6], [10, 6], [11, 6], [12, 6], [13], [14], [14], [15, 16, 14], [17, 14], [18, 14], [14], [14], [20, 21, 14], [22, 14], [23, 14], [19, 24, 14], [25, 14]] [26] rfl rfl rfl rfl rfl ⟨?_, ?_, ?_, ?_, ?_, ?_, ?_, ?_, ?_, ?_, ?_, ?_, ?_, ?_, ?_, ?_, ?_, ?_, ?_, ?_, ?_, ?_, ?_, ?_, ?_, ?_, ?_, trivial⟩ (allT_of ⟨rfl, trivial⟩) ?_
  · exact ob_v rfl (fun hg => allT_of trivial) (fun hg => av_move rfl)
  · exact ob_v rfl (fun hg => allT_of trivial) (fun hg => av_move rfl)
  · exact ob_v rfl (fun hg => allT_of ⟨rfl, rfl, trivial⟩) (fun hg => av_ia_sl (t := Y1) (e := x1) und30 sz50 rfl rfl e2)
  · exact ob_v rfl (fun hg => allT_of ⟨rfl, trivial⟩) (fun hg => av_fa_rp fa50_1 rfl rfl)
  · exact ob_v rfl (fun hg => allT_of ⟨rfl, trivial⟩) (fun hg => av_load_rp ts3 rfl)
  · exact ob_v rfl (fun hg => allT_of ⟨rfl, trivial⟩) (fun hg => av_eql rfl rfl)
  · exact ob_v rfl (fun hg => allT_of ⟨rfl, trivial⟩) (fun hg => av_move rfl)
  · exact ob_v ⟨rfl, rfl, rfl, _, rfl, rfl⟩ (fun hg => allT_of ⟨rfl, trivial⟩) (fun hg => av_move rfl)
  · exact ob_v ⟨rfl, rfl, rfl, _, rfl, rfl⟩ (fun hg => allT_of ⟨rfl, trivial⟩) (fun hg => av_move rfl)
  · exact ob_v ⟨rfl, rfl, rfl, _, rfl, rfl⟩ (fun hg => allT_of ⟨hg, hg, rfl, trivial⟩) (fun hg => av_ia_sl (t := Y1) (e := ((ix p0 p2).getD default)) und30 sz50 rfl rfl (get_g h3 hg))
  · exact ob_v ⟨rfl, rfl, rfl, _, rfl, rfl⟩ (fun hg => allT_of ⟨hg, rfl, trivial⟩) (fun hg => av_fa_rp fa50_1 rfl rfl)
  · exact ob_v ⟨rfl, rfl, rfl, _, rfl, rfl⟩ (fun hg => allT_of ⟨hg, rfl, trivial⟩) (fun hg => av_load_rp ts3 rfl)
  · exact ob_v ⟨rfl, rfl, rfl, _, rfl, rfl⟩ (fun hg => allT_of ⟨hg, rfl, trivial⟩) (fun hg => av_eql rfl rfl)
  · exact ob_pick (b := true) (p := decide (x1.2.1 = 2)) (q := decide ((((((ix p0 p2).getD default)).2).1) = 3)) rfl rfl rfl (fun hg => allT_of ⟨rfl, trivial⟩) rfl rfl rfl rfl rfl
  · exact ob_v rfl (fun hg => allT_of ⟨rfl, trivial⟩) (fun hg => av_move rfl)
  · exact ob_v ⟨rfl, rfl, rfl, _, rfl, rfl⟩ (fun hg => allT_of ⟨rfl, trivial⟩) (fun hg => av_move rfl)
  · exact ob_v ⟨rfl, rfl, rfl, _, rfl, rfl⟩ (fun hg => allT_of ⟨rfl, trivial⟩) (fun hg => av_move rfl)
  · exact ob_v ⟨rfl, rfl, rfl, _, rfl, rfl⟩ (fun hg => allT_of ⟨hg, hg, rfl, trivial⟩) (fun hg => av_ia_sl (t := Y1) (e := ((ix p0 p1).getD default)) und30 sz50 rfl rfl (get_g h4 hg))
  · exact ob_v ⟨rfl, rfl, rfl, _, rfl, rfl⟩ (fun hg => allT_of ⟨hg, rfl, trivial⟩) (fun hg => av_fa_rp fa50_2 rfl rfl)
  · exact ob_v ⟨rfl, rfl, rfl, _, rfl, rfl⟩ (fun hg => allT_of ⟨hg, rfl, trivial⟩) (fun hg => av_load_rp ts3 rfl)
  · exact ob_v ⟨rfl, rfl, rfl, _, rfl, rfl⟩ (fun hg => allT_of ⟨rfl, trivial⟩) (fun hg => av_move rfl)
  · exact ob_v ⟨rfl, rfl, rfl, _, rfl, rfl⟩ (fun hg => allT_of ⟨rfl, trivial⟩) (fun hg => av_move rfl)
  · exact ob_v ⟨rfl, rfl, rfl, _, rfl, rfl⟩ (fun hg => allT_of ⟨hg, hg, rfl, trivial⟩) (fun hg => av_ia_sl (t := Y1) (e := ((ix p0 p2).getD default)) und30 sz50 rfl rfl (get_g h5 hg))
  · exact ob_v ⟨rfl, rfl, rfl, _, rfl, rfl⟩ (fun hg => allT_of ⟨hg, rfl, trivial⟩) (fun hg => av_fa_rp fa50_2 rfl rfl)
  · exact ob_v ⟨rfl, rfl, rfl, _, rfl, rfl⟩ (fun hg => allT_of ⟨hg, rfl, trivial⟩) (fun hg => av_load_rp ts3 rfl)
  · exact ob_v ⟨rfl, rfl, rfl, _, rfl, rfl⟩ (fun hg => allT_of ⟨hg, hg, rfl, trivial⟩) (fun hg => av_eql rfl rfl)
  · exact ob_pick (b := true) (p := (decide (x1.2.1 = 2)) && (decide ((((((ix p0 p2).getD default)).2).1) = 3))) (q := decide (((((((ix p0 p1).getD default)).2).2).1) = ((((((ix p0 p2).getD default)).2).2).1))) rfl rfl rfl (fun hg => allT_of ⟨rfl, trivial⟩) rfl rfl rfl rfl rfl
  refine athen_norm ?_
  refine awc_cond (b := ((decide (x1.2.1 = 2)) && (decide ((((((ix p0 p2).getD default)).2).1) = 3))) && (decide (((((((ix p0 p1).getD default)).2).2).1) = ((((((ix p0 p2).getD default)).2).2).1)))) rfl (fun hc6 => ?_) (fun hc6 => ?_)
  · have hr := if_t hc6 hr
    refine awc_seq ?_
    refine awc_region ?_
    refine awl_v (av_assign rfl) ?_
    have hr := Option.some.inj hr
    subst hr
    exact awl_nil (athen_norm (awc_ret (athen_ret (ret_q (l' := [(6, .bool true)]) (wk_of hX [] 4 rfl rfl ⟨⟨_, rfl, cv0⟩, trivial⟩ trivial) rfl ⟨rfl, trivial⟩))))
  · have hr := if_f hc6 hr
    refine awc_skip (athen_norm (awc_seq (awc_seq ?_)))
    obtain ⟨h7, hr⟩ := chk_some hr
    obtain ⟨h8, hr⟩ := chk_some hr
    refine awc_draw mixed [0, 1, 2, 6] [(true, .int .i64 p1), (true, .int .i64 p2), (true, .bool (decide (p2 ≤ p1))), (true, .bool (decide (p2 ≤ p1))), (!(decide (p2 ≤ p1)), .sl Y1 p0), (!(decide (p2 ≤ p1)), .int .i64 p1), (!(decide (p2 ≤ p1)), .rp [.int .i64 ((((ix p0 p1).getD default)).1), .int .i64 (((((ix p0 p1).getD default)).2).1), .int .i64 ((((((ix p0 p1).getD default)).2).2).1), .int .i64 (((((((ix p0 p1).getD default)).2).2).2).1), .str (((((((ix p0 p1).getD default)).2).2).2).2)]), (!(decide (p2 ≤ p1)), .rp [.int .i64 ((((ix p0 p1).getD default)).1), .int .i64 (((((ix p0 p1).getD default)).2).1), .int .i64 ((((((ix p0 p1).getD default)).2).2).1), .int .i64 (((((((ix p0 p1).getD default)).2).2).2).1), .str (((((((ix p0 p1).getD default)).2).2).2).2)]), (!(decide (p2 ≤ p1)), .int .i64 ((((ix p0 p1).getD default)).1)), (!(decide (p2 ≤ p1)), .sl Y1 p0), (!(decide (p2 ≤ p1)), .int .i64 p2), (!(decide (p2 ≤ p1)), .rp [.int .i64 ((((ix p0 p2).getD default)).1), .int .i64 (((((ix p0 p2).getD default)).2).1), .int .i64 ((((((ix p0 p2).getD default)).2).2).1), .int .i64 (((((((ix p0 p2).getD default)).2).2).2).1), .str (((((((ix p0 p2).getD default)).2).2).2).2)]), (!(decide (p2 ≤ p1)), .rp [.int .i64 ((((ix p0 p2).getD default)).1), .int .i64 (((((ix p0 p2).getD default)).2).1), .int .i64 ((((((ix p0 p2).getD default)).2).2).1), .int .i64 (((((((ix p0 p2).getD default)).2).2).2).1), .str (((((((ix p0 p2).getD default)).2).2).2).2)]), (!(decide (p2 ≤ p1)), .int .i64 ((((ix p0 p2).getD default)).1)), (!(decide (p2 ≤ p1)), .bool (!decide (((((ix p0 p1).getD default)).1) = ((((ix p0 p2).getD default)).1)))), (true, .bool ((decide (p2 ≤ p1)) || (!decide (((((ix p0 p1).getD default)).1) = ((((ix p0 p2).getD default)).1)))))] [[], [], [0, 1], [2], [3], [3], [4, 5, 3], [6, 3], [7, 3], [3], [3], [9, 10, 3], [11, 3], [12, 3], [8, 13, 3], [14, 3]] [15] rfl rfl rfl rfl rfl ⟨?_, ?_, ?_, ?_, ?_, ?_, ?_, ?_, ?_, ?_, ?_, ?_, ?_, ?_, ?_, ?_, trivial⟩ (allT_of ⟨rfl, trivial⟩) ?_
    · exact ob_v rfl (fun hg => allT_of trivial) (fun hg => av_move rfl)
    · exact ob_v rfl (fun hg => allT_of trivial) (fun hg => av_move rfl)
    · exact ob_v rfl (fun hg => allT_of ⟨rfl, rfl, trivial⟩) (fun hg => av_geq rfl rfl)
    · exact ob_v rfl (fun hg => allT_of ⟨rfl, trivial⟩) (fun hg => av_move rfl)
    · exact ob_v ⟨rfl, rfl, rfl, _, rfl, rfl⟩ (fun hg => allT_of ⟨rfl, trivial⟩) (fun hg => av_move rfl)
    · exact ob_v ⟨rfl, rfl, rfl, _, rfl, rfl⟩ (fun hg => allT_of ⟨rfl, trivial⟩) (fun hg => av_move rfl)
    · exact ob_v ⟨rfl, rfl, rfl, _, rfl, rfl⟩ (fun hg => allT_of ⟨hg, hg, rfl, trivial⟩) (fun hg => av_ia_sl (t := Y1) (e := ((ix p0 p1).getD default)) und30 sz50 rfl rfl (get_g h7 hg))
    · exact ob_v ⟨rfl, rfl, rfl, _, rfl, rfl⟩ (fun hg => allT_of ⟨hg, rfl, trivial⟩) (fun hg => av_fa_rp fa50_0 rfl rfl)
    · exact ob_v ⟨rfl, rfl, rfl, _, rfl, rfl⟩ (fun hg => allT_of ⟨hg, rfl, trivial⟩) (fun hg => av_load_rp ts3 rfl)
    · exact ob_v ⟨rfl, rfl, rfl, _, rfl, rfl⟩ (fun hg => allT_of ⟨rfl, trivial⟩) (fun hg => av_move rfl)
    · exact ob_v ⟨rfl, rfl, rfl, _, rfl, rfl⟩ (fun hg => allT_of ⟨rfl, trivial⟩) (fun hg => av_move rfl)
    · exact ob_v ⟨rfl, rfl, rfl, _, rfl, rfl⟩ (fun hg => allT_of ⟨hg, hg, rfl, trivial⟩) (fun hg => av_ia_sl (t := Y1) (e := ((ix p0 p2).getD default)) und30 sz50 rfl rfl (get_g h8 hg))
    · exact ob_v ⟨rfl, rfl, rfl, _, rfl, rfl⟩ (fun hg => allT_of ⟨hg, rfl, trivial⟩) (fun hg => av_fa_rp fa50_0 rfl rfl)
    · exact ob_v ⟨rfl, rfl, rfl, _, rfl, rfl⟩ (fun hg => allT_of ⟨hg, rfl, trivial⟩) (fun hg => av_load_rp ts3 rfl)
    · exact ob_v ⟨rfl, rfl, rfl, _, rfl, rfl⟩ (fun hg => allT_of ⟨hg, hg, rfl, trivial⟩) (fun hg => av_neq rfl rfl)
    · exact ob_pick (b := false) (p := decide (p2 ≤ p1)) (q := !decide (((((ix p0 p1).getD default)).1) = ((((ix p0 p2).getD default)).1))) rfl rfl rfl (fun hg => allT_of ⟨rfl, trivial⟩) rfl rfl rfl rfl rfl
    refine athen_norm ?_
    refine awc_cond (b := (decide (p2 ≤ p1)) || (!decide (((((ix p0 p1).getD default)).1) = ((((ix p0 p2).getD default)).1)))) rfl (fun hc9 => ?_) (fun hc9 => ?_)
    · have hr := if_t hc9 hr
      refine awc_seq ?_
      refine awc_region ?_
      refine awl_v (av_assign rfl) ?_
      have hr := Option.some.inj hr
      subst hr
      exact awl_nil (athen_norm (awc_ret (athen_ret (ret_q (l' := [(6, .bool false)]) (wk_of hX [] 4 rfl rfl ⟨⟨_, rfl, cv0⟩, trivial⟩ trivial) rfl ⟨rfl, trivial⟩))))
    · have hr := if_f hc9 hr
      refine awc_skip (athen_norm (awc_seq (awc_seq ?_)))
      refine awc_region ?_
      refine awl_v (av_move rfl) ?_
      refine awl_v (av_move rfl) ?_
      refine awl_v (av_add rfl rfl) ?_
      refine awl_v (av_move rfl) ?_
      obtain ⟨h10, hr⟩ := chk_some hr
      refine awl_v (av_slice_sl (t := Y1) (l := (w64 (p1 + 1))) (h := p2) und30 sz50 rfl ⟨_, rfl⟩ ⟨_, rfl⟩ h10) ?_
      refine awl_v (av_len_sl (t := Y1) rfl rfl und30 rfl) ?_
      refine awl_v (av_move rfl) ?_
      refine awl_nil (athen_norm (awc_block ?_))
      obtain ⟨o13, e14, hr⟩ := bnd_some hr
      refine awc_len (t := 56) rfl (fun hl => ?_)
      refine awc_range (S := Unit) (R := Unit) (List.length ((p0.take (Int.toNat p2)).drop (Int.toNat (w64 (p1 + 1)))) : Int) (f56_b0 p0 p1 p2) (fun p => match p with | (i11, ()) => (⟨[(0, .sl Y1 p0), (1, .int .i64 p1), (6, .bool false), (56, .sl Y1 ((p0.take (Int.toNat p2)).drop (Int.toNat (w64 (p1 + 1))))), (57, .int .i64 (List.length ((p0.take (Int.toNat p2)).drop (Int.toNat (w64 (p1 + 1)))) : Int)), (58, .int .i64 i11)], [], 0⟩ : AS)) (fun o e st => match o with | .inl () => e = .exit 0 ∧ Wk X st ⟨[(6, .bool false)], [], 0⟩ | .inr () => e = .ret ∧ Wk X st ⟨[(6, .bool false)], [], 0⟩) (len_ok hl) e14 (wk_of hX [] 4 rfl rfl ⟨⟨_, rfl, cv0⟩, ⟨_, rfl, cv0⟩, ⟨_, rfl, cv0⟩, ⟨_, rfl, cv0⟩, ⟨_, rfl, cv0⟩, ⟨_, rfl, cv0⟩, trivial⟩ trivial) ?_ ?_
      · intro e st hx
        rcases o13 with _ | _
        · obtain ⟨rfl, hw⟩ := hx
          refine ablock_here (athen_norm ((awc_wk hw) (awc_seq ?_)))
          refine awc_region ?_
          refine awl_v (av_assign rfl) ?_
          have hr := Option.some.inj hr
          subst hr
          exact awl_nil (athen_norm (awc_ret (ret_q (l' := [(6, .bool true)]) (wk_of hX [] 4 rfl rfl ⟨⟨_, rfl, cv0⟩, trivial⟩ trivial) rfl ⟨rfl, trivial⟩)))
        · obtain ⟨rfl, hw⟩ := hx
          have hr := Option.some.inj hr
          subst hr
          exact ablock_ret (athen_ret (ret_q (l' := [(6, .bool false)]) (Wk.trans hw (wk_of hX [] 4 rfl rfl ⟨⟨_, rfl, cv0⟩, trivial⟩ trivial)) rfl ⟨rfl, trivial⟩))
      · rintro i11 _ o ho
        refine awc_seq ?_
        refine awc_region ?_
        refine awl_v (av_lss rfl rfl) ?_
        refine awl_nil (athen_norm (awc_seq ?_))
        refine awc_cond (b := decide (i11 < (List.length ((p0.take (Int.toNat p2)).drop (Int.toNat (w64 (p1 + 1)))) : Int))) rfl (fun hc15 => ?_) (fun hc15 => ?_)
        · obtain ⟨q, hr, rfl⟩ := rb_t hc15 ho
          refine awc_skip (athen_norm (awc_seq (awc_block (awc_seq ?_))))
          refine awc_region ?_
          obtain ⟨x16, e17, hr⟩ := bnd_some hr
          refine awl_v (av_ia_sl (t := Y1) (e := x16) und30 sz50 rfl rfl e17) ?_
          refine awl_v (av_load_rpN ts50 rfl rfl rfl) ?_
          refine awl_op (aop_alloc zero50 rfl ?_)
          refine awl_op (aop_store sz50 rfl rfl rfl rfl rfl rfl rfl ?_)
          refine awl_nil (athen_norm (awc_seq ?_))
          obtain ⟨x18, e19, hr⟩ := bnd_some hr
          refine awc_draw mixed [0, 1, 6, 56, 57, 58, 8] [(true, .ptr 0 0), (true, .int .i64 x16.1), (true, .sl Y1 p0), (true, .int .i64 p1), (true, .rp [.int .i64 x18.1, .int .i64 x18.2.1, .int .i64 x18.2.2.1, .int .i64 x18.2.2.2.1, .str x18.2.2.2.2]), (true, .rp [.int .i64 x18.1, .int .i64 x18.2.1, .int .i64 x18.2.2.1, .int .i64 x18.2.2.2.1, .str x18.2.2.2.2]), (true, .int .i64 x18.1), (true, .bool (decide (x16.1 = x18.1)))] [[], [0], [], [], [2, 3], [4], [5], [1, 6]] [7] rfl rfl rfl rfl rfl ⟨?_, ?_, ?_, ?_, ?_, ?_, ?_, ?_, trivial⟩ (allT_of ⟨rfl, trivial⟩) ?_
          · exact ob_v rfl (fun hg => allT_of trivial) (fun hg => av_fa_ptr fa50_0 rfl rfl)
          · exact ob_v rfl (fun hg => allT_of ⟨rfl, trivial⟩) (fun hg => av_load_ptr ts3 rfl rfl rfl)
          · exact ob_v rfl (fun hg => allT_of trivial) (fun hg => av_move rfl)
          · exact ob_v rfl (fun hg => allT_of trivial) (fun hg => av_move rfl)
          · exact ob_v rfl (fun hg => allT_of ⟨rfl, rfl, trivial⟩) (fun hg => av_ia_sl (t := Y1) (e := x18) und30 sz50 rfl rfl e19)
          · exact ob_v rfl (fun hg => allT_of ⟨rfl, trivial⟩) (fun hg => av_fa_rp fa50_0 rfl rfl)
          · exact ob_v rfl (fun hg => allT_of ⟨rfl, trivial⟩) (fun hg => av_load_rp ts3 rfl)
          · exact ob_v rfl (fun hg => allT_of ⟨rfl, rfl, trivial⟩) (fun hg => av_eql rfl rfl)
          refine athen_norm ?_
          refine awc_cond (b := decide (x16.1 = x18.1)) rfl (fun hc20 => ?_) (fun hc20 => ?_)
          · have hr := if_t hc20 hr
            refine awc_seq ?_
            refine awc_region ?_
            refine awl_v (av_assign rfl) ?_
            have hr := Option.some.inj hr
            subst hr
            exact awl_nil (athen_norm (awc_ret (ablock_ret (athen_ret (⟨rfl, (wk_of hX [] 4 rfl rfl ⟨⟨_, rfl, cv0⟩, trivial⟩ trivial)⟩)))))
          · have hr := if_f hc20 hr
            refine awc_skip (ablock_norm (athen_norm ?_))
            refine awc_region ?_
            refine awl_v (av_add rfl rfl) ?_
            refine awl_v (av_move rfl) ?_
            have hr := Option.some.inj hr
            subst hr
            exact awl_nil ((wk_of hX [] 4 rfl rfl ⟨⟨_, rfl, cv0⟩, ⟨_, rfl, cv0⟩, ⟨_, rfl, cv0⟩, ⟨_, rfl, cv0⟩, ⟨_, rfl, cv0⟩, ⟨_, rfl, cv0⟩, trivial⟩ trivial))
        · obtain rfl := rb_f hc15 ho
          exact awc_exit (athen_exit (⟨rfl, (wk_of hX [] 4 rfl rfl ⟨⟨_, rfl, cv0⟩, trivial⟩ trivial)⟩))
theorem f23_runs {p0 : List (Int × Int × Int × Int × Str)} {r : List (List Bool)} (hr : f23 p0 = some r) : RunsP Try.prog 23 [.sl Y1 p0] [.sl (.slice .bool) r] := by
  refine runs_w Try.func23 Try.ntmps23 rfl (rs := [.tmp 2]) rfl rfl fun w0 X hX => ?_
  refine awc_seq ?_
  refine awc_region ?_
  refine awl_v (av_assign rfl) ?_
  refine awl_nil (athen_norm (awc_seq ?_))
  refine awc_region ?_
  refine awl_v (av_move rfl) ?_
  refine awl_v (av_len_sl (t := Y1) rfl rfl und30 rfl) ?_
  obtain ⟨h1, hr⟩ := chk_some hr
  refine awl_op (aop_makeO (t := .bool) 4 und38 zt40 rfl rfl h1 rfl ?_)
  refine awl_v (av_assign rfl) ?_
  refine awl_nil (athen_norm (awc_seq (awc_seq ?_)))
  refine awc_region ?_
  refine awl_v (av_move rfl) ?_
  refine awl_v (av_len_sl (t := Y1) rfl rfl und30 rfl) ?_
  refine awl_v (av_move rfl) ?_
  refine awl_nil (athen_norm (awc_block ?_))
  obtain ⟨o7, e8, hr⟩ := bnd_some hr
  refine awc_len (t := 0) rfl (fun hl => ?_)
  refine awc_range (S := List (List Bool)) (R := Unit) (List.length p0 : Int) (f23_b0 p0) (fun p => match p with | (i2, s4) => (⟨[(0, .sl Y1 p0), (2, .nils), (3, .sog 0), (11, .int .i64 (List.length p0 : Int)), (12, .int .i64 i2)], [(0, .slo 40 4 .bool s4)], 1⟩ : AS)) (fun o e st => match o with | .inr _ => False | .inl s4 => e = .exit 0 ∧ Wk X st ⟨[(2, .nils), (3, .sog 0)], [(0, .slo 40 4 .bool s4)], 1⟩) (len_ok hl) e8 (wk_of hX [0] 4 rfl rfl ⟨⟨_, rfl, cv0⟩, ⟨_, rfl, cv0⟩, ⟨_, rfl, cv0⟩, ⟨_, rfl, cv0⟩, ⟨_, rfl, cv0⟩, trivial⟩ ⟨cvo0, trivial⟩) ?_ ?_
  · intro e st hx
    rcases o7 with s4 | _
    · obtain ⟨rfl, hw⟩ := hx
      refine ablock_here (athen_norm ((awc_wk hw) (awc_seq ?_)))
      refine awc_region ?_
      refine awl_v (av_move rfl) ?_
      refine awl_v (av_assign rfl) ?_
      have hr := Option.some.inj hr
      subst hr
      exact awl_nil (athen_norm (awc_ret (ret_q (l' := [(2, .sl (.slice .bool) s4)]) (wk_of hX [] 4 rfl rfl ⟨⟨_, rfl, cv0⟩, trivial⟩ trivial) rfl ⟨rfl, trivial⟩)))
    · exact hx.elim
  · rintro i2 s4 o ho
    refine awc_seq ?_
    refine awc_region ?_
    refine awl_v (av_lss rfl rfl) ?_
    refine awl_nil (athen_norm (awc_seq ?_))
    refine awc_cond (b := decide (i2 < (List.length p0 : Int))) rfl (fun hc9 => ?_) (fun hc9 => ?_)
    · obtain ⟨q, hr, rfl⟩ := rb_t hc9 ho
      refine awc_skip (athen_norm (awc_seq (awc_block (awc_seq ?_))))
      refine awc_region ?_
      refine awl_v (av_move rfl) ?_
      refine awl_v (av_assign rfl) ?_
      refine awl_nil (athen_norm (awc_seq ?_))
      refine awc_region ?_
      refine awl_v (av_move rfl) ?_
      refine awl_v (av_move rfl) ?_
      refine awl_v (av_move rfl) ?_
      refine awl_v (av_len_sl (t := Y1) rfl rfl und30 rfl) ?_
      obtain ⟨h10, hr⟩ := chk_some hr
      refine awl_op (aop_make (t := .bool) und40 zt4 rfl rfl h10 rfl ?_)
      obtain ⟨x11, e12, hr⟩ := bnd_some hr
      refine awl_v (av_ia_sog (t := .bool) und38 sz40 rfl rfl rfl e12) ?_
      refine awl_op (aop_store_epg (l' := [(0, .sl Y1 p0), (2, .nils), (3, .sog 0), (11, .int .i64 (List.length p0 : Int)), (12, .int .i64 i2), (13, .bool (decide (i2 < (List.length p0 : Int)))), (14, .int .i64 i2), (4, .int .i64 i2), (15, .sog 0), (16, .int .i64 i2), (17, .sl Y1 p0), (18, .int .i64 (List.length p0 : Int)), (19, .osl 1), (20, .epg 0 (Int.toNat i2))]) sz40 rfl rfl rfl rfl (ix_at e12) (by rw [hX]; rfl) rfl ⟨⟨rfl, rfl⟩, ⟨rfl, rfl⟩, ⟨rfl, rfl⟩, ⟨rfl, rfl⟩, ⟨rfl, rfl⟩, ⟨rfl, rfl⟩, ⟨rfl, rfl⟩, ⟨rfl, rfl⟩, ⟨rfl, rfl⟩, ⟨rfl, rfl⟩, ⟨rfl, rfl⟩, ⟨rfl, rfl⟩, ⟨rfl, rfl⟩, ⟨rfl, rfl⟩, trivial⟩ rfl ?_)
      refine awl_nil (athen_norm (awc_seq ?_))
      refine awc_region ?_
      refine awl_v (av_move rfl) ?_
      refine awl_v (av_move rfl) ?_
      refine awl_nil (athen_norm (awc_block ?_))
      obtain ⟨h18, hr⟩ := chk_some hr
      obtain ⟨o19, e20, hr⟩ := bnd_some hr
      refine awc_range (S := List (List Bool)) (R := Unit) i2 (f23_b1 p0 i2) (fun p => match p with | (i13, s15) => (⟨[(0, .sl Y1 p0), (2, .nils), (3, .sog 0), (4, .int .i64 i2), (11, .int .i64 (List.length p0 : Int)), (12, .int .i64 i2), (21, .int .i64 i2), (22, .int .i64 i13)], [(0, .slo 40 4 .bool s15)], 1⟩ : AS)) (fun o e st => match o with | .inr _ => False | .inl s15 => e = .exit 2 ∧ Wk X st ⟨[(0, .sl Y1 p0), (2, .nils), (3, .sog 0), (11, .int .i64 (List.length p0 : Int)), (12, .int .i64 i2)], [(0, .slo 40 4 .bool s15)], 1⟩) (of_decide_eq_true h18) e20 (wk_of hX [0] 4 rfl rfl ⟨⟨_, rfl, cv0⟩, ⟨_, rfl, cv0⟩, ⟨_, rfl, cv0⟩, ⟨_, rfl, cv0⟩, ⟨_, rfl, cv0⟩, ⟨_, rfl, cv0⟩, ⟨_, rfl, cv0⟩, ⟨_, rfl, cv0⟩, trivial⟩ ⟨cvo0, trivial⟩) ?_ ?_
      · intro e st hx
        rcases o19 with s15 | _
        · obtain ⟨rfl, hw⟩ := hx
          refine ablock_here (ablock_norm (athen_norm ((awc_wk hw) ?_)))
          refine awc_region ?_
          refine awl_v (av_add rfl rfl) ?_
          refine awl_v (av_move rfl) ?_
          have hr := Option.some.inj hr
          subst hr
          exact awl_nil ((wk_of hX [0] 4 rfl rfl ⟨⟨_, rfl, cv0⟩, ⟨_, rfl, cv0⟩, ⟨_, rfl, cv0⟩, ⟨_, rfl, cv0⟩, ⟨_, rfl, cv0⟩, trivial⟩ ⟨cvo0, trivial⟩))
        · exact hx.elim
      · rintro i13 s15 o ho
        refine awc_seq ?_
        refine awc_region ?_
        refine awl_v (av_lss rfl rfl) ?_
        refine awl_nil (athen_norm (awc_seq ?_))
        refine awc_cond (b := decide (i13 < i2)) rfl (fun hc21 => ?_) (fun hc21 => ?_)
        · obtain ⟨q, hr, rfl⟩ := rb_t hc21 ho
          refine awc_skip (athen_norm ?_)
          obtain ⟨o23, e24, hr⟩ := bnd_some hr
          refine awc_join (S := List (List Bool)) (R := Unit) (fun s => match s with | s22 => (⟨[(0, .sl Y1 p0), (2, .nils), (3, .sog 0), (4, .int .i64 i2), (11, .int .i64 (List.length p0 : Int)), (12, .int .i64 i2), (21, .int .i64 i2), (22, .int .i64 i13)], [(0, .slo 40 4 .bool s22)], 1⟩ : AS)) (fun _ _ _ => False) e24 (fun hr => ?_) ?_ ?_
          · refine awc_block (awc_seq ?_)
            refine awc_region ?_
            refine awl_v (av_move rfl) ?_
            refine awl_v (av_assign rfl) ?_
            refine awl_nil (athen_norm (awc_seq (awc_seq ?_)))
            refine awc_region ?_
            refine awl_v (av_move rfl) ?_
            refine awl_v (av_move rfl) ?_
            refine awl_v (av_move rfl) ?_
            obtain ⟨x25, e26, hr⟩ := bnd_some hr
            refine awl_v (av_call (f56_runs e26) ent56 rfl rfl) ?_
            refine awl_v (av_not rfl) ?_
            refine awl_nil (athen_norm ?_)
            refine awc_cond (b := !x25) rfl (fun hc27 => ?_) (fun hc27 => ?_)
            · have hr := if_t hc27 hr
              have hr := Option.some.inj hr
              subst hr
              exact awc_exit (athen_exit (ablock_here ((wk_of hX [0] 4 rfl rfl ⟨⟨_, rfl, cv0⟩, ⟨_, rfl, cv0⟩, ⟨_, rfl, cv0⟩, ⟨_, rfl, cv0⟩, ⟨_, rfl, cv0⟩, ⟨_, rfl, cv0⟩, ⟨_, rfl, cv0⟩, ⟨_, rfl, cv0⟩, trivial⟩ ⟨cvo0, trivial⟩))))
            · have hr := if_f hc27 hr
              refine awc_skip (athen_norm (awc_seq ?_))
              refine awc_region ?_
              refine awl_v (av_move rfl) ?_
              refine awl_v (av_move rfl) ?_
              obtain ⟨x28, e29, hr⟩ := bnd_some hr
              refine awl_v (av_ia_sog (t := .bool) und38 sz40 rfl rfl rfl e29) ?_
              refine awl_v (av_load_epg (t := .bool) ts40 rfl rfl (ix_at e29)) ?_
              refine awl_v (av_move rfl) ?_
              obtain ⟨x30, e31, hr⟩ := bnd_some hr
              refine awl_v (av_ia_row (t := .bool) und40 sz4 rfl rfl rfl (ix_at e29) e31) ?_
              refine awl_op (aop_store_epr (u' := true) sz4 rfl rfl rfl rfl (ix_at e29) (ix_at e31) rfl rfl rfl rfl rfl ?_)
              refine awl_nil (athen_norm (awc_seq ?_))
              refine awc_region ?_
              refine awl_v (av_move rfl) ?_
              refine awl_v (av_move rfl) ?_
              refine awl_nil (athen_norm (awc_block ?_))
              obtain ⟨h37, hr⟩ := chk_some hr
              obtain ⟨o38, e39, hr⟩ := bnd_some hr
              refine awc_range (S := List (List Bool)) (R := Unit) i13 (f23_b2 i2 i13) (fun p => match p with | (i32, s34) => (⟨[(0, .sl Y1 p0), (2, .nils), (3, .sog 0), (4, .int .i64 i2), (5, .int .i64 i13), (11, .int .i64 (List.length p0 : Int)), (12, .int .i64 i2), (21, .int .i64 i2), (22, .int .i64 i13), (36, .int .i64 i13), (37, .int .i64 i32)], [(0, .slo 40 4 .bool s34)], 1⟩ : AS)) (fun o e st => match o with | .inr _ => False | .inl s34 => e = .exit 4 ∧ Wk X st ⟨[(0, .sl Y1 p0), (2, .nils), (3, .sog 0), (4, .int .i64 i2), (11, .int .i64 (List.length p0 : Int)), (12, .int .i64 i2), (21, .int .i64 i2), (22, .int .i64 i13)], [(0, .slo 40 4 .bool s34)], 1⟩) (of_decide_eq_true h37) e39 (wk_of hX [0] 4 rfl rfl ⟨⟨_, rfl, cv0⟩, ⟨_, rfl, cv0⟩, ⟨_, rfl, cv0⟩, ⟨_, rfl, cv0⟩, ⟨_, rfl, cv0⟩, ⟨_, rfl, cv0⟩, ⟨_, rfl, cv0⟩, ⟨_, rfl, cv0⟩, ⟨_, rfl, cv0⟩, ⟨_, rfl, cv0⟩, ⟨_, rfl, cv0⟩, trivial⟩ ⟨cvo0, trivial⟩) ?_ ?_
              · intro e st hx
                rcases o38 with s34 | _
                · obtain ⟨rfl, hw⟩ := hx
                  have hr := Option.some.inj hr
                  subst hr
                  exact ablock_here (ablock_norm ((Wk.trans hw (wk_of hX [0] 4 rfl rfl ⟨⟨_, rfl, cv0⟩, ⟨_, rfl, cv0⟩, ⟨_, rfl, cv0⟩, ⟨_, rfl, cv0⟩, ⟨_, rfl, cv0⟩, ⟨_, rfl, cv0⟩, ⟨_, rfl, cv0⟩, ⟨_, rfl, cv0⟩, trivial⟩ ⟨cvo0, trivial⟩))))
                · exact hx.elim
              · rintro i32 s34 o ho
                refine awc_seq ?_
                refine awc_region ?_
                refine awl_v (av_lss rfl rfl) ?_
                refine awl_nil (athen_norm (awc_seq ?_))
                refine awc_cond (b := decide (i32 < i13)) rfl (fun hc40 => ?_) (fun hc40 => ?_)
                · obtain ⟨q, hr, rfl⟩ := rb_t hc40 ho
                  refine awc_skip (athen_norm (awc_seq (awc_block (awc_seq ?_))))
                  refine awc_region ?_
                  refine awl_v (av_move rfl) ?_
                  refine awl_v (av_assign rfl) ?_
                  refine awl_nil (athen_norm ?_)
                  obtain ⟨x41, e42, hr⟩ := bnd_some hr
                  obtain ⟨x43, e44, hr⟩ := bnd_some hr
                  obtain ⟨h45, hr⟩ := chk_some hr
                  obtain ⟨h46, hr⟩ := chk_some hr
                  refine awc_draw_tail2 22 [22, 22, 22, 22, 22, 22, 22, 22, 22, 22, 22, 22, 22, 22, 22, 22, 22, 22, 22, 22, 22, 22] mixed [0, 2, 3, 4, 5, 11, 12, 21, 22, 36, 37, 6] [(true, .sog 0), (true, .int .i64 i2), (true, .epg 0 (Int.toNat i2)), (true, .row 0 (Int.toNat i2)), (true, .int .i64 i32), (true, .sog 0), (true, .int .i64 i2), (true, .epg 0 (Int.toNat i2)), (true, .row 0 (Int.toNat i2)), (true, .int .i64 i32), (true, .epr 0 (Int.toNat i2) 1 (Int.toNat i32) 0), (true, .bool x43), (true, .bool x43), (!x43, .sog 0), (!x43, .int .i64 i13), (!x43, .epg 0 (Int.toNat i13)), (!x43, .row 0 (Int.toNat i13)), (!x43, .int .i64 i32), (!x43, .epr 0 (Int.toNat i13) 1 (Int.toNat i32) 0), (!x43, .bool ((ix ((ix s34 i13).getD default) i32).getD default)), (true, .bool (x43 || ((ix ((ix s34 i13).getD default) i32).getD default))), (true, .epr 0 (Int.toNat i2) 1 (Int.toNat i32) 0)] [[], [], [0, 1], [2], [], [], [], [5, 6], [7], [], [8, 9], [10], [11], [12], [12], [13, 14, 12], [15, 12], [12], [16, 17, 12], [18, 12], [19, 12], [3, 4]] [20, 21] rfl rfl rfl rfl rfl rfl rfl rfl ⟨?_, ?_, ?_, ?_, ?_, ?_, ?_, ?_, ?_, ?_, ?_, ?_, ?_, ?_, ?_, ?_, ?_, ?_, ?_, ?_, ?_, ?_, trivial⟩ (allT_of ⟨rfl, rfl, trivial⟩) ?_
                  · exact ob_v rfl (fun hg => allT_of trivial) (fun hg => av_move rfl)
                  · exact ob_v rfl (fun hg => allT_of trivial) (fun hg => av_move rfl)
                  · exact ob_v rfl (fun hg => allT_of ⟨rfl, rfl, trivial⟩) (fun hg => av_ia_sog (t := .bool) und38 sz40 rfl rfl rfl e42)
                  · exact ob_v rfl (fun hg => allT_of ⟨rfl, trivial⟩) (fun hg => av_load_epg (t := .bool) ts40 rfl rfl (ix_at e42))
                  · exact ob_v rfl (fun hg => allT_of trivial) (fun hg => av_move rfl)
                  · exact ob_v rfl (fun hg => allT_of trivial) (fun hg => av_move rfl)
                  · exact ob_v rfl (fun hg => allT_of trivial) (fun hg => av_move rfl)
                  · exact ob_v rfl (fun hg => allT_of ⟨rfl, rfl, trivial⟩) (fun hg => av_ia_sog (t := .bool) und38 sz40 rfl rfl rfl e42)
                  · exact ob_v rfl (fun hg => allT_of ⟨rfl, trivial⟩) (fun hg => av_load_epg (t := .bool) ts40 rfl rfl (ix_at e42))
                  · exact ob_v rfl (fun hg => allT_of trivial) (fun hg => av_move rfl)
                  · exact ob_v rfl (fun hg => allT_of ⟨rfl, rfl, trivial⟩) (fun hg => av_ia_row (t := .bool) und40 sz4 rfl rfl rfl (ix_at e42) e44)
                  · exact ob_v rfl (fun hg => allT_of ⟨rfl, trivial⟩) (fun hg => av_load_epr (t := .bool) ts4 rfl rfl rfl (ix_at e42) (ix_at e44) rfl)
                  · exact ob_v rfl (fun hg => allT_of ⟨rfl, trivial⟩) (fun hg => av_move rfl)
                  · exact ob_v ⟨rfl, rfl, rfl, _, rfl, rfl⟩ (fun hg => allT_of ⟨rfl, trivial⟩) (fun hg => av_move rfl)
                  · exact ob_v ⟨rfl, rfl, rfl, _, rfl, rfl⟩ (fun hg => allT_of ⟨rfl, trivial⟩) (fun hg => av_move rfl)
                  · exact ob_v ⟨rfl, rfl, rfl, _, rfl, rfl⟩ (fun hg => allT_of ⟨hg, hg, rfl, trivial⟩) (fun hg => av_ia_sog (t := .bool) und38 sz40 rfl rfl rfl (get_g h45 hg))
                  · exact ob_v ⟨rfl, rfl, rfl, _, rfl, rfl⟩ (fun hg => allT_of ⟨hg, rfl, trivial⟩) (fun hg => av_load_epg (t := .bool) ts40 rfl rfl (ix_at (get_g h45 hg)))
                  · exact ob_v ⟨rfl, rfl, rfl, _, rfl, rfl⟩ (fun hg => allT_of ⟨rfl, trivial⟩) (fun hg => av_move rfl)
                  · exact ob_v ⟨rfl, rfl, rfl, _, rfl, rfl⟩ (fun hg => allT_of ⟨hg, hg, rfl, trivial⟩) (fun hg => av_ia_row (t := .bool) und40 sz4 rfl rfl rfl (ix_at (get_g h45 hg)) (get_g h46 hg))
                  · exact ob_v ⟨rfl, rfl, rfl, _, rfl, rfl⟩ (fun hg => allT_of ⟨hg, rfl, trivial⟩) (fun hg => av_load_epr (t := .bool) ts4 rfl rfl rfl (ix_at (get_g h45 hg)) (ix_at (get_g h46 hg)) rfl)
                  · exact ob_pick (b := false) (p := x43) (q := ((ix ((ix s34 i13).getD default) i32).getD default)) rfl rfl rfl (fun hg => allT_of ⟨rfl, trivial⟩) rfl rfl rfl rfl rfl
                  · exact ob_v rfl (fun hg => allT_of ⟨rfl, rfl, trivial⟩) (fun hg => av_ia_row (t := .bool) und40 sz4 rfl rfl rfl (ix_at e42) e44)
                  refine awl_op (aop_store_epr (u' := x43 || ((ix ((ix s34 i13).getD default) i32).getD default)) sz4 rfl rfl rfl rfl (ix_at e42) (ix_at e44) rfl rfl rfl rfl rfl ?_)
                  refine awl_nil (ablock_norm (athen_norm ?_))
                  refine awc_region ?_
                  refine awl_v (av_add rfl rfl) ?_
                  refine awl_v (av_move rfl) ?_
                  have hr := Option.some.inj hr
                  subst hr
                  exact awl_nil ((wk_of hX [0] 4 rfl rfl ⟨⟨_, rfl, cv0⟩, ⟨_, rfl, cv0⟩, ⟨_, rfl, cv0⟩, ⟨_, rfl, cv0⟩, ⟨_, rfl, cv0⟩, ⟨_, rfl, cv0⟩, ⟨_, rfl, cv0⟩, ⟨_, rfl, cv0⟩, ⟨_, rfl, cv0⟩, ⟨_, rfl, cv0⟩, ⟨_, rfl, cv0⟩, trivial⟩ ⟨cvo0, trivial⟩))
                · obtain rfl := rb_f hc40 ho
                  exact awc_exit (athen_exit (⟨rfl, (wk_of hX [0] 4 rfl rfl ⟨⟨_, rfl, cv0⟩, ⟨_, rfl, cv0⟩, ⟨_, rfl, cv0⟩, ⟨_, rfl, cv0⟩, ⟨_, rfl, cv0⟩, ⟨_, rfl, cv0⟩, ⟨_, rfl, cv0⟩, ⟨_, rfl, cv0⟩, trivial⟩ ⟨cvo0, trivial⟩)⟩))
          · rintro s22 rfl
            refine awc_region ?_
            refine awl_v (av_add rfl rfl) ?_
            refine awl_v (av_move rfl) ?_
            have hr := Option.some.inj hr
            subst hr
            exact awl_nil ((wk_of hX [0] 4 rfl rfl ⟨⟨_, rfl, cv0⟩, ⟨_, rfl, cv0⟩, ⟨_, rfl, cv0⟩, ⟨_, rfl, cv0⟩, ⟨_, rfl, cv0⟩, ⟨_, rfl, cv0⟩, ⟨_, rfl, cv0⟩, ⟨_, rfl, cv0⟩, trivial⟩ ⟨cvo0, trivial⟩))
          · exact fun r h e st hne hx => hx.elim
        · obtain rfl := rb_f hc21 ho
          exact awc_exit (athen_exit (⟨rfl, (wk_of hX [0] 4 rfl rfl ⟨⟨_, rfl, cv0⟩, ⟨_, rfl, cv0⟩, ⟨_, rfl, cv0⟩, ⟨_, rfl, cv0⟩, ⟨_, rfl, cv0⟩, trivial⟩ ⟨cvo0, trivial⟩)⟩))
    · obtain rfl := rb_f hc9 ho
      exact awc_exit (athen_exit (⟨rfl, (wk_of hX [0] 4 rfl rfl ⟨⟨_, rfl, cv0⟩, ⟨_, rfl, cv0⟩, trivial⟩ ⟨cvo0, trivial⟩)⟩))
theorem f25_runs {p0 : Int} {p1 : List (Int × Int × Int × Int × Str)} {p2 : Int} {p3 : Int} {r : Bool × Int} (hr : f25 p0 p1 p2 p3 = some r) : RunsP Try.prog 25 [.int .i64 p0, .sl Y1 p1, .int .i64 p2, .int .i64 p3] [.bool r.1, .int .i64 r.2] := by
  refine runs_w Try.func25 Try.ntmps25 rfl (rs := [.tmp 8, .tmp 9]) rfl rfl fun w0 X hX => ?_
  refine awc_seq ?_
  refine awc_region ?_
  refine awl_v (av_assign rfl) ?_
  refine awl_v (av_assign rfl) ?_
  refine awl_nil (athen_norm (awc_seq (awc_seq ?_)))
  refine awc_region ?_
  refine awl_v (av_move rfl) ?_
  refine awl_v (av_move rfl) ?_
  refine awl_v (av_move rfl) ?_
  refine awl_v (av_move rfl) ?_
  refine awl_v (av_buildSlice (t := (.int .i64)) (qs := [(0, [.int .i64 p2]), (1, [.int .i64 p3])]) (ys := [p2, p3]) bs22 rfl rfl rfl rfl rfl rfl rfl rfl) ?_
  obtain ⟨x1, e2, hr⟩ := bnd_some hr
  refine awl_v (av_call (f53_runs e2) ent53 rfl rfl) ?_
  refine awl_v (av_assign rfl) ?_
  refine awl_nil (athen_norm (awc_seq ?_))
  refine awc_region ?_
  refine awl_v (av_move rfl) ?_
  refine awl_v (av_neq rfl rfl) ?_
  refine awl_nil (athen_norm ?_)
  refine awc_cond (b := !decide (x1 = 0)) rfl (fun hc3 => ?_) (fun hc3 => ?_)
  · have hr := if_t hc3 hr
    refine awc_seq ?_
    refine awc_region ?_
    refine awl_v (av_move rfl) ?_
    refine awl_v (av_assign rfl) ?_
    refine awl_v (av_assign rfl) ?_
    have hr := Option.some.inj hr
    subst hr
    exact awl_nil (athen_norm (awc_ret (athen_ret (ret_q (l' := [(8, .bool false), (9, .int .i64 x1)]) (wk_of hX [] 4 rfl rfl ⟨⟨_, rfl, cv0⟩, ⟨_, rfl, cv0⟩, trivial⟩ trivial) rfl ⟨rfl, rfl, trivial⟩))))
  · have hr := if_f hc3 hr
    refine awc_skip (athen_norm (awc_seq ?_))
    refine awc_region ?_
    refine awl_v (av_move rfl) ?_
    obtain ⟨x4, e5, hr⟩ := bnd_some hr
    refine awl_v (av_call (f23_runs e5) ent23 rfl rfl) ?_
    refine awl_v (av_move rfl) ?_
    obtain ⟨x6, e7, hr⟩ := bnd_some hr
    refine awl_v (av_ia_sl (t := (.slice .bool)) (e := x6) und38 sz40 rfl rfl e7) ?_
    refine awl_v (av_load_rp ts40 rfl) ?_
    refine awl_v (av_move rfl) ?_
    obtain ⟨x8, e9, hr⟩ := bnd_some hr
    refine awl_v (av_ia_sl (t := .bool) (e := x8) und40 sz4 rfl rfl e9) ?_
    refine awl_v (av_load_rp ts4 rfl) ?_
    refine awl_v (av_assign rfl) ?_
    refine awl_v (av_assign rfl) ?_
    have hr := Option.some.inj hr
    subst hr
    exact awl_nil (athen_norm (awc_ret (ret_q (l' := [(8, .bool x8), (9, .int .i64 0)]) (wk_of hX [] 4 rfl rfl ⟨⟨_, rfl, cv0⟩, ⟨_, rfl, cv0⟩, trivial⟩ trivial) rfl ⟨rfl, rfl, trivial⟩)))
theorem f60_runs {p0 : List (List Int)} {p1 : Int} {p2 : List (Int × Int × Int × Int × Str)} {p3 : Int} {r : Bool} (hr : f60 p0 p1 p2 p3 = some r) : RunsP Try.prog 60 [.sl (.slice (.int .i64)) p0, .int .i64 p1, .rp [.sl Y1 p2], .rp [.int .i64 p3]] [.bool r] := by
  refine runs_w Try.func60 Try.ntmps60 rfl (rs := [.tmp 6]) rfl rfl fun w0 X hX => ?_
  refine awc_seq ?_
  refine awc_region ?_
  refine awl_v (av_assign rfl) ?_
  refine awl_nil (athen_norm (awc_seq ?_))
  obtain ⟨x1, e2, hr⟩ := bnd_some hr
  obtain ⟨h3, hr⟩ := chk_some hr
  refine awc_text [0, 1, 2, 3] [(true, .sl Y1 p2), (true, .sl (.slice (.int .i64)) p0), (true, .int .i64 p3), (true, .int .i64 p1), (true, .bool x1), (true, .bool (!x1)), (true, .bool (!x1)), (!x1, .sl Y1 p2), (!x1, .sl (.slice (.int .i64)) p0), (!x1, .int .i64 p1), (!x1, .int .i64 p3), (!x1, .bool ((f58 p2 p0 p1 p3).getD default)), (!x1, .bool (!((f58 p2 p0 p1 p3).getD default))), (true, .bool ((!x1) && (!((f58 p2 p0 p1 p3).getD default)))), (true, .bool ((!x1) && (!((f58 p2 p0 p1 p3).getD default))))] [[], [], [], [], [0, 1, 2, 3], [4], [5], [6], [6], [6], [6], [7, 8, 9, 10, 6], [11, 6], [12, 6], [13]] [14] rfl rfl rfl rfl rfl ⟨?_, ?_, ?_, ?_, ?_, ?_, ?_, ?_, ?_, ?_, ?_, ?_, ?_, ?_, ?_, trivial⟩ (allT_of ⟨rfl, trivial⟩) ?_
  · exact ob_v rfl (fun hg => allT_of trivial) (fun hg => av_load_rp ts30 rfl)
  · exact ob_v rfl (fun hg => allT_of trivial) (fun hg => av_move rfl)
  · exact ob_v rfl (fun hg => allT_of trivial) (fun hg => av_load_rp ts3 rfl)
  · exact ob_v rfl (fun hg => allT_of trivial) (fun hg => av_move rfl)
  · exact ob_v rfl (fun hg => allT_of ⟨rfl, rfl, rfl, rfl, trivial⟩) (fun hg => av_call (f58_runs e2) ent58 rfl rfl)
  · exact ob_v rfl (fun hg => allT_of ⟨rfl, trivial⟩) (fun hg => av_not rfl)
  · exact ob_v rfl (fun hg => allT_of ⟨rfl, trivial⟩) (fun hg => av_move rfl)
  · exact ob_v ⟨rfl, rfl, rfl, _, rfl, rfl⟩ (fun hg => allT_of ⟨rfl, trivial⟩) (fun hg => av_load_rp ts30 rfl)
  · exact ob_v ⟨rfl, rfl, rfl, _, rfl, rfl⟩ (fun hg => allT_of ⟨rfl, trivial⟩) (fun hg => av_move rfl)
  · exact ob_v ⟨rfl, rfl, rfl, _, rfl, rfl⟩ (fun hg => allT_of ⟨rfl, trivial⟩) (fun hg => av_move rfl)
  · exact ob_v ⟨rfl, rfl, rfl, _, rfl, rfl⟩ (fun hg => allT_of ⟨rfl, trivial⟩) (fun hg => av_load_rp ts3 rfl)
  · exact ob_v ⟨rfl, rfl, rfl, _, rfl, rfl⟩ (fun hg => allT_of ⟨hg, hg, hg, hg, rfl, trivial⟩) (fun hg => av_call (f58_runs (get_g h3 hg)) ent58 rfl rfl)
  · exact ob_v ⟨rfl, rfl, rfl, _, rfl, rfl⟩ (fun hg => allT_of ⟨hg, rfl, trivial⟩) (fun hg => av_not rfl)
  · exact ob_pick (b := true) (p := !x1) (q := !((f58 p2 p0 p1 p3).getD default)) rfl rfl rfl (fun hg => allT_of ⟨rfl, trivial⟩) rfl rfl rfl rfl rfl
  · exact ob_v rfl (fun hg => allT_of ⟨rfl, trivial⟩) (fun hg => av_assign rfl)
  have hr := Option.some.inj hr
  subst hr
  exact athen_norm (awc_ret (ret_q (l' := [(6, .bool ((!x1) && (!((f58 p2 p0 p1 p3).getD default))))]) (wk_of hX [] 4 rfl rfl ⟨⟨_, rfl, cv0⟩, trivial⟩ trivial) rfl ⟨rfl, trivial⟩))
end Go.Ab
