/- Lemmas for a law of the seat: what functions of the program do, each stated as a contract of its own (TD1). -/
import Derived.Test.YtigjjobjdajkfaaDoorLayD
import Derived.Test.YtigjjobjdajkfaaDoorAb3
import Derived.Test.YtigjjobjdajkfaaDoorChecked
import Derived.Test.YtigjjobjdajkfaaDoorTDd
set_option linter.unusedVariables false
set_option maxRecDepth 100000
namespace Go.Ab
open Go.RowKit Go.Shelf Go.Proofs Go.Eng
abbrev Y1 : Ty := .st (.pair (.int .i64) (.pair (.int .i64) (.pair (.int .i64) (.pair (.int .i64) .str))))
theorem und22 : Und Tryd.prog 22 (.slice 30) := by unfold Und; kernel_rfl
theorem sz30 : Sz Tryd.prog 30 5 := fun w => by kernel_rfl
theorem ts30 : TyS Tryd.prog 30 true 5 := ⟨fun w => by kernel_rfl, fun w => by kernel_rfl⟩
theorem zero30 : Eng.Zero Tryd.prog 30 (.agg #[.int .i64 0, .int .i64 0, .int .i64 0, .int .i64 0, .string ByteArray.empty]) := fun w => by kernel_rfl
theorem fa30_4 : FieldAt Tryd.prog 30 4 4 := fun b o w => by kernel_rfl
theorem ts9 : TyS Tryd.prog 9 false 1 := ⟨fun w => by kernel_rfl, fun w => by kernel_rfl⟩
theorem und9 : Und Tryd.prog 9 .string := by unfold Und; kernel_rfl
theorem bt30 : BuildT Tryd.prog 30 (.agg #[.int .i64 0, .int .i64 0, .int .i64 0, .int .i64 0, .string ByteArray.empty]) (fun i => [(0, 1), (1, 1), (2, 1), (3, 1), (4, 1)][i]?) := buildT_struct zero30 (fs := Tryd.prog.fieldsOf 30) (by kernel_rfl) (fun w => by kernel_rfl)
theorem bs22 : BuildS Tryd.prog 22 30 Y1 := buildS_of (z := .agg #[.int .i64 0, .int .i64 0, .int .i64 0, .int .i64 0, .string ByteArray.empty]) (by kernel_rfl) (by kernel_rfl) rfl
theorem fa30_1 : FieldAt Tryd.prog 30 1 1 := fun b o w => by kernel_rfl
theorem ts3 : TyS Tryd.prog 3 false 1 := ⟨fun w => by kernel_rfl, fun w => by kernel_rfl⟩
theorem mixed : Tryd.prog.follows .mixedOrders = true := by kernel_rfl
theorem fa30_2 : FieldAt Tryd.prog 30 2 2 := fun b o w => by kernel_rfl
theorem fa30_3 : FieldAt Tryd.prog 30 3 3 := fun b o w => by kernel_rfl
theorem fa30_0 : FieldAt Tryd.prog 30 0 0 := fun b o w => by kernel_rfl
theorem fa66_0 : FieldAt Tryd.prog 66 0 0 := fun b o w => by kernel_rfl
theorem ent44 : Enters Tryd.prog 44 := enters_of Tryd.func44 (by kernel_rfl) rfl
theorem fa66_2 : FieldAt Tryd.prog 66 2 2 := fun b o w => by kernel_rfl
theorem ts64 : TyS Tryd.prog 64 false 1 := ⟨fun w => by kernel_rfl, fun w => by kernel_rfl⟩
theorem und64 : Und Tryd.prog 64 (.map 3 3) := by unfold Und; kernel_rfl
theorem kt3 : KeyT Tryd.prog 3 (.int .i64) := keyT_int (by kernel_rfl)
theorem zw3 : ZeroW Tryd.prog 3 (.int .i64) := zeroW_of (z := .int .i64 0) (fun w => by kernel_rfl) rfl (fun _ => rfl)
theorem fa66_3 : FieldAt Tryd.prog 66 3 3 := fun b o w => by kernel_rfl
theorem fa66_1 : FieldAt Tryd.prog 66 1 1 := fun b o w => by kernel_rfl
theorem ts63 : TyS Tryd.prog 63 false 1 := ⟨fun w => by kernel_rfl, fun w => by kernel_rfl⟩
theorem und63 : Und Tryd.prog 63 (.map 3 4) := by unfold Und; kernel_rfl
theorem zw4 : ZeroW Tryd.prog 4 .bool := zeroW_of (z := .bool false) (fun w => by kernel_rfl) rfl (fun _ => rfl)
theorem zero66 : Eng.Zero Tryd.prog 66 (.agg #[.int .i64 0, .map none, .map none, .map none]) := fun w => by kernel_rfl
theorem bt66 : BuildT Tryd.prog 66 (.agg #[.int .i64 0, .map none, .map none, .map none]) (fun i => [(0, 1), (1, 1), (2, 1), (3, 1)][i]?) := buildT_struct zero66 (fs := Tryd.prog.fieldsOf 66) (by kernel_rfl) (fun w => by kernel_rfl)
theorem ent35 : Enters Tryd.prog 35 := enters_of Tryd.func35 (by kernel_rfl) rfl
theorem ent24 : Enters Tryd.prog 24 := enters_of Tryd.func24 (by kernel_rfl) rfl
theorem ts22 : TyS Tryd.prog 22 false 1 := ⟨fun w => by kernel_rfl, fun w => by kernel_rfl⟩
theorem und38 : Und Tryd.prog 38 (.slice 3) := by unfold Und; kernel_rfl
theorem sz3 : Sz Tryd.prog 3 1 := fun w => by kernel_rfl
theorem ent43 : Enters Tryd.prog 43 := enters_of Tryd.func43 (by kernel_rfl) rfl
theorem ent13 : Enters Tryd.prog 13 := enters_of Tryd.func13 (by kernel_rfl) rfl
theorem ent31 : Enters Tryd.prog 31 := enters_of Tryd.func31 (by kernel_rfl) rfl
theorem ent30 : Enters Tryd.prog 30 := enters_of Tryd.func30 (by kernel_rfl) rfl
theorem zt3 : ZeroT Tryd.prog 3 (.int .i64) 8 := zeroT_of (z := .int .i64 0) (by kernel_rfl) rfl
theorem bs38 : BuildS Tryd.prog 38 3 (.int .i64) := buildS_of (z := .int .i64 0) (by kernel_rfl) (by kernel_rfl) rfl
theorem app38 : AppT Tryd.prog 38 3 (Ty.cells (.int .i64)) 8 := appT_of (z := .int .i64 0) (by kernel_rfl) (by kernel_rfl) rfl rfl
theorem ent37 : Enters Tryd.prog 37 := enters_of Tryd.func37 (by kernel_rfl) rfl
theorem ent38 : Enters Tryd.prog 38 := enters_of Tryd.func38 (by kernel_rfl) rfl
theorem f14_runs {p0 : List (Int × Int × Int × Int × Str)} {r : Bool} (hr : f14 p0 = some r) : RunsP Tryd.prog 4 [.sl Y1 p0] [.bool r] := by
  refine runs_w Tryd.func4 Tryd.ntmps4 rfl (rs := [.tmp 2]) rfl rfl fun w0 X hX => ?_
  refine awc_seq ?_
  refine awc_region ?_
  refine awl_v (av_assign rfl) ?_
  refine awl_nil (athen_norm (awc_seq (awc_seq ?_)))
  refine awc_region ?_
  refine awl_v (av_move rfl) ?_
  refine awl_v (av_len_sl (t := Y1) rfl rfl und22 rfl) ?_
  refine awl_v (av_move rfl) ?_
  refine awl_nil (athen_norm (awc_block ?_))
  obtain ⟨o3, e4, hr⟩ := bnd_some hr
  refine awc_len (t := 0) rfl (fun hl => ?_)
  refine awc_range (S := Unit) (R := Unit) (List.length p0 : Int) (f14_b0 p0) (fun p => match p with | (i1, ()) => (⟨[(0, .sl Y1 p0), (2, .bool false), (5, .sl Y1 p0), (6, .int .i64 (List.length p0 : Int)), (7, .int .i64 i1)], [], 0⟩ : AS)) (fun o e st => match o with | .inl () => e = .exit 0 ∧ Wk X st ⟨[(0, .sl Y1 p0), (2, .bool false)], [], 0⟩ | .inr () => e = .ret ∧ Wk X st ⟨[(2, .bool false)], [], 0⟩) (len_ok hl) e4 (wk_of hX [] 4 rfl rfl ⟨⟨_, rfl, cv0⟩, ⟨_, rfl, cv0⟩, ⟨_, rfl, cv0⟩, ⟨_, rfl, cv0⟩, ⟨_, rfl, cv0⟩, trivial⟩ trivial) ?_ ?_
  · intro e st hx
    rcases o3 with _ | _
    · obtain ⟨rfl, hw⟩ := hx
      refine ablock_here (athen_norm ((awc_wk hw) (awc_seq ?_)))
      refine awc_region ?_
      refine awl_v (av_move rfl) ?_
      refine awl_v (av_len_sl (t := Y1) rfl rfl und22 rfl) ?_
      refine awl_v (av_leq rfl rfl) ?_
      refine awl_v (av_assign rfl) ?_
      have hr := Option.some.inj hr
      subst hr
      exact awl_nil (athen_norm (awc_ret (ret_q (l' := [(2, .bool (decide ((List.length p0 : Int) ≤ 40)))]) (wk_of hX [] 4 rfl rfl ⟨⟨_, rfl, cv0⟩, trivial⟩ trivial) rfl ⟨rfl, trivial⟩)))
    · obtain ⟨rfl, hw⟩ := hx
      have hr := Option.some.inj hr
      subst hr
      exact ablock_ret (athen_ret (ret_q (l' := [(2, .bool false)]) (Wk.trans hw (wk_of hX [] 4 rfl rfl ⟨⟨_, rfl, cv0⟩, trivial⟩ trivial)) rfl ⟨rfl, trivial⟩))
  · rintro i1 _ o ho
    refine awc_seq ?_
    refine awc_region ?_
    refine awl_v (av_lss rfl rfl) ?_
    refine awl_nil (athen_norm (awc_seq ?_))
    refine awc_cond (b := decide (i1 < (List.length p0 : Int))) rfl (fun hc5 => ?_) (fun hc5 => ?_)
    · obtain ⟨q, hr, rfl⟩ := rb_t hc5 ho
      refine awc_skip (athen_norm (awc_seq (awc_block (awc_seq ?_))))
      refine awc_region ?_
      obtain ⟨x6, e7, hr⟩ := bnd_some hr
      refine awl_v (av_ia_sl (t := Y1) (e := x6) und22 sz30 rfl rfl e7) ?_
      refine awl_v (av_load_rpN ts30 rfl rfl rfl) ?_
      refine awl_op (aop_alloc zero30 rfl ?_)
      refine awl_op (aop_store sz30 rfl rfl rfl rfl rfl rfl rfl ?_)
      refine awl_nil (athen_norm (awc_seq ?_))
      refine awc_region ?_
      refine awl_v (av_fa_ptr fa30_4 rfl rfl) ?_
      refine awl_v (av_load_ptr ts9 rfl rfl rfl) ?_
      refine awl_v (av_len_str rfl rfl und9 rfl) ?_
      refine awl_v (av_gtr rfl rfl) ?_
      refine awl_nil (athen_norm ?_)
      refine awc_cond (b := decide (60 < (List.length x6.2.2.2.2 : Int))) rfl (fun hc8 => ?_) (fun hc8 => ?_)
      · have hr := if_t hc8 hr
        refine awc_seq ?_
        refine awc_region ?_
        refine awl_v (av_assign rfl) ?_
        have hr := Option.some.inj hr
        subst hr
        exact awl_nil (athen_norm (awc_ret (ablock_ret (athen_ret (⟨rfl, (wk_of hX [] 4 rfl rfl ⟨⟨_, rfl, cv0⟩, trivial⟩ trivial)⟩)))))
      · have hr := if_f hc8 hr
        refine awc_skip (ablock_norm (athen_norm ?_))
        refine awc_region ?_
        refine awl_v (av_add rfl rfl) ?_
        refine awl_v (av_move rfl) ?_
        have hr := Option.some.inj hr
        subst hr
        exact awl_nil ((wk_of hX [] 4 rfl rfl ⟨⟨_, rfl, cv0⟩, ⟨_, rfl, cv0⟩, ⟨_, rfl, cv0⟩, ⟨_, rfl, cv0⟩, ⟨_, rfl, cv0⟩, trivial⟩ trivial))
    · obtain rfl := rb_f hc5 ho
      exact awc_exit (athen_exit (⟨rfl, (wk_of hX [] 4 rfl rfl ⟨⟨_, rfl, cv0⟩, ⟨_, rfl, cv0⟩, trivial⟩ trivial)⟩))
theorem f44_runs {r : (List (Int × Int × Int × Int × Str))} (hr : f44 = some r) : RunsP Tryd.prog 9 [] [.sl Y1 r] := by
  refine runs_w Tryd.func9 Tryd.ntmps9 rfl (rs := [.tmp 0]) rfl rfl fun w0 X hX => ?_
  refine awc_seq ?_
  refine awc_region ?_
  refine awl_v (av_assign rfl) ?_
  refine awl_nil (athen_norm (awc_seq ?_))
  refine awc_region ?_
  refine awl_v (av_build (qs := [(1, [.int .i64 1])]) (cs := [.int .i64 0, .int .i64 1, .int .i64 0, .int .i64 0, .str ([] : Str)]) bt30 rfl rfl rfl) ?_
  refine awl_v (av_build (qs := [(1, [.int .i64 2]), (2, [.int .i64 1])]) (cs := [.int .i64 0, .int .i64 2, .int .i64 1, .int .i64 0, .str ([] : Str)]) bt30 rfl rfl rfl) ?_
  refine awl_v (av_build (qs := [(0, [.int .i64 1]), (1, [.int .i64 1])]) (cs := [.int .i64 1, .int .i64 1, .int .i64 0, .int .i64 0, .str ([] : Str)]) bt30 rfl rfl rfl) ?_
  refine awl_v (av_build (qs := [(0, [.int .i64 1]), (1, [.int .i64 3]), (2, [.int .i64 1])]) (cs := [.int .i64 1, .int .i64 3, .int .i64 1, .int .i64 0, .str ([] : Str)]) bt30 rfl rfl rfl) ?_
  refine awl_op (aop_buildSlice (t := Y1) (qs := [(0, [.int .i64 0, .int .i64 1, .int .i64 0, .int .i64 0, .str ([] : Str)]), (1, [.int .i64 0, .int .i64 2, .int .i64 1, .int .i64 0, .str ([] : Str)]), (2, [.int .i64 1, .int .i64 1, .int .i64 0, .int .i64 0, .str ([] : Str)]), (3, [.int .i64 1, .int .i64 3, .int .i64 1, .int .i64 0, .str ([] : Str)])]) (ys := [(0, 1, 0, 0, ([] : Str)), (0, 2, 1, 0, ([] : Str)), (1, 1, 0, 0, ([] : Str)), (1, 3, 1, 0, ([] : Str))]) bs22 rfl rfl rfl rfl rfl rfl rfl rfl ?_)
  refine awl_v (av_assign rfl) ?_
  have hr := Option.some.inj hr
  subst hr
  exact awl_nil (athen_norm (awc_ret (ret_q (l' := [(0, .sl Y1 [(0, 1, 0, 0, ([] : Str)), (0, 2, 1, 0, ([] : Str)), (1, 1, 0, 0, ([] : Str)), (1, 3, 1, 0, ([] : Str))])]) (wk_of hX [] 4 rfl rfl ⟨⟨_, rfl, cv0⟩, trivial⟩ trivial) rfl ⟨rfl, trivial⟩)))
theorem f80_runs {p0 : Int × Int × Int × Int × Str} {r : Bool} (hr : f80 p0 = some r) : RunsP Tryd.prog 44 [.agg [.int .i64 p0.1, .int .i64 p0.2.1, .int .i64 p0.2.2.1, .int .i64 p0.2.2.2.1, .str p0.2.2.2.2]] [.bool r] := by
  refine runs_w Tryd.func44 Tryd.ntmps44 rfl (rs := [.tmp 2]) rfl rfl fun w0 X hX => ?_
  refine awc_seq ?_
  refine awc_region ?_
  refine awl_op (aop_box rfl rfl ?_)
  refine awl_v (av_assign rfl) ?_
  refine awl_nil (athen_norm (awc_seq ?_))
  refine awc_draw mixed [1, 2] [(true, .ptr 0 1), (true, .int .i64 p0.2.1), (true, .bool (decide (p0.2.1 = 2))), (true, .bool (decide (p0.2.1 = 2))), (!(decide (p0.2.1 = 2)), .ptr 0 1), (!(decide (p0.2.1 = 2)), .int .i64 p0.2.1), (!(decide (p0.2.1 = 2)), .bool (decide (p0.2.1 = 3))), (true, .bool ((decide (p0.2.1 = 2)) || (decide (p0.2.1 = 3)))), (true, .ptr 0 1), (true, .int .i64 p0.2.1), (true, .bool (decide (p0.2.1 = 4))), (true, .bool (decide (p0.2.1 = 4))), (!(decide (p0.2.1 = 4)), .ptr 0 1), (!(decide (p0.2.1 = 4)), .int .i64 p0.2.1), (!(decide (p0.2.1 = 4)), .bool (decide (p0.2.1 = 5))), (true, .bool ((decide (p0.2.1 = 4)) || (decide (p0.2.1 = 5)))), (true, .bool ((decide (p0.2.1 = 2)) || (decide (p0.2.1 = 3)))), (true, .bool ((decide (p0.2.1 = 4)) || (decide (p0.2.1 = 5))))] [[], [0], [1], [2], [3], [4, 3], [5, 3], [6, 3], [], [8], [9], [10], [11], [12, 11], [13, 11], [14, 11], [7], [15]] [16, 17] rfl rfl rfl rfl rfl ⟨?_, ?_, ?_, ?_, ?_, ?_, ?_, ?_, ?_, ?_, ?_, ?_, ?_, ?_, ?_, ?_, ?_, ?_, trivial⟩ (allT_of ⟨rfl, rfl, trivial⟩) ?_
  · exact ob_v rfl (fun hg => allT_of trivial) (fun hg => av_fa_ptr fa30_1 rfl rfl)
  · exact ob_v rfl (fun hg => allT_of ⟨rfl, trivial⟩) (fun hg => av_load_ptr ts3 rfl rfl rfl)
  · exact ob_v rfl (fun hg => allT_of ⟨rfl, trivial⟩) (fun hg => av_eql rfl rfl)
  · exact ob_v rfl (fun hg => allT_of ⟨rfl, trivial⟩) (fun hg => av_move rfl)
  · exact ob_v ⟨rfl, rfl, rfl, _, rfl, rfl⟩ (fun hg => allT_of ⟨rfl, trivial⟩) (fun hg => av_fa_ptr fa30_1 rfl rfl)
  · exact ob_v ⟨rfl, rfl, rfl, _, rfl, rfl⟩ (fun hg => allT_of ⟨hg, rfl, trivial⟩) (fun hg => av_load_ptr ts3 rfl rfl rfl)
  · exact ob_v ⟨rfl, rfl, rfl, _, rfl, rfl⟩ (fun hg => allT_of ⟨hg, rfl, trivial⟩) (fun hg => av_eql rfl rfl)
  · exact ob_pick (b := false) (p := decide (p0.2.1 = 2)) (q := decide (p0.2.1 = 3)) rfl rfl rfl (fun hg => allT_of ⟨rfl, trivial⟩) rfl rfl rfl rfl rfl
  · exact ob_v rfl (fun hg => allT_of trivial) (fun hg => av_fa_ptr fa30_1 rfl rfl)
  · exact ob_v rfl (fun hg => allT_of ⟨rfl, trivial⟩) (fun hg => av_load_ptr ts3 rfl rfl rfl)
  · exact ob_v rfl (fun hg => allT_of ⟨rfl, trivial⟩) (fun hg => av_eql rfl rfl)
  · exact ob_v rfl (fun hg => allT_of ⟨rfl, trivial⟩) (fun hg => av_move rfl)
  · exact ob_v ⟨rfl, rfl, rfl, _, rfl, rfl⟩ (fun hg => allT_of ⟨rfl, trivial⟩) (fun hg => av_fa_ptr fa30_1 rfl rfl)
  · exact ob_v ⟨rfl, rfl, rfl, _, rfl, rfl⟩ (fun hg => allT_of ⟨hg, rfl, trivial⟩) (fun hg => av_load_ptr ts3 rfl rfl rfl)
  · exact ob_v ⟨rfl, rfl, rfl, _, rfl, rfl⟩ (fun hg => allT_of ⟨hg, rfl, trivial⟩) (fun hg => av_eql rfl rfl)
  · exact ob_pick (b := false) (p := decide (p0.2.1 = 4)) (q := decide (p0.2.1 = 5)) rfl rfl rfl (fun hg => allT_of ⟨rfl, trivial⟩) rfl rfl rfl rfl rfl
  · exact ob_v rfl (fun hg => allT_of ⟨rfl, trivial⟩) (fun hg => av_assign rfl)
  · exact ob_v rfl (fun hg => allT_of ⟨rfl, trivial⟩) (fun hg => av_assign rfl)
  refine athen_norm (awc_seq ?_)
  refine awc_text [1, 3, 4] [(true, .ptr 0 1), (true, .int .i64 p0.2.1), (true, .bool (decide (1 ≤ p0.2.1))), (true, .bool (decide (1 ≤ p0.2.1))), (decide (1 ≤ p0.2.1), .ptr 0 1), (decide (1 ≤ p0.2.1), .int .i64 p0.2.1), (decide (1 ≤ p0.2.1), .bool (decide (p0.2.1 ≤ 5))), (true, .bool ((decide (1 ≤ p0.2.1)) && (decide (p0.2.1 ≤ 5)))), (true, .bool ((decide (1 ≤ p0.2.1)) && (decide (p0.2.1 ≤ 5)))), ((decide (1 ≤ p0.2.1)) && (decide (p0.2.1 ≤ 5)), .bool ((decide (p0.2.1 = 2)) || (decide (p0.2.1 = 3)))), ((decide (1 ≤ p0.2.1)) && (decide (p0.2.1 ≤ 5)), .bool ((decide (p0.2.1 = 2)) || (decide (p0.2.1 = 3)))), (((decide (1 ≤ p0.2.1)) && (decide (p0.2.1 ≤ 5))) && (!((decide (p0.2.1 = 2)) || (decide (p0.2.1 = 3)))), .ptr 0 2), (((decide (1 ≤ p0.2.1)) && (decide (p0.2.1 ≤ 5))) && (!((decide (p0.2.1 = 2)) || (decide (p0.2.1 = 3)))), .int .i64 p0.2.2.1), (((decide (1 ≤ p0.2.1)) && (decide (p0.2.1 ≤ 5))) && (!((decide (p0.2.1 = 2)) || (decide (p0.2.1 = 3)))), .bool (decide (p0.2.2.1 = 0))), ((decide (1 ≤ p0.2.1)) && (decide (p0.2.1 ≤ 5)), .bool (((decide (p0.2.1 = 2)) || (decide (p0.2.1 = 3))) || (decide (p0.2.2.1 = 0)))), (true, .bool (((decide (1 ≤ p0.2.1)) && (decide (p0.2.1 ≤ 5))) && (((decide (p0.2.1 = 2)) || (decide (p0.2.1 = 3))) || (decide (p0.2.2.1 = 0))))), (true, .bool (((decide (1 ≤ p0.2.1)) && (decide (p0.2.1 ≤ 5))) && (((decide (p0.2.1 = 2)) || (decide (p0.2.1 = 3))) || (decide (p0.2.2.1 = 0))))), (((decide (1 ≤ p0.2.1)) && (decide (p0.2.1 ≤ 5))) && (((decide (p0.2.1 = 2)) || (decide (p0.2.1 = 3))) || (decide (p0.2.2.1 = 0))), .bool ((decide (p0.2.1 = 4)) || (decide (p0.2.1 = 5)))), (((decide (1 ≤ p0.2.1)) && (decide (p0.2.1 ≤ 5))) && (((decide (p0.2.1 = 2)) || (decide (p0.2.1 = 3))) || (decide (p0.2.2.1 = 0))), .bool ((decide (p0.2.1 = 4)) || (decide (p0.2.1 = 5)))), ((((decide (1 ≤ p0.2.1)) && (decide (p0.2.1 ≤ 5))) && (((decide (p0.2.1 = 2)) || (decide (p0.2.1 = 3))) || (decide (p0.2.2.1 = 0)))) && (!((decide (p0.2.1 = 4)) || (decide (p0.2.1 = 5)))), .ptr 0 3), ((((decide (1 ≤ p0.2.1)) && (decide (p0.2.1 ≤ 5))) && (((decide (p0.2.1 = 2)) || (decide (p0.2.1 = 3))) || (decide (p0.2.2.1 = 0)))) && (!((decide (p0.2.1 = 4)) || (decide (p0.2.1 = 5)))), .int .i64 p0.2.2.2.1), ((((decide (1 ≤ p0.2.1)) && (decide (p0.2.1 ≤ 5))) && (((decide (p0.2.1 = 2)) || (decide (p0.2.1 = 3))) || (decide (p0.2.2.1 = 0)))) && (!((decide (p0.2.1 = 4)) || (decide (p0.2.1 = 5)))), .bool (decide (p0.2.2.2.1 = 0))), (((decide (1 ≤ p0.2.1)) && (decide (p0.2.1 ≤ 5))) && (((decide (p0.2.1 = 2)) || (decide (p0.2.1 = 3))) || (decide (p0.2.2.1 = 0))), .bool (((decide (p0.2.1 = 4)) || (decide (p0.2.1 = 5))) || (decide (p0.2.2.2.1 = 0)))), (true, .bool ((((decide (1 ≤ p0.2.1)) && (decide (p0.2.1 ≤ 5))) && (((decide (p0.2.1 = 2)) || (decide (p0.2.1 = 3))) || (decide (p0.2.2.1 = 0)))) && (((decide (p0.2.1 = 4)) || (decide (p0.2.1 = 5))) || (decide (p0.2.2.2.1 = 0))))), (true, .bool ((((decide (1 ≤ p0.2.1)) && (decide (p0.2.1 ≤ 5))) && (((decide (p0.2.1 = 2)) || (decide (p0.2.1 = 3))) || (decide (p0.2.2.1 = 0)))) && (((decide (p0.2.1 = 4)) || (decide (p0.2.1 = 5))) || (decide (p0.2.2.2.1 = 0))))), ((((decide (1 ≤ p0.2.1)) && (decide (p0.2.1 ≤ 5))) && (((decide (p0.2.1 = 2)) || (decide (p0.2.1 = 3))) || (decide (p0.2.2.1 = 0)))) && (((decide (p0.2.1 = 4)) || (decide (p0.2.1 = 5))) || (decide (p0.2.2.2.1 = 0))), .ptr 0 4), ((((decide (1 ≤ p0.2.1)) && (decide (p0.2.1 ≤ 5))) && (((decide (p0.2.1 = 2)) || (decide (p0.2.1 = 3))) || (decide (p0.2.2.1 = 0)))) && (((decide (p0.2.1 = 4)) || (decide (p0.2.1 = 5))) || (decide (p0.2.2.2.1 = 0))), .str p0.2.2.2.2), ((((decide (1 ≤ p0.2.1)) && (decide (p0.2.1 ≤ 5))) && (((decide (p0.2.1 = 2)) || (decide (p0.2.1 = 3))) || (decide (p0.2.2.1 = 0)))) && (((decide (p0.2.1 = 4)) || (decide (p0.2.1 = 5))) || (decide (p0.2.2.2.1 = 0))), .int .i64 (List.length p0.2.2.2.2 : Int)), ((((decide (1 ≤ p0.2.1)) && (decide (p0.2.1 ≤ 5))) && (((decide (p0.2.1 = 2)) || (decide (p0.2.1 = 3))) || (decide (p0.2.2.1 = 0)))) && (((decide (p0.2.1 = 4)) || (decide (p0.2.1 = 5))) || (decide (p0.2.2.2.1 = 0))), .bool (decide ((List.length p0.2.2.2.2 : Int) ≤ 32))), (true, .bool (((((decide (1 ≤ p0.2.1)) && (decide (p0.2.1 ≤ 5))) && (((decide (p0.2.1 = 2)) || (decide (p0.2.1 = 3))) || (decide (p0.2.2.1 = 0)))) && (((decide (p0.2.1 = 4)) || (decide (p0.2.1 = 5))) || (decide (p0.2.2.2.1 = 0)))) && (decide ((List.length p0.2.2.2.2 : Int) ≤ 32)))), (true, .bool (((((decide (1 ≤ p0.2.1)) && (decide (p0.2.1 ≤ 5))) && (((decide (p0.2.1 = 2)) || (decide (p0.2.1 = 3))) || (decide (p0.2.2.1 = 0)))) && (((decide (p0.2.1 = 4)) || (decide (p0.2.1 = 5))) || (decide (p0.2.2.2.1 = 0)))) && (decide ((List.length p0.2.2.2.2 : Int) ≤ 32))))] [[], [0], [1], [2], [3], [4, 3], [5, 3], [6, 3], [7], [8], [9, 8], [10], [11, 10], [12, 10], [13, 10, 8], [14, 8], [15], [16], [17, 16], [18], [19, 18], [20, 18], [21, 18, 16], [22, 16], [23], [24], [25, 24], [26, 24], [27, 24], [28, 24], [29]] [30] rfl rfl rfl rfl rfl ⟨?_, ?_, ?_, ?_, ?_, ?_, ?_, ?_, ?_, ?_, ?_, ?_, ?_, ?_, ?_, ?_, ?_, ?_, ?_, ?_, ?_, ?_, ?_, ?_, ?_, ?_, ?_, ?_, ?_, ?_, ?_, trivial⟩ (allT_of ⟨rfl, trivial⟩) ?_
  · exact ob_v rfl (fun hg => allT_of trivial) (fun hg => av_fa_ptr fa30_1 rfl rfl)
  · exact ob_v rfl (fun hg => allT_of ⟨rfl, trivial⟩) (fun hg => av_load_ptr ts3 rfl rfl rfl)
  · exact ob_v rfl (fun hg => allT_of ⟨rfl, trivial⟩) (fun hg => av_geq rfl rfl)
  · exact ob_v rfl (fun hg => allT_of ⟨rfl, trivial⟩) (fun hg => av_move rfl)
  · exact ob_v ⟨rfl, rfl, rfl, _, rfl, rfl⟩ (fun hg => allT_of ⟨rfl, trivial⟩) (fun hg => av_fa_ptr fa30_1 rfl rfl)
  · exact ob_v ⟨rfl, rfl, rfl, _, rfl, rfl⟩ (fun hg => allT_of ⟨hg, rfl, trivial⟩) (fun hg => av_load_ptr ts3 rfl rfl rfl)
  · exact ob_v ⟨rfl, rfl, rfl, _, rfl, rfl⟩ (fun hg => allT_of ⟨hg, rfl, trivial⟩) (fun hg => av_leq rfl rfl)
  · exact ob_pick (b := true) (p := decide (1 ≤ p0.2.1)) (q := decide (p0.2.1 ≤ 5)) rfl rfl rfl (fun hg => allT_of ⟨rfl, trivial⟩) rfl rfl rfl rfl rfl
  · exact ob_v rfl (fun hg => allT_of ⟨rfl, trivial⟩) (fun hg => av_move rfl)
  · exact ob_v ⟨rfl, rfl, rfl, _, rfl, rfl⟩ (fun hg => allT_of ⟨rfl, trivial⟩) (fun hg => av_move rfl)
  · exact ob_v ⟨rfl, rfl, rfl, _, rfl, rfl⟩ (fun hg => allT_of ⟨hg, rfl, trivial⟩) (fun hg => av_move rfl)
  · exact ob_v ⟨rfl, rfl, rfl, _, rfl, rfl⟩ (fun hg => allT_of ⟨(and_l hg), trivial⟩) (fun hg => av_fa_ptr fa30_2 rfl rfl)
  · exact ob_v ⟨rfl, rfl, rfl, _, rfl, rfl⟩ (fun hg => allT_of ⟨hg, (and_l hg), trivial⟩) (fun hg => av_load_ptr ts3 rfl rfl rfl)
  · exact ob_v ⟨rfl, rfl, rfl, _, rfl, rfl⟩ (fun hg => allT_of ⟨hg, (and_l hg), trivial⟩) (fun hg => av_eql rfl rfl)
  · exact ob_pick (b := false) (p := (decide (p0.2.1 = 2)) || (decide (p0.2.1 = 3))) (q := decide (p0.2.2.1 = 0)) ⟨rfl, rfl, rfl, _, rfl, rfl⟩ rfl rfl (fun hg => allT_of ⟨hg, rfl, trivial⟩) rfl rfl rfl rfl rfl
  · exact ob_pick (b := true) (p := (decide (1 ≤ p0.2.1)) && (decide (p0.2.1 ≤ 5))) (q := ((decide (p0.2.1 = 2)) || (decide (p0.2.1 = 3))) || (decide (p0.2.2.1 = 0))) rfl rfl rfl (fun hg => allT_of ⟨rfl, trivial⟩) rfl rfl rfl rfl rfl
  · exact ob_v rfl (fun hg => allT_of ⟨rfl, trivial⟩) (fun hg => av_move rfl)
  · exact ob_v ⟨rfl, rfl, rfl, _, rfl, rfl⟩ (fun hg => allT_of ⟨rfl, trivial⟩) (fun hg => av_move rfl)
  · exact ob_v ⟨rfl, rfl, rfl, _, rfl, rfl⟩ (fun hg => allT_of ⟨hg, rfl, trivial⟩) (fun hg => av_move rfl)
  · exact ob_v ⟨rfl, rfl, rfl, _, rfl, rfl⟩ (fun hg => allT_of ⟨(and_l hg), trivial⟩) (fun hg => av_fa_ptr fa30_3 rfl rfl)
  · exact ob_v ⟨rfl, rfl, rfl, _, rfl, rfl⟩ (fun hg => allT_of ⟨hg, (and_l hg), trivial⟩) (fun hg => av_load_ptr ts3 rfl rfl rfl)
  · exact ob_v ⟨rfl, rfl, rfl, _, rfl, rfl⟩ (fun hg => allT_of ⟨hg, (and_l hg), trivial⟩) (fun hg => av_eql rfl rfl)
  · exact ob_pick (b := false) (p := (decide (p0.2.1 = 4)) || (decide (p0.2.1 = 5))) (q := decide (p0.2.2.2.1 = 0)) ⟨rfl, rfl, rfl, _, rfl, rfl⟩ rfl rfl (fun hg => allT_of ⟨hg, rfl, trivial⟩) rfl rfl rfl rfl rfl
  · exact ob_pick (b := true) (p := ((decide (1 ≤ p0.2.1)) && (decide (p0.2.1 ≤ 5))) && (((decide (p0.2.1 = 2)) || (decide (p0.2.1 = 3))) || (decide (p0.2.2.1 = 0)))) (q := ((decide (p0.2.1 = 4)) || (decide (p0.2.1 = 5))) || (decide (p0.2.2.2.1 = 0))) rfl rfl rfl (fun hg => allT_of ⟨rfl, trivial⟩) rfl rfl rfl rfl rfl
  · exact ob_v rfl (fun hg => allT_of ⟨rfl, trivial⟩) (fun hg => av_move rfl)
  · exact ob_v ⟨rfl, rfl, rfl, _, rfl, rfl⟩ (fun hg => allT_of ⟨rfl, trivial⟩) (fun hg => av_fa_ptr fa30_4 rfl rfl)
  · exact ob_v ⟨rfl, rfl, rfl, _, rfl, rfl⟩ (fun hg => allT_of ⟨hg, rfl, trivial⟩) (fun hg => av_load_ptr ts9 rfl rfl rfl)
  · exact ob_v ⟨rfl, rfl, rfl, _, rfl, rfl⟩ (fun hg => allT_of ⟨hg, rfl, trivial⟩) (fun hg => av_len_str rfl rfl und9 rfl)
  · exact ob_v ⟨rfl, rfl, rfl, _, rfl, rfl⟩ (fun hg => allT_of ⟨hg, rfl, trivial⟩) (fun hg => av_leq rfl rfl)
  · exact ob_pick (b := true) (p := (((decide (1 ≤ p0.2.1)) && (decide (p0.2.1 ≤ 5))) && (((decide (p0.2.1 = 2)) || (decide (p0.2.1 = 3))) || (decide (p0.2.2.1 = 0)))) && (((decide (p0.2.1 = 4)) || (decide (p0.2.1 = 5))) || (decide (p0.2.2.2.1 = 0)))) (q := decide ((List.length p0.2.2.2.2 : Int) ≤ 32)) rfl rfl rfl (fun hg => allT_of ⟨rfl, trivial⟩) rfl rfl rfl rfl rfl
  · exact ob_v rfl (fun hg => allT_of ⟨rfl, trivial⟩) (fun hg => av_assign rfl)
  have hr := Option.some.inj hr
  subst hr
  exact athen_norm (awc_ret (ret_q (l' := [(2, .bool (((((decide (1 ≤ p0.2.1)) && (decide (p0.2.1 ≤ 5))) && (((decide (p0.2.1 = 2)) || (decide (p0.2.1 = 3))) || (decide (p0.2.2.1 = 0)))) && (((decide (p0.2.1 = 4)) || (decide (p0.2.1 = 5))) || (decide (p0.2.2.2.1 = 0)))) && (decide ((List.length p0.2.2.2.2 : Int) ≤ 32))))]) (wk_of hX [] 4 rfl rfl ⟨⟨_, rfl, cv0⟩, trivial⟩ trivial) rfl ⟨rfl, trivial⟩))
theorem f49_runs {p0_0 : Int} {p0_1 : List (Int × Bool)} {p0_2 : List (Int × Int)} {p0_3 : List (Int × Int)} {p1 : Int × Int × Int × Int × Str} {r : Int × (List (Int × Bool)) × (List (Int × Int)) × (List (Int × Int))} (hr : f49 p0_0 p0_1 p0_2 p0_3 p1 = some r) : Runs Tryd.prog 35 [.ptr 0 0, .agg [.int .i64 p1.1, .int .i64 p1.2.1, .int .i64 p1.2.2.1, .int .i64 p1.2.2.2.1, .str p1.2.2.2.2]] [.var 66 [.int .i64 p0_0, .map 1, .map 2, .map 3], .map (.int .i64) .bool p0_1, .map (.int .i64) (.int .i64) p0_2, .map (.int .i64) (.int .i64) p0_3] (fun q Hq => q = [.int .i64 r.1] ∧ Hq = [.var 66 [.int .i64 p0_0, .map 1, .map 2, .map 3], .map (.int .i64) .bool r.2.1, .map (.int .i64) (.int .i64) r.2.2.1, .map (.int .i64) (.int .i64) r.2.2.2]) := by
  refine runs_w Tryd.func35 Tryd.ntmps35 rfl (rs := [.tmp 4]) rfl rfl fun w0 X hX => ?_
  refine awc_seq ?_
  refine awc_region ?_
  refine awl_op (aop_box rfl rfl ?_)
  refine awl_v (av_assign rfl) ?_
  refine awl_nil (athen_norm (awc_seq (awc_block (awc_seq ?_))))
  refine awc_draw mixed [0, 3, 4] [(true, .ptr 4 0), (true, .int .i64 p1.1), (true, .bool (decide (p1.1 < 0))), (true, .bool (decide (p1.1 < 0))), (!(decide (p1.1 < 0)), .ptr 4 0), (!(decide (p1.1 < 0)), .int .i64 p1.1), (!(decide (p1.1 < 0)), .ptr 0 0), (!(decide (p1.1 < 0)), .ptr 0 0), (!(decide (p1.1 < 0)), .ptr 0 0), (!(decide (p1.1 < 0)), .int .i64 p0_0), (!(decide (p1.1 < 0)), .bool (decide (p0_0 ≤ p1.1))), (true, .bool ((decide (p1.1 < 0)) || (decide (p0_0 ≤ p1.1)))), (true, .bool ((decide (p1.1 < 0)) || (decide (p0_0 ≤ p1.1))))] [[], [0], [1], [2], [3], [4, 3], [3], [6, 3], [7, 3], [8, 3], [5, 9, 3], [10, 3], [11]] [12] rfl rfl rfl rfl rfl ⟨?_, ?_, ?_, ?_, ?_, ?_, ?_, ?_, ?_, ?_, ?_, ?_, ?_, trivial⟩ (allT_of ⟨rfl, trivial⟩) ?_
  · exact ob_v rfl (fun hg => allT_of trivial) (fun hg => av_fa_ptr fa30_0 rfl rfl)
  · exact ob_v rfl (fun hg => allT_of ⟨rfl, trivial⟩) (fun hg => av_load_ptr ts3 rfl rfl rfl)
  · exact ob_v rfl (fun hg => allT_of ⟨rfl, trivial⟩) (fun hg => av_lss rfl rfl)
  · exact ob_v rfl (fun hg => allT_of ⟨rfl, trivial⟩) (fun hg => av_move rfl)
  · exact ob_v ⟨rfl, rfl, rfl, _, rfl, rfl⟩ (fun hg => allT_of ⟨rfl, trivial⟩) (fun hg => av_fa_ptr fa30_0 rfl rfl)
  · exact ob_v ⟨rfl, rfl, rfl, _, rfl, rfl⟩ (fun hg => allT_of ⟨hg, rfl, trivial⟩) (fun hg => av_load_ptr ts3 rfl rfl rfl)
  · exact ob_v ⟨rfl, rfl, rfl, _, rfl, rfl⟩ (fun hg => allT_of ⟨rfl, trivial⟩) (fun hg => av_move rfl)
  · exact ob_v ⟨rfl, rfl, rfl, _, rfl, rfl⟩ (fun hg => allT_of ⟨hg, rfl, trivial⟩) (fun hg => av_nilCheck_ptr rfl)
  · exact ob_v ⟨rfl, rfl, rfl, _, rfl, rfl⟩ (fun hg => allT_of ⟨hg, rfl, trivial⟩) (fun hg => av_fa_ptr fa66_0 rfl rfl)
  · exact ob_v ⟨rfl, rfl, rfl, _, rfl, rfl⟩ (fun hg => allT_of ⟨hg, rfl, trivial⟩) (fun hg => av_load_ptr ts3 rfl rfl rfl)
  · exact ob_v ⟨rfl, rfl, rfl, _, rfl, rfl⟩ (fun hg => allT_of ⟨hg, hg, rfl, trivial⟩) (fun hg => av_geq rfl rfl)
  · exact ob_pick (b := false) (p := decide (p1.1 < 0)) (q := decide (p0_0 ≤ p1.1)) rfl rfl rfl (fun hg => allT_of ⟨rfl, trivial⟩) rfl rfl rfl rfl rfl
  · exact ob_v rfl (fun hg => allT_of ⟨rfl, trivial⟩) (fun hg => av_assign rfl)
  refine athen_norm ?_
  refine awc_cond (b := (decide (p1.1 < 0)) || (decide (p0_0 ≤ p1.1))) rfl (fun hc4 => ?_) (fun hc4 => ?_)
  · have hr := if_t hc4 hr
    refine awc_seq ?_
    refine awc_region ?_
    refine awl_v (av_assign rfl) ?_
    have hr := Option.some.inj hr
    subst hr
    exact awl_nil (athen_norm (awc_ret (ablock_ret (athen_ret (ret_o (l' := [(4, .int .i64 7)]) (Hs := [(0, .var 66 [.int .i64 p0_0, .map 1, .map 2, .map 3]), (1, .map (.int .i64) .bool p0_1), (2, .map (.int .i64) (.int .i64) p0_2), (3, .map (.int .i64) (.int .i64) p0_3)]) (n := 4) (wk_of hX [0, 1, 2, 3] 4 rfl rfl ⟨⟨_, rfl, cv0⟩, trivial⟩ ⟨cvo0, cvo0, cvo0, cvo0, trivial⟩) rfl rfl rfl ⟨rfl, trivial⟩)))))
  · have hr := if_f hc4 hr
    refine awc_seq ?_
    refine awc_text [0, 3, 4] [(true, .ptr 4 1), (true, .int .i64 p1.2.1), (true, .bool (decide (p1.2.1 = 2))), (true, .bool (decide (p1.2.1 = 2))), (!(decide (p1.2.1 = 2)), .ptr 4 1), (!(decide (p1.2.1 = 2)), .int .i64 p1.2.1), (!(decide (p1.2.1 = 2)), .bool (decide (p1.2.1 = 3))), (true, .bool ((decide (p1.2.1 = 2)) || (decide (p1.2.1 = 3)))), (true, .bool ((decide (p1.2.1 = 2)) || (decide (p1.2.1 = 3)))), ((decide (p1.2.1 = 2)) || (decide (p1.2.1 = 3)), .ptr 4 2), ((decide (p1.2.1 = 2)) || (decide (p1.2.1 = 3)), .int .i64 p1.2.2.1), ((decide (p1.2.1 = 2)) || (decide (p1.2.1 = 3)), .bool (decide (p1.2.2.1 < 1))), (true, .bool (((decide (p1.2.1 = 2)) || (decide (p1.2.1 = 3))) && (decide (p1.2.2.1 < 1)))), (true, .bool (((decide (p1.2.1 = 2)) || (decide (p1.2.1 = 3))) && (decide (p1.2.2.1 < 1)))), (!(((decide (p1.2.1 = 2)) || (decide (p1.2.1 = 3))) && (decide (p1.2.2.1 < 1))), .ptr 4 1), (!(((decide (p1.2.1 = 2)) || (decide (p1.2.1 = 3))) && (decide (p1.2.2.1 < 1))), .int .i64 p1.2.1), (!(((decide (p1.2.1 = 2)) || (decide (p1.2.1 = 3))) && (decide (p1.2.2.1 < 1))), .bool (decide (p1.2.1 = 4))), (!(((decide (p1.2.1 = 2)) || (decide (p1.2.1 = 3))) && (decide (p1.2.2.1 < 1))), .bool (decide (p1.2.1 = 4))), ((!(((decide (p1.2.1 = 2)) || (decide (p1.2.1 = 3))) && (decide (p1.2.2.1 < 1)))) && (!(decide (p1.2.1 = 4))), .ptr 4 1), ((!(((decide (p1.2.1 = 2)) || (decide (p1.2.1 = 3))) && (decide (p1.2.2.1 < 1)))) && (!(decide (p1.2.1 = 4))), .int .i64 p1.2.1), ((!(((decide (p1.2.1 = 2)) || (decide (p1.2.1 = 3))) && (decide (p1.2.2.1 < 1)))) && (!(decide (p1.2.1 = 4))), .bool (decide (p1.2.1 = 5))), (!(((decide (p1.2.1 = 2)) || (decide (p1.2.1 = 3))) && (decide (p1.2.2.1 < 1))), .bool ((decide (p1.2.1 = 4)) || (decide (p1.2.1 = 5)))), (!(((decide (p1.2.1 = 2)) || (decide (p1.2.1 = 3))) && (decide (p1.2.2.1 < 1))), .bool ((decide (p1.2.1 = 4)) || (decide (p1.2.1 = 5)))), ((!(((decide (p1.2.1 = 2)) || (decide (p1.2.1 = 3))) && (decide (p1.2.2.1 < 1)))) && ((decide (p1.2.1 = 4)) || (decide (p1.2.1 = 5))), .ptr 4 3), ((!(((decide (p1.2.1 = 2)) || (decide (p1.2.1 = 3))) && (decide (p1.2.2.1 < 1)))) && ((decide (p1.2.1 = 4)) || (decide (p1.2.1 = 5))), .int .i64 p1.2.2.2.1), ((!(((decide (p1.2.1 = 2)) || (decide (p1.2.1 = 3))) && (decide (p1.2.2.1 < 1)))) && ((decide (p1.2.1 = 4)) || (decide (p1.2.1 = 5))), .bool (decide (p1.2.2.2.1 < 1))), (!(((decide (p1.2.1 = 2)) || (decide (p1.2.1 = 3))) && (decide (p1.2.2.1 < 1))), .bool (((decide (p1.2.1 = 4)) || (decide (p1.2.1 = 5))) && (decide (p1.2.2.2.1 < 1)))), (true, .bool ((((decide (p1.2.1 = 2)) || (decide (p1.2.1 = 3))) && (decide (p1.2.2.1 < 1))) || (((decide (p1.2.1 = 4)) || (decide (p1.2.1 = 5))) && (decide (p1.2.2.2.1 < 1))))), (true, .bool ((((decide (p1.2.1 = 2)) || (decide (p1.2.1 = 3))) && (decide (p1.2.2.1 < 1))) || (((decide (p1.2.1 = 4)) || (decide (p1.2.1 = 5))) && (decide (p1.2.2.2.1 < 1)))))] [[], [0], [1], [2], [3], [4, 3], [5, 3], [6, 3], [7], [8], [9, 8], [10, 8], [11, 8], [12], [13], [14, 13], [15, 13], [16, 13], [17], [18, 17], [19, 17], [20, 17, 13], [21, 13], [22], [23, 22], [24, 22], [25, 22, 13], [26, 13], [27]] [28] rfl rfl rfl rfl rfl ⟨?_, ?_, ?_, ?_, ?_, ?_, ?_, ?_, ?_, ?_, ?_, ?_, ?_, ?_, ?_, ?_, ?_, ?_, ?_, ?_, ?_, ?_, ?_, ?_, ?_, ?_, ?_, ?_, ?_, trivial⟩ (allT_of ⟨rfl, trivial⟩) ?_
    · exact ob_v rfl (fun hg => allT_of trivial) (fun hg => av_fa_ptr fa30_1 rfl rfl)
    · exact ob_v rfl (fun hg => allT_of ⟨rfl, trivial⟩) (fun hg => av_load_ptr ts3 rfl rfl rfl)
    · exact ob_v rfl (fun hg => allT_of ⟨rfl, trivial⟩) (fun hg => av_eql rfl rfl)
    · exact ob_v rfl (fun hg => allT_of ⟨rfl, trivial⟩) (fun hg => av_move rfl)
    · exact ob_v ⟨rfl, rfl, rfl, _, rfl, rfl⟩ (fun hg => allT_of ⟨rfl, trivial⟩) (fun hg => av_fa_ptr fa30_1 rfl rfl)
    · exact ob_v ⟨rfl, rfl, rfl, _, rfl, rfl⟩ (fun hg => allT_of ⟨hg, rfl, trivial⟩) (fun hg => av_load_ptr ts3 rfl rfl rfl)
    · exact ob_v ⟨rfl, rfl, rfl, _, rfl, rfl⟩ (fun hg => allT_of ⟨hg, rfl, trivial⟩) (fun hg => av_eql rfl rfl)
    · exact ob_pick (b := false) (p := decide (p1.2.1 = 2)) (q := decide (p1.2.1 = 3)) rfl rfl rfl (fun hg => allT_of ⟨rfl, trivial⟩) rfl rfl rfl rfl rfl
    · exact ob_v rfl (fun hg => allT_of ⟨rfl, trivial⟩) (fun hg => av_move rfl)
    · exact ob_v ⟨rfl, rfl, rfl, _, rfl, rfl⟩ (fun hg => allT_of ⟨rfl, trivial⟩) (fun hg => av_fa_ptr fa30_2 rfl rfl)
    · exact ob_v ⟨rfl, rfl, rfl, _, rfl, rfl⟩ (fun hg => allT_of ⟨hg, rfl, trivial⟩) (fun hg => av_load_ptr ts3 rfl rfl rfl)
    · exact ob_v ⟨rfl, rfl, rfl, _, rfl, rfl⟩ (fun hg => allT_of ⟨hg, rfl, trivial⟩) (fun hg => av_lss rfl rfl)
    · exact ob_pick (b := true) (p := (decide (p1.2.1 = 2)) || (decide (p1.2.1 = 3))) (q := decide (p1.2.2.1 < 1)) rfl rfl rfl (fun hg => allT_of ⟨rfl, trivial⟩) rfl rfl rfl rfl rfl
    · exact ob_v rfl (fun hg => allT_of ⟨rfl, trivial⟩) (fun hg => av_move rfl)
    · exact ob_v ⟨rfl, rfl, rfl, _, rfl, rfl⟩ (fun hg => allT_of ⟨rfl, trivial⟩) (fun hg => av_fa_ptr fa30_1 rfl rfl)
    · exact ob_v ⟨rfl, rfl, rfl, _, rfl, rfl⟩ (fun hg => allT_of ⟨hg, rfl, trivial⟩) (fun hg => av_load_ptr ts3 rfl rfl rfl)
    · exact ob_v ⟨rfl, rfl, rfl, _, rfl, rfl⟩ (fun hg => allT_of ⟨hg, rfl, trivial⟩) (fun hg => av_eql rfl rfl)
    · exact ob_v ⟨rfl, rfl, rfl, _, rfl, rfl⟩ (fun hg => allT_of ⟨hg, rfl, trivial⟩) (fun hg => av_move rfl)
    · exact ob_v ⟨rfl, rfl, rfl, _, rfl, rfl⟩ (fun hg => allT_of ⟨(and_l hg), trivial⟩) (fun hg => av_fa_ptr fa30_1 rfl rfl)
    · exact ob_v ⟨rfl, rfl, rfl, _, rfl, rfl⟩ (fun hg => allT_of ⟨hg, (and_l hg), trivial⟩) (fun hg => av_load_ptr ts3 rfl rfl rfl)
    · exact ob_v ⟨rfl, rfl, rfl, _, rfl, rfl⟩ (fun hg => allT_of ⟨hg, (and_l hg), trivial⟩) (fun hg => av_eql rfl rfl)
    · exact ob_pick (b := false) (p := decide (p1.2.1 = 4)) (q := decide (p1.2.1 = 5)) ⟨rfl, rfl, rfl, _, rfl, rfl⟩ rfl rfl (fun hg => allT_of ⟨hg, rfl, trivial⟩) rfl rfl rfl rfl rfl
    · exact ob_v ⟨rfl, rfl, rfl, _, rfl, rfl⟩ (fun hg => allT_of ⟨hg, rfl, trivial⟩) (fun hg => av_move rfl)
    · exact ob_v ⟨rfl, rfl, rfl, _, rfl, rfl⟩ (fun hg => allT_of ⟨(and_l hg), trivial⟩) (fun hg => av_fa_ptr fa30_3 rfl rfl)
    · exact ob_v ⟨rfl, rfl, rfl, _, rfl, rfl⟩ (fun hg => allT_of ⟨hg, (and_l hg), trivial⟩) (fun hg => av_load_ptr ts3 rfl rfl rfl)
    · exact ob_v ⟨rfl, rfl, rfl, _, rfl, rfl⟩ (fun hg => allT_of ⟨hg, (and_l hg), trivial⟩) (fun hg => av_lss rfl rfl)
    · exact ob_pick (b := true) (p := (decide (p1.2.1 = 4)) || (decide (p1.2.1 = 5))) (q := decide (p1.2.2.2.1 < 1)) ⟨rfl, rfl, rfl, _, rfl, rfl⟩ rfl rfl (fun hg => allT_of ⟨hg, rfl, trivial⟩) rfl rfl rfl rfl rfl
    · exact ob_pick (b := false) (p := ((decide (p1.2.1 = 2)) || (decide (p1.2.1 = 3))) && (decide (p1.2.2.1 < 1))) (q := ((decide (p1.2.1 = 4)) || (decide (p1.2.1 = 5))) && (decide (p1.2.2.2.1 < 1))) rfl rfl rfl (fun hg => allT_of ⟨rfl, trivial⟩) rfl rfl rfl rfl rfl
    · exact ob_v rfl (fun hg => allT_of ⟨rfl, trivial⟩) (fun hg => av_assign rfl)
    refine athen_norm ?_
    refine awc_cond (b := (((decide (p1.2.1 = 2)) || (decide (p1.2.1 = 3))) && (decide (p1.2.2.1 < 1))) || (((decide (p1.2.1 = 4)) || (decide (p1.2.1 = 5))) && (decide (p1.2.2.2.1 < 1)))) rfl (fun hc5 => ?_) (fun hc5 => ?_)
    · have hr := if_t hc5 hr
      refine awc_seq ?_
      refine awc_region ?_
      refine awl_v (av_assign rfl) ?_
      have hr := Option.some.inj hr
      subst hr
      exact awl_nil (athen_norm (awc_ret (ablock_ret (athen_ret (ret_o (l' := [(4, .int .i64 7)]) (Hs := [(0, .var 66 [.int .i64 p0_0, .map 1, .map 2, .map 3]), (1, .map (.int .i64) .bool p0_1), (2, .map (.int .i64) (.int .i64) p0_2), (3, .map (.int .i64) (.int .i64) p0_3)]) (n := 4) (wk_of hX [0, 1, 2, 3] 4 rfl rfl ⟨⟨_, rfl, cv0⟩, trivial⟩ ⟨cvo0, cvo0, cvo0, cvo0, trivial⟩) rfl rfl rfl ⟨rfl, trivial⟩)))))
    · have hr := if_f hc5 hr
      refine awc_seq ?_
      refine awc_region ?_
      refine awl_v (av_load_ptrN ts30 rfl rfl rfl rfl) ?_
      obtain ⟨x6, e7, hr⟩ := bnd_some hr
      refine awl_v (av_call (f80_runs e7).x ent44 rfl rfl) ?_
      refine awl_v (av_not rfl) ?_
      refine awl_v (av_assign rfl) ?_
      refine awl_nil (athen_norm ?_)
      refine awc_cond (b := !x6) rfl (fun hc8 => ?_) (fun hc8 => ?_)
      · have hr := if_t hc8 hr
        refine awc_seq ?_
        refine awc_region ?_
        refine awl_v (av_assign rfl) ?_
        have hr := Option.some.inj hr
        subst hr
        exact awl_nil (athen_norm (awc_ret (ablock_ret (athen_ret (ret_o (l' := [(4, .int .i64 10)]) (Hs := [(0, .var 66 [.int .i64 p0_0, .map 1, .map 2, .map 3]), (1, .map (.int .i64) .bool p0_1), (2, .map (.int .i64) (.int .i64) p0_2), (3, .map (.int .i64) (.int .i64) p0_3)]) (n := 4) (wk_of hX [0, 1, 2, 3] 4 rfl rfl ⟨⟨_, rfl, cv0⟩, trivial⟩ ⟨cvo0, cvo0, cvo0, cvo0, trivial⟩) rfl rfl rfl ⟨rfl, trivial⟩)))))
      · have hr := if_f hc8 hr
        refine awc_skip (ablock_norm (athen_norm (awc_seq ?_)))
        refine awc_draw mixed [0, 3, 4] [(true, .ptr 0 0), (true, .ptr 0 0), (true, .ptr 0 2), (true, .map 2), (true, .ptr 4 3), (true, .int .i64 p1.2.2.2.1), (true, .tup [.int .i64 ((mget p0_2 p1.2.2.2.1).getD 0), .bool ((mget p0_2 p1.2.2.2.1).isSome)]), (true, .tup [.int .i64 ((mget p0_2 p1.2.2.2.1).getD 0), .bool ((mget p0_2 p1.2.2.2.1).isSome)]), (true, .int .i64 ((mget p0_2 p1.2.2.2.1).getD 0)), (true, .bool ((mget p0_2 p1.2.2.2.1).isSome)), (true, .int .i64 ((mget p0_2 p1.2.2.2.1).getD 0)), (true, .bool ((mget p0_2 p1.2.2.2.1).isSome))] [[], [0], [1], [2], [], [4], [3, 5], [6], [7], [7], [8], [9]] [10, 11] rfl rfl rfl rfl rfl ⟨?_, ?_, ?_, ?_, ?_, ?_, ?_, ?_, ?_, ?_, ?_, ?_, trivial⟩ (allT_of ⟨rfl, rfl, trivial⟩) ?_
        · exact ob_v rfl (fun hg => allT_of trivial) (fun hg => av_move rfl)
        · exact ob_v rfl (fun hg => allT_of ⟨rfl, trivial⟩) (fun hg => av_nilCheck_ptr rfl)
        · exact ob_v rfl (fun hg => allT_of ⟨rfl, trivial⟩) (fun hg => av_fa_ptr fa66_2 rfl rfl)
        · exact ob_v rfl (fun hg => allT_of ⟨rfl, trivial⟩) (fun hg => av_load_ptr ts64 rfl rfl rfl)
        · exact ob_v rfl (fun hg => allT_of trivial) (fun hg => av_fa_ptr fa30_3 rfl rfl)
        · exact ob_v rfl (fun hg => allT_of ⟨rfl, trivial⟩) (fun hg => av_load_ptr ts3 rfl rfl rfl)
        · exact ob_v rfl (fun hg => allT_of ⟨rfl, rfl, trivial⟩) (fun hg => av_lookup2 (kx := p1.2.2.2.1) (r := .tup [.int .i64 ((mget p0_2 p1.2.2.2.1).getD 0), .bool ((mget p0_2 p1.2.2.2.1).isSome)]) und64 kt3 zw3 rfl rfl rfl rfl rfl)
        · exact ob_v rfl (fun hg => allT_of ⟨rfl, trivial⟩) (fun hg => av_move rfl)
        · exact ob_v rfl (fun hg => allT_of ⟨rfl, trivial⟩) (fun hg => av_extract rfl rfl)
        · exact ob_v rfl (fun hg => allT_of ⟨rfl, trivial⟩) (fun hg => av_extract rfl rfl)
        · exact ob_v rfl (fun hg => allT_of ⟨rfl, trivial⟩) (fun hg => av_assign rfl)
        · exact ob_v rfl (fun hg => allT_of ⟨rfl, trivial⟩) (fun hg => av_assign rfl)
        refine athen_norm (awc_seq ?_)
        refine awc_draw mixed [0, 3, 4, 5, 6] [(true, .ptr 0 0), (true, .ptr 0 0), (true, .ptr 0 3), (true, .map 3), (true, .ptr 4 3), (true, .int .i64 p1.2.2.2.1), (true, .tup [.int .i64 ((mget p0_3 p1.2.2.2.1).getD 0), .bool ((mget p0_3 p1.2.2.2.1).isSome)]), (true, .tup [.int .i64 ((mget p0_3 p1.2.2.2.1).getD 0), .bool ((mget p0_3 p1.2.2.2.1).isSome)]), (true, .int .i64 ((mget p0_3 p1.2.2.2.1).getD 0)), (true, .bool ((mget p0_3 p1.2.2.2.1).isSome)), (true, .int .i64 ((mget p0_3 p1.2.2.2.1).getD 0)), (true, .bool ((mget p0_3 p1.2.2.2.1).isSome))] [[], [0], [1], [2], [], [4], [3, 5], [6], [7], [7], [8], [9]] [11] rfl rfl rfl rfl rfl ⟨?_, ?_, ?_, ?_, ?_, ?_, ?_, ?_, ?_, ?_, ?_, ?_, trivial⟩ (allT_of ⟨rfl, trivial⟩) ?_
        · exact ob_v rfl (fun hg => allT_of trivial) (fun hg => av_move rfl)
        · exact ob_v rfl (fun hg => allT_of ⟨rfl, trivial⟩) (fun hg => av_nilCheck_ptr rfl)
        · exact ob_v rfl (fun hg => allT_of ⟨rfl, trivial⟩) (fun hg => av_fa_ptr fa66_3 rfl rfl)
        · exact ob_v rfl (fun hg => allT_of ⟨rfl, trivial⟩) (fun hg => av_load_ptr ts64 rfl rfl rfl)
        · exact ob_v rfl (fun hg => allT_of trivial) (fun hg => av_fa_ptr fa30_3 rfl rfl)
        · exact ob_v rfl (fun hg => allT_of ⟨rfl, trivial⟩) (fun hg => av_load_ptr ts3 rfl rfl rfl)
        · exact ob_v rfl (fun hg => allT_of ⟨rfl, rfl, trivial⟩) (fun hg => av_lookup2 (kx := p1.2.2.2.1) (r := .tup [.int .i64 ((mget p0_3 p1.2.2.2.1).getD 0), .bool ((mget p0_3 p1.2.2.2.1).isSome)]) und64 kt3 zw3 rfl rfl rfl rfl rfl)
        · exact ob_v rfl (fun hg => allT_of ⟨rfl, trivial⟩) (fun hg => av_move rfl)
        · exact ob_v rfl (fun hg => allT_of ⟨rfl, trivial⟩) (fun hg => av_extract rfl rfl)
        · exact ob_v rfl (fun hg => allT_of ⟨rfl, trivial⟩) (fun hg => av_extract rfl rfl)
        · exact ob_v rfl (fun hg => allT_of ⟨rfl, trivial⟩) (fun hg => av_assign rfl)
        · exact ob_v rfl (fun hg => allT_of ⟨rfl, trivial⟩) (fun hg => av_assign rfl)
        refine athen_norm (awc_seq (awc_block (awc_seq ?_)))
        refine awc_draw mixed [0, 3, 4, 5, 6, 8] [(true, .ptr 4 1), (true, .int .i64 p1.2.1), (true, .bool (decide (p1.2.1 = 2))), (true, .bool (decide (p1.2.1 = 2))), (decide (p1.2.1 = 2), .ptr 0 0), (decide (p1.2.1 = 2), .ptr 0 0), (decide (p1.2.1 = 2), .ptr 0 1), (decide (p1.2.1 = 2), .map 1), (decide (p1.2.1 = 2), .ptr 4 2), (decide (p1.2.1 = 2), .int .i64 p1.2.2.1), (decide (p1.2.1 = 2), .bool ((mget p0_1 p1.2.2.1).getD false)), (true, .bool ((decide (p1.2.1 = 2)) && ((mget p0_1 p1.2.2.1).getD false))), (true, .bool ((decide (p1.2.1 = 2)) && ((mget p0_1 p1.2.2.1).getD false))), (!((decide (p1.2.1 = 2)) && ((mget p0_1 p1.2.2.1).getD false)), .ptr 4 1), (!((decide (p1.2.1 = 2)) && ((mget p0_1 p1.2.2.1).getD false)), .int .i64 p1.2.1), (!((decide (p1.2.1 = 2)) && ((mget p0_1 p1.2.2.1).getD false)), .bool (decide (p1.2.1 = 4))), (!((decide (p1.2.1 = 2)) && ((mget p0_1 p1.2.2.1).getD false)), .bool (decide (p1.2.1 = 4))), ((!((decide (p1.2.1 = 2)) && ((mget p0_1 p1.2.2.1).getD false))) && (decide (p1.2.1 = 4)), .bool ((mget p0_2 p1.2.2.2.1).isSome)), (!((decide (p1.2.1 = 2)) && ((mget p0_1 p1.2.2.1).getD false)), .bool ((decide (p1.2.1 = 4)) && ((mget p0_2 p1.2.2.2.1).isSome))), (true, .bool (((decide (p1.2.1 = 2)) && ((mget p0_1 p1.2.2.1).getD false)) || ((decide (p1.2.1 = 4)) && ((mget p0_2 p1.2.2.2.1).isSome)))), (true, .bool (((decide (p1.2.1 = 2)) && ((mget p0_1 p1.2.2.1).getD false)) || ((decide (p1.2.1 = 4)) && ((mget p0_2 p1.2.2.2.1).isSome)))), (!(((decide (p1.2.1 = 2)) && ((mget p0_1 p1.2.2.1).getD false)) || ((decide (p1.2.1 = 4)) && ((mget p0_2 p1.2.2.2.1).isSome))), .ptr 4 1), (!(((decide (p1.2.1 = 2)) && ((mget p0_1 p1.2.2.1).getD false)) || ((decide (p1.2.1 = 4)) && ((mget p0_2 p1.2.2.2.1).isSome))), .int .i64 p1.2.1), (!(((decide (p1.2.1 = 2)) && ((mget p0_1 p1.2.2.1).getD false)) || ((decide (p1.2.1 = 4)) && ((mget p0_2 p1.2.2.2.1).isSome))), .bool (decide (p1.2.1 = 5))), (!(((decide (p1.2.1 = 2)) && ((mget p0_1 p1.2.2.1).getD false)) || ((decide (p1.2.1 = 4)) && ((mget p0_2 p1.2.2.2.1).isSome))), .bool (decide (p1.2.1 = 5))), ((!(((decide (p1.2.1 = 2)) && ((mget p0_1 p1.2.2.1).getD false)) || ((decide (p1.2.1 = 4)) && ((mget p0_2 p1.2.2.2.1).isSome)))) && (decide (p1.2.1 = 5)), .bool ((mget p0_3 p1.2.2.2.1).isSome)), (!(((decide (p1.2.1 = 2)) && ((mget p0_1 p1.2.2.1).getD false)) || ((decide (p1.2.1 = 4)) && ((mget p0_2 p1.2.2.2.1).isSome))), .bool ((decide (p1.2.1 = 5)) && ((mget p0_3 p1.2.2.2.1).isSome))), (true, .bool ((((decide (p1.2.1 = 2)) && ((mget p0_1 p1.2.2.1).getD false)) || ((decide (p1.2.1 = 4)) && ((mget p0_2 p1.2.2.2.1).isSome))) || ((decide (p1.2.1 = 5)) && ((mget p0_3 p1.2.2.2.1).isSome)))), (true, .bool ((((decide (p1.2.1 = 2)) && ((mget p0_1 p1.2.2.1).getD false)) || ((decide (p1.2.1 = 4)) && ((mget p0_2 p1.2.2.2.1).isSome))) || ((decide (p1.2.1 = 5)) && ((mget p0_3 p1.2.2.2.1).isSome))))] [[], [0], [1], [2], [3], [4, 3], [5, 3], [6, 3], [3], [8, 3], [7, 9, 3], [10, 3], [11], [12], [13, 12], [14, 12], [15, 12], [16], [17, 16, 12], [18, 12], [19], [20], [21, 20], [22, 20], [23, 20], [24], [25, 24, 20], [26, 20], [27]] [28] rfl rfl rfl rfl rfl ⟨?_, ?_, ?_, ?_, ?_, ?_, ?_, ?_, ?_, ?_, ?_, ?_, ?_, ?_, ?_, ?_, ?_, ?_, ?_, ?_, ?_, ?_, ?_, ?_, ?_, ?_, ?_, ?_, ?_, trivial⟩ (allT_of ⟨rfl, trivial⟩) ?_
        · exact ob_v rfl (fun hg => allT_of trivial) (fun hg => av_fa_ptr fa30_1 rfl rfl)
        · exact ob_v rfl (fun hg => allT_of ⟨rfl, trivial⟩) (fun hg => av_load_ptr ts3 rfl rfl rfl)
        · exact ob_v rfl (fun hg => allT_of ⟨rfl, trivial⟩) (fun hg => av_eql rfl rfl)
        · exact ob_v rfl (fun hg => allT_of ⟨rfl, trivial⟩) (fun hg => av_move rfl)
        · exact ob_v ⟨rfl, rfl, rfl, _, rfl, rfl⟩ (fun hg => allT_of ⟨rfl, trivial⟩) (fun hg => av_move rfl)
        · exact ob_v ⟨rfl, rfl, rfl, _, rfl, rfl⟩ (fun hg => allT_of ⟨hg, rfl, trivial⟩) (fun hg => av_nilCheck_ptr rfl)
        · exact ob_v ⟨rfl, rfl, rfl, _, rfl, rfl⟩ (fun hg => allT_of ⟨hg, rfl, trivial⟩) (fun hg => av_fa_ptr fa66_1 rfl rfl)
        · exact ob_v ⟨rfl, rfl, rfl, _, rfl, rfl⟩ (fun hg => allT_of ⟨hg, rfl, trivial⟩) (fun hg => av_load_ptr ts63 rfl rfl rfl)
        · exact ob_v ⟨rfl, rfl, rfl, _, rfl, rfl⟩ (fun hg => allT_of ⟨rfl, trivial⟩) (fun hg => av_fa_ptr fa30_2 rfl rfl)
        · exact ob_v ⟨rfl, rfl, rfl, _, rfl, rfl⟩ (fun hg => allT_of ⟨hg, rfl, trivial⟩) (fun hg => av_load_ptr ts3 rfl rfl rfl)
        · exact ob_v ⟨rfl, rfl, rfl, _, rfl, rfl⟩ (fun hg => allT_of ⟨hg, hg, rfl, trivial⟩) (fun hg => av_lookup (kx := p1.2.2.1) (r := .bool ((mget p0_1 p1.2.2.1).getD false)) und63 kt3 zw4 rfl rfl rfl rfl rfl)
        · exact ob_pick (b := true) (p := decide (p1.2.1 = 2)) (q := ((mget p0_1 p1.2.2.1).getD false)) rfl rfl rfl (fun hg => allT_of ⟨rfl, trivial⟩) rfl rfl rfl rfl rfl
        · exact ob_v rfl (fun hg => allT_of ⟨rfl, trivial⟩) (fun hg => av_move rfl)
        · exact ob_v ⟨rfl, rfl, rfl, _, rfl, rfl⟩ (fun hg => allT_of ⟨rfl, trivial⟩) (fun hg => av_fa_ptr fa30_1 rfl rfl)
        · exact ob_v ⟨rfl, rfl, rfl, _, rfl, rfl⟩ (fun hg => allT_of ⟨hg, rfl, trivial⟩) (fun hg => av_load_ptr ts3 rfl rfl rfl)
        · exact ob_v ⟨rfl, rfl, rfl, _, rfl, rfl⟩ (fun hg => allT_of ⟨hg, rfl, trivial⟩) (fun hg => av_eql rfl rfl)
        · exact ob_v ⟨rfl, rfl, rfl, _, rfl, rfl⟩ (fun hg => allT_of ⟨hg, rfl, trivial⟩) (fun hg => av_move rfl)
        · exact ob_v ⟨rfl, rfl, rfl, _, rfl, rfl⟩ (fun hg => allT_of ⟨(and_l hg), trivial⟩) (fun hg => av_move rfl)
        · exact ob_pick (b := true) (p := decide (p1.2.1 = 4)) (q := (mget p0_2 p1.2.2.2.1).isSome) ⟨rfl, rfl, rfl, _, rfl, rfl⟩ rfl rfl (fun hg => allT_of ⟨hg, rfl, trivial⟩) rfl rfl rfl rfl rfl
        · exact ob_pick (b := false) (p := (decide (p1.2.1 = 2)) && ((mget p0_1 p1.2.2.1).getD false)) (q := (decide (p1.2.1 = 4)) && ((mget p0_2 p1.2.2.2.1).isSome)) rfl rfl rfl (fun hg => allT_of ⟨rfl, trivial⟩) rfl rfl rfl rfl rfl
        · exact ob_v rfl (fun hg => allT_of ⟨rfl, trivial⟩) (fun hg => av_move rfl)
        · exact ob_v ⟨rfl, rfl, rfl, _, rfl, rfl⟩ (fun hg => allT_of ⟨rfl, trivial⟩) (fun hg => av_fa_ptr fa30_1 rfl rfl)
        · exact ob_v ⟨rfl, rfl, rfl, _, rfl, rfl⟩ (fun hg => allT_of ⟨hg, rfl, trivial⟩) (fun hg => av_load_ptr ts3 rfl rfl rfl)
        · exact ob_v ⟨rfl, rfl, rfl, _, rfl, rfl⟩ (fun hg => allT_of ⟨hg, rfl, trivial⟩) (fun hg => av_eql rfl rfl)
        · exact ob_v ⟨rfl, rfl, rfl, _, rfl, rfl⟩ (fun hg => allT_of ⟨hg, rfl, trivial⟩) (fun hg => av_move rfl)
        · exact ob_v ⟨rfl, rfl, rfl, _, rfl, rfl⟩ (fun hg => allT_of ⟨(and_l hg), trivial⟩) (fun hg => av_move rfl)
        · exact ob_pick (b := true) (p := decide (p1.2.1 = 5)) (q := (mget p0_3 p1.2.2.2.1).isSome) ⟨rfl, rfl, rfl, _, rfl, rfl⟩ rfl rfl (fun hg => allT_of ⟨hg, rfl, trivial⟩) rfl rfl rfl rfl rfl
        · exact ob_pick (b := false) (p := ((decide (p1.2.1 = 2)) && ((mget p0_1 p1.2.2.1).getD false)) || ((decide (p1.2.1 = 4)) && ((mget p0_2 p1.2.2.2.1).isSome))) (q := (decide (p1.2.1 = 5)) && ((mget p0_3 p1.2.2.2.1).isSome)) rfl rfl rfl (fun hg => allT_of ⟨rfl, trivial⟩) rfl rfl rfl rfl rfl
        · exact ob_v rfl (fun hg => allT_of ⟨rfl, trivial⟩) (fun hg => av_assign rfl)
        refine athen_norm ?_
        refine awc_cond (b := (((decide (p1.2.1 = 2)) && ((mget p0_1 p1.2.2.1).getD false)) || ((decide (p1.2.1 = 4)) && ((mget p0_2 p1.2.2.2.1).isSome))) || ((decide (p1.2.1 = 5)) && ((mget p0_3 p1.2.2.2.1).isSome))) rfl (fun hc9 => ?_) (fun hc9 => ?_)
        · have hr := if_t hc9 hr
          refine awc_seq ?_
          refine awc_region ?_
          refine awl_v (av_assign rfl) ?_
          have hr := Option.some.inj hr
          subst hr
          exact awl_nil (athen_norm (awc_ret (ablock_ret (athen_ret (ret_o (l' := [(4, .int .i64 6)]) (Hs := [(0, .var 66 [.int .i64 p0_0, .map 1, .map 2, .map 3]), (1, .map (.int .i64) .bool p0_1), (2, .map (.int .i64) (.int .i64) p0_2), (3, .map (.int .i64) (.int .i64) p0_3)]) (n := 4) (wk_of hX [0, 1, 2, 3] 4 rfl rfl ⟨⟨_, rfl, cv0⟩, trivial⟩ ⟨cvo0, cvo0, cvo0, cvo0, trivial⟩) rfl rfl rfl ⟨rfl, trivial⟩)))))
        · have hr := if_f hc9 hr
          refine awc_seq ?_
          refine awc_draw mixed [0, 3, 4, 5, 6] [(true, .ptr 4 1), (true, .int .i64 p1.2.1), (true, .bool (decide (p1.2.1 = 3))), (true, .bool (decide (p1.2.1 = 3))), (decide (p1.2.1 = 3), .ptr 0 0), (decide (p1.2.1 = 3), .ptr 0 0), (decide (p1.2.1 = 3), .ptr 0 1), (decide (p1.2.1 = 3), .map 1), (decide (p1.2.1 = 3), .ptr 4 2), (decide (p1.2.1 = 3), .int .i64 p1.2.2.1), (decide (p1.2.1 = 3), .bool ((mget p0_1 p1.2.2.1).getD false)), (decide (p1.2.1 = 3), .bool (!((mget p0_1 p1.2.2.1).getD false))), (true, .bool ((decide (p1.2.1 = 3)) && (!((mget p0_1 p1.2.2.1).getD false)))), (true, .bool ((decide (p1.2.1 = 3)) && (!((mget p0_1 p1.2.2.1).getD false)))), (!((decide (p1.2.1 = 3)) && (!((mget p0_1 p1.2.2.1).getD false))), .ptr 4 1), (!((decide (p1.2.1 = 3)) && (!((mget p0_1 p1.2.2.1).getD false))), .int .i64 p1.2.1), (!((decide (p1.2.1 = 3)) && (!((mget p0_1 p1.2.2.1).getD false))), .bool (decide (p1.2.1 = 5))), (!((decide (p1.2.1 = 3)) && (!((mget p0_1 p1.2.2.1).getD false))), .bool (decide (p1.2.1 = 5))), ((!((decide (p1.2.1 = 3)) && (!((mget p0_1 p1.2.2.1).getD false)))) && (decide (p1.2.1 = 5)), .bool ((mget p0_2 p1.2.2.2.1).isSome)), ((!((decide (p1.2.1 = 3)) && (!((mget p0_1 p1.2.2.1).getD false)))) && (decide (p1.2.1 = 5)), .bool (!((mget p0_2 p1.2.2.2.1).isSome))), (!((decide (p1.2.1 = 3)) && (!((mget p0_1 p1.2.2.1).getD false))), .bool ((decide (p1.2.1 = 5)) && (!((mget p0_2 p1.2.2.2.1).isSome)))), (true, .bool (((decide (p1.2.1 = 3)) && (!((mget p0_1 p1.2.2.1).getD false))) || ((decide (p1.2.1 = 5)) && (!((mget p0_2 p1.2.2.2.1).isSome))))), (true, .bool (((decide (p1.2.1 = 3)) && (!((mget p0_1 p1.2.2.1).getD false))) || ((decide (p1.2.1 = 5)) && (!((mget p0_2 p1.2.2.2.1).isSome)))))] [[], [0], [1], [2], [3], [4, 3], [5, 3], [6, 3], [3], [8, 3], [7, 9, 3], [10, 3], [11, 3], [12], [13], [14, 13], [15, 13], [16, 13], [17], [18, 17], [19, 17, 13], [20, 13], [21]] [22] rfl rfl rfl rfl rfl ⟨?_, ?_, ?_, ?_, ?_, ?_, ?_, ?_, ?_, ?_, ?_, ?_, ?_, ?_, ?_, ?_, ?_, ?_, ?_, ?_, ?_, ?_, ?_, trivial⟩ (allT_of ⟨rfl, trivial⟩) ?_
          · exact ob_v rfl (fun hg => allT_of trivial) (fun hg => av_fa_ptr fa30_1 rfl rfl)
          · exact ob_v rfl (fun hg => allT_of ⟨rfl, trivial⟩) (fun hg => av_load_ptr ts3 rfl rfl rfl)
          · exact ob_v rfl (fun hg => allT_of ⟨rfl, trivial⟩) (fun hg => av_eql rfl rfl)
          · exact ob_v rfl (fun hg => allT_of ⟨rfl, trivial⟩) (fun hg => av_move rfl)
          · exact ob_v ⟨rfl, rfl, rfl, _, rfl, rfl⟩ (fun hg => allT_of ⟨rfl, trivial⟩) (fun hg => av_move rfl)
          · exact ob_v ⟨rfl, rfl, rfl, _, rfl, rfl⟩ (fun hg => allT_of ⟨hg, rfl, trivial⟩) (fun hg => av_nilCheck_ptr rfl)
          · exact ob_v ⟨rfl, rfl, rfl, _, rfl, rfl⟩ (fun hg => allT_of ⟨hg, rfl, trivial⟩) (fun hg => av_fa_ptr fa66_1 rfl rfl)
          · exact ob_v ⟨rfl, rfl, rfl, _, rfl, rfl⟩ (fun hg => allT_of ⟨hg, rfl, trivial⟩) (fun hg => av_load_ptr ts63 rfl rfl rfl)
          · exact ob_v ⟨rfl, rfl, rfl, _, rfl, rfl⟩ (fun hg => allT_of ⟨rfl, trivial⟩) (fun hg => av_fa_ptr fa30_2 rfl rfl)
          · exact ob_v ⟨rfl, rfl, rfl, _, rfl, rfl⟩ (fun hg => allT_of ⟨hg, rfl, trivial⟩) (fun hg => av_load_ptr ts3 rfl rfl rfl)
          · exact ob_v ⟨rfl, rfl, rfl, _, rfl, rfl⟩ (fun hg => allT_of ⟨hg, hg, rfl, trivial⟩) (fun hg => av_lookup (kx := p1.2.2.1) (r := .bool ((mget p0_1 p1.2.2.1).getD false)) und63 kt3 zw4 rfl rfl rfl rfl rfl)
          · exact ob_v ⟨rfl, rfl, rfl, _, rfl, rfl⟩ (fun hg => allT_of ⟨hg, rfl, trivial⟩) (fun hg => av_not rfl)
          · exact ob_pick (b := true) (p := decide (p1.2.1 = 3)) (q := !((mget p0_1 p1.2.2.1).getD false)) rfl rfl rfl (fun hg => allT_of ⟨rfl, trivial⟩) rfl rfl rfl rfl rfl
          · exact ob_v rfl (fun hg => allT_of ⟨rfl, trivial⟩) (fun hg => av_move rfl)
          · exact ob_v ⟨rfl, rfl, rfl, _, rfl, rfl⟩ (fun hg => allT_of ⟨rfl, trivial⟩) (fun hg => av_fa_ptr fa30_1 rfl rfl)
          · exact ob_v ⟨rfl, rfl, rfl, _, rfl, rfl⟩ (fun hg => allT_of ⟨hg, rfl, trivial⟩) (fun hg => av_load_ptr ts3 rfl rfl rfl)
          · exact ob_v ⟨rfl, rfl, rfl, _, rfl, rfl⟩ (fun hg => allT_of ⟨hg, rfl, trivial⟩) (fun hg => av_eql rfl rfl)
          · exact ob_v ⟨rfl, rfl, rfl, _, rfl, rfl⟩ (fun hg => allT_of ⟨hg, rfl, trivial⟩) (fun hg => av_move rfl)
          · exact ob_v ⟨rfl, rfl, rfl, _, rfl, rfl⟩ (fun hg => allT_of ⟨(and_l hg), trivial⟩) (fun hg => av_move rfl)
          · exact ob_v ⟨rfl, rfl, rfl, _, rfl, rfl⟩ (fun hg => allT_of ⟨hg, (and_l hg), trivial⟩) (fun hg => av_not rfl)
          · exact ob_pick (b := true) (p := decide (p1.2.1 = 5)) (q := !((mget p0_2 p1.2.2.2.1).isSome)) ⟨rfl, rfl, rfl, _, rfl, rfl⟩ rfl rfl (fun hg => allT_of ⟨hg, rfl, trivial⟩) rfl rfl rfl rfl rfl
          · exact ob_pick (b := false) (p := (decide (p1.2.1 = 3)) && (!((mget p0_1 p1.2.2.1).getD false))) (q := (decide (p1.2.1 = 5)) && (!((mget p0_2 p1.2.2.2.1).isSome))) rfl rfl rfl (fun hg => allT_of ⟨rfl, trivial⟩) rfl rfl rfl rfl rfl
          · exact ob_v rfl (fun hg => allT_of ⟨rfl, trivial⟩) (fun hg => av_assign rfl)
          refine athen_norm ?_
          refine awc_cond (b := ((decide (p1.2.1 = 3)) && (!((mget p0_1 p1.2.2.1).getD false))) || ((decide (p1.2.1 = 5)) && (!((mget p0_2 p1.2.2.2.1).isSome)))) rfl (fun hc10 => ?_) (fun hc10 => ?_)
          · have hr := if_t hc10 hr
            refine awc_seq ?_
            refine awc_region ?_
            refine awl_v (av_assign rfl) ?_
            have hr := Option.some.inj hr
            subst hr
            exact awl_nil (athen_norm (awc_ret (ablock_ret (athen_ret (ret_o (l' := [(4, .int .i64 8)]) (Hs := [(0, .var 66 [.int .i64 p0_0, .map 1, .map 2, .map 3]), (1, .map (.int .i64) .bool p0_1), (2, .map (.int .i64) (.int .i64) p0_2), (3, .map (.int .i64) (.int .i64) p0_3)]) (n := 4) (wk_of hX [0, 1, 2, 3] 4 rfl rfl ⟨⟨_, rfl, cv0⟩, trivial⟩ ⟨cvo0, cvo0, cvo0, cvo0, trivial⟩) rfl rfl rfl ⟨rfl, trivial⟩)))))
          · have hr := if_f hc10 hr
            refine awc_seq ?_
            refine awc_text [0, 3, 4, 5] [(true, .ptr 4 1), (true, .int .i64 p1.2.1), (true, .bool (decide (p1.2.1 = 5))), (true, .bool (decide (p1.2.1 = 5))), (decide (p1.2.1 = 5), .int .i64 ((mget p0_2 p1.2.2.2.1).getD 0)), (decide (p1.2.1 = 5), .ptr 4 0), (decide (p1.2.1 = 5), .int .i64 p1.1), (decide (p1.2.1 = 5), .bool (!decide (((mget p0_2 p1.2.2.2.1).getD 0) = p1.1))), (true, .bool ((decide (p1.2.1 = 5)) && (!decide (((mget p0_2 p1.2.2.2.1).getD 0) = p1.1)))), (true, .bool ((decide (p1.2.1 = 5)) && (!decide (((mget p0_2 p1.2.2.2.1).getD 0) = p1.1))))] [[], [0], [1], [2], [3], [3], [5, 3], [4, 6, 3], [7, 3], [8]] [9] rfl rfl rfl rfl rfl ⟨?_, ?_, ?_, ?_, ?_, ?_, ?_, ?_, ?_, ?_, trivial⟩ (allT_of ⟨rfl, trivial⟩) ?_
            · exact ob_v rfl (fun hg => allT_of trivial) (fun hg => av_fa_ptr fa30_1 rfl rfl)
            · exact ob_v rfl (fun hg => allT_of ⟨rfl, trivial⟩) (fun hg => av_load_ptr ts3 rfl rfl rfl)
            · exact ob_v rfl (fun hg => allT_of ⟨rfl, trivial⟩) (fun hg => av_eql rfl rfl)
            · exact ob_v rfl (fun hg => allT_of ⟨rfl, trivial⟩) (fun hg => av_move rfl)
            · exact ob_v ⟨rfl, rfl, rfl, _, rfl, rfl⟩ (fun hg => allT_of ⟨rfl, trivial⟩) (fun hg => av_move rfl)
            · exact ob_v ⟨rfl, rfl, rfl, _, rfl, rfl⟩ (fun hg => allT_of ⟨rfl, trivial⟩) (fun hg => av_fa_ptr fa30_0 rfl rfl)
            · exact ob_v ⟨rfl, rfl, rfl, _, rfl, rfl⟩ (fun hg => allT_of ⟨hg, rfl, trivial⟩) (fun hg => av_load_ptr ts3 rfl rfl rfl)
            · exact ob_v ⟨rfl, rfl, rfl, _, rfl, rfl⟩ (fun hg => allT_of ⟨hg, hg, rfl, trivial⟩) (fun hg => av_neq rfl rfl)
            · exact ob_pick (b := true) (p := decide (p1.2.1 = 5)) (q := !decide (((mget p0_2 p1.2.2.2.1).getD 0) = p1.1)) rfl rfl rfl (fun hg => allT_of ⟨rfl, trivial⟩) rfl rfl rfl rfl rfl
            · exact ob_v rfl (fun hg => allT_of ⟨rfl, trivial⟩) (fun hg => av_assign rfl)
            refine athen_norm ?_
            refine awc_cond (b := (decide (p1.2.1 = 5)) && (!decide (((mget p0_2 p1.2.2.2.1).getD 0) = p1.1))) rfl (fun hc11 => ?_) (fun hc11 => ?_)
            · have hr := if_t hc11 hr
              refine awc_seq ?_
              refine awc_region ?_
              refine awl_v (av_assign rfl) ?_
              have hr := Option.some.inj hr
              subst hr
              exact awl_nil (athen_norm (awc_ret (ablock_ret (athen_ret (ret_o (l' := [(4, .int .i64 9)]) (Hs := [(0, .var 66 [.int .i64 p0_0, .map 1, .map 2, .map 3]), (1, .map (.int .i64) .bool p0_1), (2, .map (.int .i64) (.int .i64) p0_2), (3, .map (.int .i64) (.int .i64) p0_3)]) (n := 4) (wk_of hX [0, 1, 2, 3] 4 rfl rfl ⟨⟨_, rfl, cv0⟩, trivial⟩ ⟨cvo0, cvo0, cvo0, cvo0, trivial⟩) rfl rfl rfl ⟨rfl, trivial⟩)))))
            · have hr := if_f hc11 hr
              refine awc_skip (ablock_norm (athen_norm ?_))
              obtain ⟨o15, e16, hr⟩ := bnd_some hr
              refine awc_join (S := (List (Int × Bool)) × (List (Int × Int)) × (List (Int × Int))) (R := Unit) (fun s => match s with | (s12, s13, s14) => (⟨[(4, .int .i64 0)], [(0, .var 66 [.int .i64 p0_0, .map 1, .map 2, .map 3]), (1, .map (.int .i64) .bool s12), (2, .map (.int .i64) (.int .i64) s13), (3, .map (.int .i64) (.int .i64) s14)], 4⟩ : AS)) (fun _ _ _ => False) e16 (fun hr => ?_) ?_ ?_
              · refine awc_seq ?_
                refine awc_region ?_
                refine awl_v (av_fa_ptr fa30_1 rfl rfl) ?_
                refine awl_v (av_load_ptr ts3 rfl rfl rfl) ?_
                refine awl_nil (athen_norm (awc_block (awc_seq ?_)))
                refine awc_region ?_
                refine awl_v (av_eql rfl rfl) ?_
                refine awl_v (av_assign rfl) ?_
                refine awl_nil (athen_norm ?_)
                refine awc_cond (b := decide (p1.2.1 = 2)) rfl (fun hc17 => ?_) (fun hc17 => ?_)
                · have hr := if_t hc17 hr
                  refine awc_draw_tail2 6 [6, 6, 6, 6, 6, 6] mixed [0, 3, 4] [(true, .ptr 0 0), (true, .ptr 0 0), (true, .ptr 0 1), (true, .map 1), (true, .ptr 4 2), (true, .int .i64 p1.2.2.1)] [[], [0], [1], [2], [], [4]] [3, 5] rfl rfl rfl rfl rfl rfl rfl rfl ⟨?_, ?_, ?_, ?_, ?_, ?_, trivial⟩ (allT_of ⟨rfl, rfl, trivial⟩) ?_
                  · exact ob_v rfl (fun hg => allT_of trivial) (fun hg => av_move rfl)
                  · exact ob_v rfl (fun hg => allT_of ⟨rfl, trivial⟩) (fun hg => av_nilCheck_ptr rfl)
                  · exact ob_v rfl (fun hg => allT_of ⟨rfl, trivial⟩) (fun hg => av_fa_ptr fa66_1 rfl rfl)
                  · exact ob_v rfl (fun hg => allT_of ⟨rfl, trivial⟩) (fun hg => av_load_ptr ts63 rfl rfl rfl)
                  · exact ob_v rfl (fun hg => allT_of trivial) (fun hg => av_fa_ptr fa30_2 rfl rfl)
                  · exact ob_v rfl (fun hg => allT_of ⟨rfl, trivial⟩) (fun hg => av_load_ptr ts3 rfl rfl rfl)
                  refine awl_op (aop_mapSet (kx := p1.2.2.1) (vx := true) und63 kt3 (.inl rfl) rfl rfl rfl rfl rfl rfl rfl ?_)
                  have hr := Option.some.inj hr
                  subst hr
                  exact awl_nil (ablock_norm ((wk_of hX [0, 1, 2, 3] 4 rfl rfl ⟨⟨_, rfl, cv0⟩, trivial⟩ ⟨cvo0, cvo0, cvo0, cvo0, trivial⟩)))
                · have hr := if_f hc17 hr
                  refine awc_seq ?_
                  refine awc_region ?_
                  refine awl_v (av_eql rfl rfl) ?_
                  refine awl_v (av_assign rfl) ?_
                  refine awl_nil (athen_norm ?_)
                  refine awc_cond (b := decide (p1.2.1 = 4)) rfl (fun hc18 => ?_) (fun hc18 => ?_)
                  · have hr := if_t hc18 hr
                    refine awc_draw_tail2 8 [8, 8, 8, 8, 8, 8, 8, 8] mixed [0, 3, 4] [(true, .ptr 0 0), (true, .ptr 0 0), (true, .ptr 0 2), (true, .map 2), (true, .ptr 4 3), (true, .int .i64 p1.2.2.2.1), (true, .ptr 4 0), (true, .int .i64 p1.1)] [[], [0], [1], [2], [], [4], [], [6]] [3, 5, 7] rfl rfl rfl rfl rfl rfl rfl rfl ⟨?_, ?_, ?_, ?_, ?_, ?_, ?_, ?_, trivial⟩ (allT_of ⟨rfl, rfl, rfl, trivial⟩) ?_
                    · exact ob_v rfl (fun hg => allT_of trivial) (fun hg => av_move rfl)
                    · exact ob_v rfl (fun hg => allT_of ⟨rfl, trivial⟩) (fun hg => av_nilCheck_ptr rfl)
                    · exact ob_v rfl (fun hg => allT_of ⟨rfl, trivial⟩) (fun hg => av_fa_ptr fa66_2 rfl rfl)
                    · exact ob_v rfl (fun hg => allT_of ⟨rfl, trivial⟩) (fun hg => av_load_ptr ts64 rfl rfl rfl)
                    · exact ob_v rfl (fun hg => allT_of trivial) (fun hg => av_fa_ptr fa30_3 rfl rfl)
                    · exact ob_v rfl (fun hg => allT_of ⟨rfl, trivial⟩) (fun hg => av_load_ptr ts3 rfl rfl rfl)
                    · exact ob_v rfl (fun hg => allT_of trivial) (fun hg => av_fa_ptr fa30_0 rfl rfl)
                    · exact ob_v rfl (fun hg => allT_of ⟨rfl, trivial⟩) (fun hg => av_load_ptr ts3 rfl rfl rfl)
                    refine awl_op (aop_mapSet (kx := p1.2.2.2.1) (vx := p1.1) und64 kt3 (.inl rfl) rfl rfl rfl rfl rfl rfl rfl ?_)
                    have hr := Option.some.inj hr
                    subst hr
                    exact awl_nil (ablock_norm ((wk_of hX [0, 1, 2, 3] 4 rfl rfl ⟨⟨_, rfl, cv0⟩, trivial⟩ ⟨cvo0, cvo0, cvo0, cvo0, trivial⟩)))
                  · have hr := if_f hc18 hr
                    refine awc_seq ?_
                    refine awc_region ?_
                    refine awl_v (av_eql rfl rfl) ?_
                    refine awl_v (av_assign rfl) ?_
                    refine awl_nil (athen_norm ?_)
                    refine awc_cond (b := decide (p1.2.1 = 5)) rfl (fun hc19 => ?_) (fun hc19 => ?_)
                    · have hr := if_t hc19 hr
                      refine awc_draw_tail2 8 [8, 8, 8, 8, 8, 8, 8, 8] mixed [0, 3, 4] [(true, .ptr 0 0), (true, .ptr 0 0), (true, .ptr 0 3), (true, .map 3), (true, .ptr 4 3), (true, .int .i64 p1.2.2.2.1), (true, .ptr 4 0), (true, .int .i64 p1.1)] [[], [0], [1], [2], [], [4], [], [6]] [3, 5, 7] rfl rfl rfl rfl rfl rfl rfl rfl ⟨?_, ?_, ?_, ?_, ?_, ?_, ?_, ?_, trivial⟩ (allT_of ⟨rfl, rfl, rfl, trivial⟩) ?_
                      · exact ob_v rfl (fun hg => allT_of trivial) (fun hg => av_move rfl)
                      · exact ob_v rfl (fun hg => allT_of ⟨rfl, trivial⟩) (fun hg => av_nilCheck_ptr rfl)
                      · exact ob_v rfl (fun hg => allT_of ⟨rfl, trivial⟩) (fun hg => av_fa_ptr fa66_3 rfl rfl)
                      · exact ob_v rfl (fun hg => allT_of ⟨rfl, trivial⟩) (fun hg => av_load_ptr ts64 rfl rfl rfl)
                      · exact ob_v rfl (fun hg => allT_of trivial) (fun hg => av_fa_ptr fa30_3 rfl rfl)
                      · exact ob_v rfl (fun hg => allT_of ⟨rfl, trivial⟩) (fun hg => av_load_ptr ts3 rfl rfl rfl)
                      · exact ob_v rfl (fun hg => allT_of trivial) (fun hg => av_fa_ptr fa30_0 rfl rfl)
                      · exact ob_v rfl (fun hg => allT_of ⟨rfl, trivial⟩) (fun hg => av_load_ptr ts3 rfl rfl rfl)
                      refine awl_op (aop_mapSet (kx := p1.2.2.2.1) (vx := p1.1) und64 kt3 (.inl rfl) rfl rfl rfl rfl rfl rfl rfl ?_)
                      have hr := Option.some.inj hr
                      subst hr
                      exact awl_nil (ablock_norm ((wk_of hX [0, 1, 2, 3] 4 rfl rfl ⟨⟨_, rfl, cv0⟩, trivial⟩ ⟨cvo0, cvo0, cvo0, cvo0, trivial⟩)))
                    · have hr := if_f hc19 hr
                      have hr := Option.some.inj hr
                      subst hr
                      exact awc_skip (ablock_norm ((wk_of hX [0, 1, 2, 3] 4 rfl rfl ⟨⟨_, rfl, cv0⟩, trivial⟩ ⟨cvo0, cvo0, cvo0, cvo0, trivial⟩)))
              · rintro ⟨s12, s13, s14⟩ rfl
                refine awc_seq ?_
                refine awc_region ?_
                refine awl_v (av_assign rfl) ?_
                have hr := Option.some.inj hr
                subst hr
                exact awl_nil (athen_norm (awc_ret (ret_o (l' := [(4, .int .i64 0)]) (Hs := [(0, .var 66 [.int .i64 p0_0, .map 1, .map 2, .map 3]), (1, .map (.int .i64) .bool s12), (2, .map (.int .i64) (.int .i64) s13), (3, .map (.int .i64) (.int .i64) s14)]) (n := 4) (wk_of hX [0, 1, 2, 3] 4 rfl rfl ⟨⟨_, rfl, cv0⟩, trivial⟩ ⟨cvo0, cvo0, cvo0, cvo0, trivial⟩) rfl rfl rfl ⟨rfl, trivial⟩)))
              · exact fun r h e st hne hx => hx.elim
theorem f15_runs {p0 : Int} {p1 : List (Int × Int × Int × Int × Str)} {r : Int × Int} (hr : f15 p0 p1 = some r) : RunsP Tryd.prog 24 [.int .i64 p0, .sl Y1 p1] [.int .i64 r.1, .int .i64 r.2] := by
  refine runs_w Tryd.func24 Tryd.ntmps24 rfl (rs := [.tmp 4, .tmp 5]) rfl rfl fun w0 X hX => ?_
  refine awc_seq ?_
  refine awc_region ?_
  refine awl_v (av_assign rfl) ?_
  refine awl_v (av_assign rfl) ?_
  refine awl_nil (athen_norm (awc_seq (awc_seq ?_)))
  refine awc_text [0, 1, 4, 5] [(true, .int .i64 p0), (true, .bool (decide (p0 < 1))), (true, .bool (decide (p0 < 1))), (!(decide (p0 < 1)), .int .i64 p0), (!(decide (p0 < 1)), .bool (decide (16 < p0))), (true, .bool ((decide (p0 < 1)) || (decide (16 < p0))))] [[], [0], [1], [2], [3, 2], [4, 2]] [5] rfl rfl rfl rfl rfl ⟨?_, ?_, ?_, ?_, ?_, ?_, trivial⟩ (allT_of ⟨rfl, trivial⟩) ?_
  · exact ob_v rfl (fun hg => allT_of trivial) (fun hg => av_move rfl)
  · exact ob_v rfl (fun hg => allT_of ⟨rfl, trivial⟩) (fun hg => av_lss rfl rfl)
  · exact ob_v rfl (fun hg => allT_of ⟨rfl, trivial⟩) (fun hg => av_move rfl)
  · exact ob_v ⟨rfl, rfl, rfl, _, rfl, rfl⟩ (fun hg => allT_of ⟨rfl, trivial⟩) (fun hg => av_move rfl)
  · exact ob_v ⟨rfl, rfl, rfl, _, rfl, rfl⟩ (fun hg => allT_of ⟨hg, rfl, trivial⟩) (fun hg => av_gtr rfl rfl)
  · exact ob_pick (b := false) (p := decide (p0 < 1)) (q := decide (16 < p0)) rfl rfl rfl (fun hg => allT_of ⟨rfl, trivial⟩) rfl rfl rfl rfl rfl
  refine athen_norm ?_
  refine awc_cond (b := (decide (p0 < 1)) || (decide (16 < p0))) rfl (fun hc1 => ?_) (fun hc1 => ?_)
  · have hr := if_t hc1 hr
    refine awc_seq ?_
    refine awc_region ?_
    refine awl_v (av_assign rfl) ?_
    refine awl_v (av_assign rfl) ?_
    have hr := Option.some.inj hr
    subst hr
    exact awl_nil (athen_norm (awc_ret (athen_ret (ret_q (l' := [(4, .int .i64 0), (5, .int .i64 7)]) (wk_of hX [] 4 rfl rfl ⟨⟨_, rfl, cv0⟩, ⟨_, rfl, cv0⟩, trivial⟩ trivial) rfl ⟨rfl, rfl, trivial⟩))))
  · have hr := if_f hc1 hr
    refine awc_skip (athen_norm (awc_seq ?_))
    refine awc_region ?_
    refine awl_v (av_move rfl) ?_
    refine awl_op (aop_makeMap (.int .i64) .bool rfl ?_)
    refine awl_op (aop_makeMap (.int .i64) (.int .i64) rfl ?_)
    refine awl_op (aop_makeMap (.int .i64) (.int .i64) rfl ?_)
    refine awl_v (av_build (qs := [(0, [.int .i64 p0]), (1, [.map 0]), (2, [.map 1]), (3, [.map 2])]) (cs := [.int .i64 p0, .map 0, .map 1, .map 2]) bt66 rfl rfl rfl) ?_
    refine awl_op (aop_box rfl rfl ?_)
    refine awl_v (av_assign rfl) ?_
    refine awl_nil (athen_norm (awc_seq (awc_seq ?_)))
    refine awc_region ?_
    refine awl_v (av_move rfl) ?_
    refine awl_v (av_len_sl (t := Y1) rfl rfl und22 rfl) ?_
    refine awl_v (av_move rfl) ?_
    refine awl_nil (athen_norm (awc_block ?_))
    obtain ⟨o13, e14, hr⟩ := bnd_some hr
    refine awc_len (t := 1) rfl (fun hl => ?_)
    refine awc_range (S := (List (Int × Bool)) × (List (Int × Int)) × (List (Int × Int))) (R := Int × Int) (List.length p1 : Int) (f15_b0 p0 p1) (fun p => match p with | (i2, s4, s5, s6) => (⟨[(4, .int .i64 0), (5, .int .i64 0), (6, .ptr 0 0), (22, .sl Y1 p1), (23, .int .i64 (List.length p1 : Int)), (24, .int .i64 i2)], [(0, .var 66 [.int .i64 p0, .map 1, .map 2, .map 3]), (1, .map (.int .i64) .bool s4), (2, .map (.int .i64) (.int .i64) s5), (3, .map (.int .i64) (.int .i64) s6)], 4⟩ : AS)) (fun o e st => match o with | .inl (s4, s5, s6) => e = .exit 0 ∧ Wk X st ⟨[(4, .int .i64 0), (5, .int .i64 0)], [], 0⟩ | .inr (s11, s12) => e = .ret ∧ Wk X st ⟨[(4, .int .i64 s11), (5, .int .i64 s12)], [], 0⟩) (len_ok hl) e14 (wk_of hX [3, 0, 1, 2] 4 rfl rfl ⟨⟨_, rfl, cv0⟩, ⟨_, rfl, cv0⟩, ⟨_, rfl, cv0⟩, ⟨_, rfl, cv0⟩, ⟨_, rfl, cv0⟩, ⟨_, rfl, cv0⟩, trivial⟩ ⟨cvo0, cvo0, cvo0, cvo0, trivial⟩) ?_ ?_
    · intro e st hx
      rcases o13 with ⟨s4, s5, s6⟩ | ⟨s11, s12⟩
      · obtain ⟨rfl, hw⟩ := hx
        refine ablock_here (athen_norm ((awc_wk hw) (awc_seq ?_)))
        refine awc_region ?_
        refine awl_v (av_assign rfl) ?_
        refine awl_v (av_assign rfl) ?_
        have hr := Option.some.inj hr
        subst hr
        exact awl_nil (athen_norm (awc_ret (ret_q (l' := [(4, .int .i64 (-1)), (5, .int .i64 0)]) (wk_of hX [] 4 rfl rfl ⟨⟨_, rfl, cv0⟩, ⟨_, rfl, cv0⟩, trivial⟩ trivial) rfl ⟨rfl, rfl, trivial⟩)))
      · obtain ⟨rfl, hw⟩ := hx
        have hr := Option.some.inj hr
        subst hr
        exact ablock_ret (athen_ret (ret_q (l' := [(4, .int .i64 s11), (5, .int .i64 s12)]) (Wk.trans hw (wk_of hX [] 4 rfl rfl ⟨⟨_, rfl, cv0⟩, ⟨_, rfl, cv0⟩, trivial⟩ trivial)) rfl ⟨rfl, rfl, trivial⟩))
    · rintro i2 ⟨s4, s5, s6⟩ o ho
      refine awc_seq ?_
      refine awc_region ?_
      refine awl_v (av_lss rfl rfl) ?_
      refine awl_nil (athen_norm (awc_seq ?_))
      refine awc_cond (b := decide (i2 < (List.length p1 : Int))) rfl (fun hc15 => ?_) (fun hc15 => ?_)
      · obtain ⟨q, hr, rfl⟩ := rb_t hc15 ho
        refine awc_skip (athen_norm (awc_seq (awc_block (awc_seq ?_))))
        refine awc_region ?_
        refine awl_v (av_move rfl) ?_
        obtain ⟨x16, e17, hr⟩ := bnd_some hr
        refine awl_v (av_ia_sl (t := Y1) (e := x16) und22 sz30 rfl rfl e17) ?_
        refine awl_v (av_load_rpN ts30 rfl rfl rfl) ?_
        refine awl_op (aop_alloc zero30 rfl ?_)
        refine awl_v (av_assign rfl) ?_
        refine awl_op (aop_store sz30 rfl rfl rfl rfl rfl rfl rfl ?_)
        refine awl_nil (athen_norm (awc_seq (awc_seq ?_)))
        refine awc_region ?_
        refine awl_v (av_move rfl) ?_
        refine awl_v (av_eql rfl rfl) ?_
        refine awl_nil (athen_norm ?_)
        refine awc_cond (b := decide (i2 = 1000)) rfl (fun hc18 => ?_) (fun hc18 => ?_)
        · have hr := if_t hc18 hr
          refine awc_seq ?_
          refine awc_region ?_
          refine awl_v (av_move rfl) ?_
          refine awl_v (av_assign rfl) ?_
          refine awl_v (av_assign rfl) ?_
          have hr := Option.some.inj hr
          subst hr
          exact awl_nil (athen_norm (awc_ret (athen_ret (ablock_ret (athen_ret (⟨rfl, (wk_of hX [] 4 rfl rfl ⟨⟨_, rfl, cv0⟩, ⟨_, rfl, cv0⟩, trivial⟩ trivial)⟩))))))
        · have hr := if_f hc18 hr
          refine awc_skip (athen_norm (awc_seq ?_))
          refine awc_region ?_
          refine awl_v (av_move rfl) ?_
          refine awl_v (av_load_ptrN ts30 rfl rfl rfl rfl) ?_
          obtain ⟨x19, e20, hr⟩ := bnd_some hr
          refine awl_op (aop_callO (σ := [0, 1, 2, 3]) (as' := [.ptr 0 0, .agg [.int .i64 x16.1, .int .i64 x16.2.1, .int .i64 x16.2.2.1, .int .i64 x16.2.2.2.1, .str x16.2.2.2.2]]) (f49_runs e20).x ent35 rfl ⟨cv0, cv0, trivial⟩ rfl rfl rfl ?_)
          refine awl_v (av_assign rfl) ?_
          refine awl_nil (athen_norm (awc_seq ?_))
          refine awc_region ?_
          refine awl_v (av_move rfl) ?_
          refine awl_v (av_neq rfl rfl) ?_
          refine awl_nil (athen_norm ?_)
          refine awc_cond (b := !decide (x19.1 = 0)) rfl (fun hc21 => ?_) (fun hc21 => ?_)
          · have hr := if_t hc21 hr
            refine awc_seq ?_
            refine awc_region ?_
            refine awl_v (av_move rfl) ?_
            refine awl_v (av_move rfl) ?_
            refine awl_v (av_assign rfl) ?_
            refine awl_v (av_assign rfl) ?_
            have hr := Option.some.inj hr
            subst hr
            exact awl_nil (athen_norm (awc_ret (ablock_ret (athen_ret (⟨rfl, (wk_of hX [] 4 rfl rfl ⟨⟨_, rfl, cv0⟩, ⟨_, rfl, cv0⟩, trivial⟩ trivial)⟩)))))
          · have hr := if_f hc21 hr
            refine awc_skip (ablock_norm (athen_norm ?_))
            refine awc_region ?_
            refine awl_v (av_add rfl rfl) ?_
            refine awl_v (av_move rfl) ?_
            have hr := Option.some.inj hr
            subst hr
            exact awl_nil ((wk_of hX [0, 1, 2, 3] 4 rfl rfl ⟨⟨_, rfl, cv0⟩, ⟨_, rfl, cv0⟩, ⟨_, rfl, cv0⟩, ⟨_, rfl, cv0⟩, ⟨_, rfl, cv0⟩, ⟨_, rfl, cv0⟩, trivial⟩ ⟨cvo0, cvo0, cvo0, cvo0, trivial⟩))
      · obtain rfl := rb_f hc15 ho
        exact awc_exit (athen_exit (⟨rfl, (wk_of hX [] 4 rfl rfl ⟨⟨_, rfl, cv0⟩, ⟨_, rfl, cv0⟩, trivial⟩ trivial)⟩))
theorem f17_runs {p0 : Int} {p1 : List (Int × Int × Int × Int × Str)} {r : Bool} (hr : f17 p0 p1 = some r) : RunsP Tryd.prog 13 [.int .i64 p0, .sl Y1 p1] [.bool r] := by
  refine runs_w Tryd.func13 Tryd.ntmps13 rfl (rs := [.tmp 4]) rfl rfl fun w0 X hX => ?_
  refine awc_seq ?_
  refine awc_region ?_
  refine awl_v (av_assign rfl) ?_
  refine awl_nil (athen_norm (awc_seq ?_))
  refine awc_region ?_
  refine awl_v (av_move rfl) ?_
  refine awl_v (av_move rfl) ?_
  obtain ⟨x1, e2, hr⟩ := bnd_some hr
  refine awl_v (av_call (f15_runs e2).x ent24 rfl rfl) ?_
  refine awl_v (av_move rfl) ?_
  refine awl_v (av_extract rfl rfl) ?_
  refine awl_v (av_extract rfl rfl) ?_
  refine awl_v (av_assign rfl) ?_
  refine awl_v (av_assign rfl) ?_
  refine awl_nil (athen_norm (awc_seq ?_))
  refine awc_region ?_
  refine awl_v (av_move rfl) ?_
  refine awl_v (av_eql rfl rfl) ?_
  refine awl_v (av_assign rfl) ?_
  have hr := Option.some.inj hr
  subst hr
  exact awl_nil (athen_norm (awc_ret (ret_q (l' := [(4, .bool (decide (x1.2 = 0)))]) (wk_of hX [] 4 rfl rfl ⟨⟨_, rfl, cv0⟩, trivial⟩ trivial) rfl ⟨rfl, trivial⟩)))
theorem f81_runs {p0 : Int} {p1 : List (Int × Int × Int × Int × Str)} {r : Bool} (hr : f81 p0 p1 = some r) : RunsP Tryd.prog 31 [.int .i64 p0, .rp [.sl Y1 p1]] [.bool r] := by
  refine runs_w Tryd.func31 Tryd.ntmps31 rfl (rs := [.tmp 3]) rfl rfl fun w0 X hX => ?_
  refine awc_seq ?_
  refine awc_region ?_
  refine awl_v (av_assign rfl) ?_
  refine awl_nil (athen_norm (awc_seq ?_))
  refine awc_text [0, 1] [(true, .int .i64 p0), (true, .bool (decide (p0 < 0))), (true, .bool (decide (p0 < 0))), (!(decide (p0 < 0)), .int .i64 p0), (!(decide (p0 < 0)), .sl Y1 p1), (!(decide (p0 < 0)), .int .i64 (List.length p1 : Int)), (!(decide (p0 < 0)), .bool (decide ((List.length p1 : Int) ≤ p0))), (true, .bool ((decide (p0 < 0)) || (decide ((List.length p1 : Int) ≤ p0)))), (true, .bool ((decide (p0 < 0)) || (decide ((List.length p1 : Int) ≤ p0))))] [[], [0], [1], [2], [2], [4, 2], [3, 5, 2], [6, 2], [7]] [8] rfl rfl rfl rfl rfl ⟨?_, ?_, ?_, ?_, ?_, ?_, ?_, ?_, ?_, trivial⟩ (allT_of ⟨rfl, trivial⟩) ?_
  · exact ob_v rfl (fun hg => allT_of trivial) (fun hg => av_move rfl)
  · exact ob_v rfl (fun hg => allT_of ⟨rfl, trivial⟩) (fun hg => av_lss rfl rfl)
  · exact ob_v rfl (fun hg => allT_of ⟨rfl, trivial⟩) (fun hg => av_move rfl)
  · exact ob_v ⟨rfl, rfl, rfl, _, rfl, rfl⟩ (fun hg => allT_of ⟨rfl, trivial⟩) (fun hg => av_move rfl)
  · exact ob_v ⟨rfl, rfl, rfl, _, rfl, rfl⟩ (fun hg => allT_of ⟨rfl, trivial⟩) (fun hg => av_load_rp ts22 rfl)
  · exact ob_v ⟨rfl, rfl, rfl, _, rfl, rfl⟩ (fun hg => allT_of ⟨hg, rfl, trivial⟩) (fun hg => av_len_sl (t := Y1) rfl rfl und22 rfl)
  · exact ob_v ⟨rfl, rfl, rfl, _, rfl, rfl⟩ (fun hg => allT_of ⟨hg, hg, rfl, trivial⟩) (fun hg => av_geq rfl rfl)
  · exact ob_pick (b := false) (p := decide (p0 < 0)) (q := decide ((List.length p1 : Int) ≤ p0)) rfl rfl rfl (fun hg => allT_of ⟨rfl, trivial⟩) rfl rfl rfl rfl rfl
  · exact ob_v rfl (fun hg => allT_of ⟨rfl, trivial⟩) (fun hg => av_assign rfl)
  have hr := Option.some.inj hr
  subst hr
  exact athen_norm (awc_ret (ret_q (l' := [(3, .bool ((decide (p0 < 0)) || (decide ((List.length p1 : Int) ≤ p0))))]) (wk_of hX [] 4 rfl rfl ⟨⟨_, rfl, cv0⟩, trivial⟩ trivial) rfl ⟨rfl, trivial⟩))
theorem f86_runs {p0 : List Int} {q1 : Int → Option Bool} {r : Int} {g1 : FuncId} {c1s : List AV} (h_q1 : ∀ (y1 : Int) (r : Bool), q1 y1 = some r → RunsP Tryd.prog g1 ([.int .i64 y1] ++ c1s) [.bool r]) (k_q1 : FnIn Tryd.prog g1 c1s) (hr : f86 p0 q1 = some r) : RunsP Tryd.prog 43 [.sl (.int .i64) p0, .clo (.fn g1 [] c1s)] [.int .i64 r] := by
  refine runs_w Tryd.func43 Tryd.ntmps43 rfl (rs := [.tmp 4]) rfl rfl fun w0 X hX => ?_
  refine awc_seq ?_
  refine awc_region ?_
  refine awl_v (av_assign rfl) ?_
  refine awl_nil (athen_norm (awc_seq (awc_seq ?_)))
  refine awc_region ?_
  refine awl_v (av_move rfl) ?_
  refine awl_v (av_len_sl (t := (.int .i64)) rfl rfl und38 rfl) ?_
  refine awl_v (av_move rfl) ?_
  refine awl_nil (athen_norm (awc_block ?_))
  obtain ⟨o4, e5, hr⟩ := bnd_some hr
  refine awc_len (t := 0) rfl (fun hl => ?_)
  refine awc_range (S := Unit) (R := Int) (List.length p0 : Int) (f86_b0 p0 q1) (fun p => match p with | (i1, ()) => (⟨[(0, .sl (.int .i64) p0), (1, .clo (.fn g1 [] c1s)), (4, .int .i64 0), (7, .int .i64 (List.length p0 : Int)), (8, .int .i64 i1)], [], 0⟩ : AS)) (fun o e st => match o with | .inl () => e = .exit 0 ∧ Wk X st ⟨[(4, .int .i64 0)], [], 0⟩ | .inr s3 => e = .ret ∧ Wk X st ⟨[(4, .int .i64 s3)], [], 0⟩) (len_ok hl) e5 (wk_of hX [] 4 rfl rfl ⟨⟨_, rfl, cv0⟩, ⟨_, rfl, cv0⟩, ⟨_, rfl, cv0⟩, ⟨_, rfl, cv0⟩, ⟨_, rfl, cv0⟩, trivial⟩ trivial) ?_ ?_
  · intro e st hx
    rcases o4 with _ | s3
    · obtain ⟨rfl, hw⟩ := hx
      refine ablock_here (athen_norm ((awc_wk hw) (awc_seq ?_)))
      refine awc_region ?_
      refine awl_v (av_assign rfl) ?_
      have hr := Option.some.inj hr
      subst hr
      exact awl_nil (athen_norm (awc_ret (ret_q (l' := [(4, .int .i64 (-1))]) (wk_of hX [] 4 rfl rfl ⟨⟨_, rfl, cv0⟩, trivial⟩ trivial) rfl ⟨rfl, trivial⟩)))
    · obtain ⟨rfl, hw⟩ := hx
      have hr := Option.some.inj hr
      subst hr
      exact ablock_ret (athen_ret (ret_q (l' := [(4, .int .i64 s3)]) (Wk.trans hw (wk_of hX [] 4 rfl rfl ⟨⟨_, rfl, cv0⟩, trivial⟩ trivial)) rfl ⟨rfl, trivial⟩))
  · rintro i1 _ o ho
    refine awc_seq ?_
    refine awc_region ?_
    refine awl_v (av_lss rfl rfl) ?_
    refine awl_nil (athen_norm (awc_seq ?_))
    refine awc_cond (b := decide (i1 < (List.length p0 : Int))) rfl (fun hc6 => ?_) (fun hc6 => ?_)
    · obtain ⟨q, hr, rfl⟩ := rb_t hc6 ho
      refine awc_skip (athen_norm (awc_seq (awc_block (awc_seq ?_))))
      refine awc_region ?_
      refine awl_v (av_move rfl) ?_
      refine awl_v (av_assign rfl) ?_
      refine awl_nil (athen_norm (awc_seq ?_))
      refine awc_region ?_
      refine awl_v (av_move rfl) ?_
      refine awl_v (av_move rfl) ?_
      refine awl_v (av_move rfl) ?_
      obtain ⟨x7, e8, hr⟩ := bnd_some hr
      refine awl_v (av_ia_sl (t := (.int .i64)) (e := x7) und38 sz3 rfl rfl e8) ?_
      refine awl_v (av_load_rp ts3 rfl) ?_
      obtain ⟨x9, e10, hr⟩ := bnd_some hr
      refine awl_v (av_callq rfl (h_q1 x7 x9 e10).x k_q1 rfl rfl rfl) ?_
      refine awl_nil (athen_norm ?_)
      refine awc_cond (b := x9) rfl (fun hc11 => ?_) (fun hc11 => ?_)
      · have hr := if_t hc11 hr
        refine awc_seq ?_
        refine awc_region ?_
        refine awl_v (av_move rfl) ?_
        refine awl_v (av_assign rfl) ?_
        have hr := Option.some.inj hr
        subst hr
        exact awl_nil (athen_norm (awc_ret (ablock_ret (athen_ret (⟨rfl, (wk_of hX [] 4 rfl rfl ⟨⟨_, rfl, cv0⟩, trivial⟩ trivial)⟩)))))
      · have hr := if_f hc11 hr
        refine awc_skip (ablock_norm (athen_norm ?_))
        refine awc_region ?_
        refine awl_v (av_add rfl rfl) ?_
        refine awl_v (av_move rfl) ?_
        have hr := Option.some.inj hr
        subst hr
        exact awl_nil ((wk_of hX [] 4 rfl rfl ⟨⟨_, rfl, cv0⟩, ⟨_, rfl, cv0⟩, ⟨_, rfl, cv0⟩, ⟨_, rfl, cv0⟩, ⟨_, rfl, cv0⟩, trivial⟩ trivial))
    · obtain rfl := rb_f hc6 ho
      exact awc_exit (athen_exit (⟨rfl, (wk_of hX [] 4 rfl rfl ⟨⟨_, rfl, cv0⟩, trivial⟩ trivial)⟩))
theorem f75_runs {p0 : List Int} {q1 : Int → Option Bool} {r : Bool} {g1 : FuncId} {c1s : List AV} (h_q1 : ∀ (y1 : Int) (r : Bool), q1 y1 = some r → RunsP Tryd.prog g1 ([.int .i64 y1] ++ c1s) [.bool r]) (k_q1 : FnIn Tryd.prog g1 c1s) (hr : f75 p0 q1 = some r) : RunsP Tryd.prog 30 [.sl (.int .i64) p0, .clo (.fn g1 [] c1s)] [.bool r] := by
  refine runs_w Tryd.func30 Tryd.ntmps30 rfl (rs := [.tmp 4]) rfl rfl fun w0 X hX => ?_
  refine awc_seq ?_
  refine awc_region ?_
  refine awl_v (av_assign rfl) ?_
  refine awl_nil (athen_norm (awc_seq ?_))
  refine awc_region ?_
  refine awl_v (av_move rfl) ?_
  refine awl_v (av_move rfl) ?_
  obtain ⟨x1, e2, hr⟩ := bnd_some hr
  refine awl_v (av_call (f86_runs (g1 := g1) (c1s := c1s) h_q1 k_q1 e2).x ent43 rfl rfl) ?_
  refine awl_v (av_geq rfl rfl) ?_
  refine awl_v (av_assign rfl) ?_
  have hr := Option.some.inj hr
  subst hr
  exact awl_nil (athen_norm (awc_ret (ret_q (l' := [(4, .bool (decide (0 ≤ x1)))]) (wk_of hX [] 4 rfl rfl ⟨⟨_, rfl, cv0⟩, trivial⟩ trivial) rfl ⟨rfl, trivial⟩)))
theorem f57_runs {p0 : Int} {p1 : List (Int × Int × Int × Int × Str)} {p2 : List Int} {r : Int} (hr : f57 p0 p1 p2 = some r) : RunsP Tryd.prog 20 [.int .i64 p0, .sl Y1 p1, .sl (.int .i64) p2] [.int .i64 r] := by
  refine runs_w Tryd.func20 Tryd.ntmps20 rfl (rs := [.tmp 6]) rfl rfl fun w0 X hX => ?_
  refine awc_seq ?_
  refine awc_region ?_
  refine awl_op (aop_box rfl rfl ?_)
  refine awl_v (av_assign rfl) ?_
  refine awl_nil (athen_norm (awc_seq (awc_seq ?_)))
  refine awc_region ?_
  refine awl_v (av_move rfl) ?_
  refine awl_v (av_load_ptr ts22 rfl rfl rfl) ?_
  obtain ⟨x1, e2, hr⟩ := bnd_some hr
  refine awl_v (av_call (f17_runs e2).x ent13 rfl rfl) ?_
  refine awl_v (av_not rfl) ?_
  refine awl_nil (athen_norm ?_)
  refine awc_cond (b := !x1) rfl (fun hc3 => ?_) (fun hc3 => ?_)
  · have hr := if_t hc3 hr
    refine awc_seq ?_
    refine awc_region ?_
    refine awl_v (av_assign rfl) ?_
    have hr := Option.some.inj hr
    subst hr
    exact awl_nil (athen_norm (awc_ret (athen_ret (ret_q (l' := [(6, .int .i64 1)]) (wk_of hX [] 4 rfl rfl ⟨⟨_, rfl, cv0⟩, trivial⟩ trivial) rfl ⟨rfl, trivial⟩))))
  · have hr := if_f hc3 hr
    refine awc_skip (athen_norm (awc_seq (awc_seq ?_)))
    refine awc_region ?_
    refine awl_v (av_move rfl) ?_
    refine awl_v (av_makeFunc (us := []) (vs := [.ptr 0 0]) rfl rfl) ?_
    obtain ⟨x4, e5, hr⟩ := bnd_some hr
    refine awl_v (av_callB (as' := [.sl (.int .i64) p2, .fn 31 [] [.ptr 0 0]]) (f75_runs (g1 := 31) (c1s := [.rp [.sl Y1 p1]]) (fun _ r h => f81_runs h) ⟨ent31⟩ e5).x ent30 rfl ⟨cv0, (cv3 rfl), trivial⟩ rfl rfl) ?_
    refine awl_nil (athen_norm ?_)
    refine awc_cond (b := x4) rfl (fun hc6 => ?_) (fun hc6 => ?_)
    · have hr := if_t hc6 hr
      refine awc_seq ?_
      refine awc_region ?_
      refine awl_v (av_assign rfl) ?_
      have hr := Option.some.inj hr
      subst hr
      exact awl_nil (athen_norm (awc_ret (athen_ret (ret_q (l' := [(6, .int .i64 7)]) (wk_of hX [] 4 rfl rfl ⟨⟨_, rfl, cv0⟩, trivial⟩ trivial) rfl ⟨rfl, trivial⟩))))
    · have hr := if_f hc6 hr
      refine awc_skip (athen_norm (awc_seq ?_))
      refine awc_region ?_
      refine awl_v (av_assign rfl) ?_
      have hr := Option.some.inj hr
      subst hr
      exact awl_nil (athen_norm (awc_ret (ret_q (l' := [(6, .int .i64 0)]) (wk_of hX [] 4 rfl rfl ⟨⟨_, rfl, cv0⟩, trivial⟩ trivial) rfl ⟨rfl, trivial⟩)))
theorem f82_iter {σ : Type} {r : σ} {L : Nat} {rec : Obj} {G : σ → Mem → Frag → Prop} {q : σ → (Int × List Int) → Option σ} {s0 : σ} {p1 : Int} {p2 : List (Int × Int × Int × Int × Str)} (hr : f82 q s0 p1 p2 = some r) (hrec : ctl rec = true) (hY : ∀ (s : σ) (x : Int × List Int) (s' : σ), q s x = some s' → YieldsA Tryd.prog L rec [.int .i64 x.1, .sl (.int .i64) x.2] (G s) (G s')) : RunsL (fun w => w.heap[L]? = some rec) Tryd.prog 36 [.yld L, .rp [.int .i64 p1], .rp [.sl Y1 p2]] [.guest (G s0)] (fun rs H' => rs = [] ∧ H' = [.guest (G r)]) := by
  refine runs_wL Tryd.func36 Tryd.ntmps36 rfl (rs := []) rfl rfl fun w0 X hw hX => ?_
  refine awc_seq ?_
  refine awc_region ?_
  refine awl_v (av_load_rp ts3 rfl) ?_
  obtain ⟨h2, hr⟩ := chk_some hr
  refine awl_op (aop_make (t := (.int .i64)) und38 zt3 rfl rfl h2 rfl ?_)
  refine awl_v (av_assign rfl) ?_
  refine awl_nil (athen_norm (awc_seq ?_))
  refine awc_region ?_
  refine awl_op (aop_makeMap (.int .i64) (.int .i64) rfl ?_)
  refine awl_v (av_assign rfl) ?_
  refine awl_nil (athen_norm (awc_seq ?_))
  refine awc_region ?_
  refine awl_v (av_load_rp ts22 rfl) ?_
  refine awl_v (av_len_sl (t := Y1) rfl rfl und22 rfl) ?_
  refine awl_v (av_move rfl) ?_
  refine awl_nil (athen_norm (awc_block ?_))
  obtain ⟨o13, e14, hr⟩ := bnd_some hr
  refine awc_len (t := 12) rfl (fun hl => ?_)
  refine awc_range (S := σ × List Int × (List (Int × Int))) (R := σ) (List.length p2 : Int) (f82_b0 q p2) (fun p => match p with | (i3, s5, s6, s7) => (⟨[(0, .yld L), (4, .osl 1), (5, .map 2), (12, .sl Y1 p2), (13, .int .i64 (List.length p2 : Int)), (14, .int .i64 i3)], [(0, .guest (G s5)), (1, .sl 3 (.int .i64) s6), (2, .map (.int .i64) (.int .i64) s7)], 3⟩ : AS)) (fun o e st => match o with | .inl (s5, s6, s7) => e = .exit 0 ∧ Wk X st ⟨[], [(0, .guest (G s5))], 1⟩ | .inr s12 => e = .ret ∧ Wk X st ⟨[], [(0, .guest (G s12))], 1⟩) (len_ok hl) e14 (wk_of hX [0, 1, 2] 4 rfl rfl ⟨⟨_, rfl, cv0⟩, ⟨_, rfl, cv0⟩, ⟨_, rfl, cv0⟩, ⟨_, rfl, cv0⟩, ⟨_, rfl, cv0⟩, ⟨_, rfl, cv0⟩, trivial⟩ ⟨cvo0, cvo0, cvo0, trivial⟩) ?_ ?_
  · intro e st hx
    rcases o13 with ⟨s5, s6, s7⟩ | s12
    · obtain ⟨rfl, hw⟩ := hx
      have hr := Option.some.inj hr
      subst hr
      exact ablock_here (retW_norm (ret_o (l' := []) (Hs := [(0, .guest (G s5))]) (n := 1) (Wk.trans hw (wk_of hX [0] 4 rfl rfl trivial ⟨cvo0, trivial⟩)) rfl rfl rfl trivial))
    · obtain ⟨rfl, hw⟩ := hx
      have hr := Option.some.inj hr
      subst hr
      exact ablock_ret (ret_o (l' := []) (Hs := [(0, .guest (G s12))]) (n := 1) (Wk.trans hw (wk_of hX [0] 4 rfl rfl trivial ⟨cvo0, trivial⟩)) rfl rfl rfl trivial)
  · rintro i3 ⟨s5, s6, s7⟩ o ho
    refine awc_seq ?_
    refine awc_region ?_
    refine awl_v (av_lss rfl rfl) ?_
    refine awl_nil (athen_norm (awc_seq ?_))
    refine awc_cond (b := decide (i3 < (List.length p2 : Int))) rfl (fun hc15 => ?_) (fun hc15 => ?_)
    · obtain ⟨q, hr, rfl⟩ := rb_t hc15 ho
      refine awc_skip (athen_norm (awc_seq (awc_block (awc_seq ?_))))
      refine awc_region ?_
      refine awl_v (av_move rfl) ?_
      obtain ⟨x16, e17, hr⟩ := bnd_some hr
      refine awl_v (av_ia_sl (t := Y1) (e := x16) und22 sz30 rfl rfl e17) ?_
      refine awl_v (av_load_rpN ts30 rfl rfl rfl) ?_
      refine awl_op (aop_alloc zero30 rfl ?_)
      refine awl_v (av_assign rfl) ?_
      refine awl_op (aop_store sz30 rfl rfl rfl rfl rfl rfl rfl ?_)
      refine awl_nil (athen_norm (awc_seq ?_))
      refine awc_region ?_
      refine awl_v (av_assign rfl) ?_
      refine awl_nil (athen_norm ?_)
      obtain ⟨o19, e20, hr⟩ := bnd_some hr
      refine awc_join (S := List Int) (R := Unit) (fun s => match s with | s18 => (⟨[(0, .yld L), (4, .osl 1), (5, .map 2), (6, .int .i64 i3), (7, .ptr 3 0), (8, .osl 4), (12, .sl Y1 p2), (13, .int .i64 (List.length p2 : Int)), (14, .int .i64 i3)], [(0, .guest (G s5)), (1, .sl 3 (.int .i64) s6), (2, .map (.int .i64) (.int .i64) s7), (3, .var 30 [.int .i64 x16.1, .int .i64 x16.2.1, .int .i64 x16.2.2.1, .int .i64 x16.2.2.2.1, .str x16.2.2.2.2]), (4, .sl 3 (.int .i64) s18)], 5⟩ : AS)) (fun _ _ _ => False) e20 (fun hr => ?_) ?_ ?_
      · refine awc_seq ?_
        refine awc_region ?_
        refine awl_v (av_move rfl) ?_
        refine awl_v (av_fa_ptr fa30_0 rfl rfl) ?_
        refine awl_v (av_load_ptr ts3 rfl rfl rfl) ?_
        obtain ⟨x21, e22, hr⟩ := bnd_some hr
        refine awl_v (av_ia_osl (t := (.int .i64)) und38 sz3 rfl rfl rfl e22) ?_
        refine awl_v (av_load_ep ts3 rfl rfl rfl (ix_at e22) rfl) ?_
        refine awl_v (av_gtr rfl rfl) ?_
        refine awl_nil (athen_norm ?_)
        refine awc_cond (b := decide (0 < x21)) rfl (fun hc23 => ?_) (fun hc23 => ?_)
        · have hr := if_t hc23 hr
          refine awc_region ?_
          refine awl_v (av_move rfl) ?_
          refine awl_v (av_move rfl) ?_
          refine awl_v (av_fa_ptr fa30_0 rfl rfl) ?_
          refine awl_v (av_load_ptr ts3 rfl rfl rfl) ?_
          refine awl_v (av_ia_osl (t := (.int .i64)) und38 sz3 rfl rfl rfl e22) ?_
          refine awl_v (av_load_ep ts3 rfl rfl rfl (ix_at e22) rfl) ?_
          refine awl_v (av_sub rfl rfl) ?_
          refine awl_v (av_buildSlice (t := (.int .i64)) (qs := [(0, [.int .i64 (w64 (x21 - 1))])]) (ys := [(w64 (x21 - 1))]) bs38 rfl rfl rfl rfl rfl rfl rfl rfl) ?_
          obtain ⟨h24, hr⟩ := chk_some hr
          refine awl_op (aop_append_nil rfl rfl app38 rfl rfl h24 rfl ?_)
          refine awl_v (av_assign rfl) ?_
          have hr := Option.some.inj hr
          subst hr
          exact awl_nil ((wk_of hX [0, 1, 2, 3, 4] 4 rfl rfl ⟨⟨_, rfl, cv0⟩, ⟨_, rfl, cv0⟩, ⟨_, rfl, cv0⟩, ⟨_, rfl, cv0⟩, ⟨_, rfl, cv0⟩, ⟨_, rfl, cv0⟩, ⟨_, rfl, cv0⟩, ⟨_, rfl, cv0⟩, ⟨_, rfl, cv0⟩, trivial⟩ ⟨cvo0, cvo0, cvo0, cvo0, cvo0, trivial⟩))
        · have hr := if_f hc23 hr
          have hr := Option.some.inj hr
          subst hr
          exact awc_skip ((Wk.trans (wk_own (t := 8) 3 (.int .i64) rfl) (wk_of hX [0, 1, 2, 3, 4] 4 rfl rfl ⟨⟨_, rfl, cv0⟩, ⟨_, rfl, cv0⟩, ⟨_, rfl, cv0⟩, ⟨_, rfl, cv0⟩, ⟨_, rfl, cv0⟩, ⟨_, rfl, cv0⟩, ⟨_, rfl, cv0⟩, ⟨_, rfl, cv0⟩, ⟨_, rfl, cv0⟩, trivial⟩ ⟨cvo0, cvo0, cvo0, cvo0, cvo0, trivial⟩)))
      · rintro s18 rfl
        obtain ⟨o26, e27, hr⟩ := bnd_some hr
        refine awc_join (S := List Int) (R := Unit) (fun s => match s with | s25 => (⟨[(0, .yld L), (4, .osl 1), (5, .map 2), (6, .int .i64 i3), (7, .ptr 3 0), (8, .osl 4), (12, .sl Y1 p2), (13, .int .i64 (List.length p2 : Int)), (14, .int .i64 i3)], [(0, .guest (G s5)), (1, .sl 3 (.int .i64) s6), (2, .map (.int .i64) (.int .i64) s7), (3, .var 30 [.int .i64 x16.1, .int .i64 x16.2.1, .int .i64 x16.2.2.1, .int .i64 x16.2.2.2.1, .str x16.2.2.2.2]), (4, .sl 3 (.int .i64) s25)], 5⟩ : AS)) (fun _ _ _ => False) e27 (fun hr => ?_) ?_ ?_
        · refine awc_seq ?_
          refine awc_region ?_
          refine awl_v (av_fa_ptr fa30_1 rfl rfl) ?_
          refine awl_v (av_load_ptr ts3 rfl rfl rfl) ?_
          refine awl_v (av_eql rfl rfl) ?_
          refine awl_nil (athen_norm ?_)
          refine awc_cond (b := decide (x16.2.1 = 3)) rfl (fun hc28 => ?_) (fun hc28 => ?_)
          · have hr := if_t hc28 hr
            refine awc_region ?_
            refine awl_v (av_move rfl) ?_
            refine awl_v (av_move rfl) ?_
            refine awl_v (av_fa_ptr fa30_2 rfl rfl) ?_
            refine awl_v (av_load_ptr ts3 rfl rfl rfl) ?_
            refine awl_v (av_lookup (kx := x16.2.2.1) (r := .int .i64 ((mget s7 x16.2.2.1).getD 0)) und64 kt3 zw3 rfl rfl rfl rfl rfl) ?_
            refine awl_v (av_buildSlice (t := (.int .i64)) (qs := [(0, [.int .i64 ((mget s7 x16.2.2.1).getD 0)])]) (ys := [((mget s7 x16.2.2.1).getD 0)]) bs38 rfl rfl rfl rfl rfl rfl rfl rfl) ?_
            obtain ⟨h29, hr⟩ := chk_some hr
            refine awl_op (aop_append rfl rfl app38 rfl rfl rfl h29 rfl ?_)
            refine awl_v (av_assign rfl) ?_
            have hr := Option.some.inj hr
            subst hr
            exact awl_nil ((wk_of hX [0, 1, 2, 3, 5] 4 rfl rfl ⟨⟨_, rfl, cv0⟩, ⟨_, rfl, cv0⟩, ⟨_, rfl, cv0⟩, ⟨_, rfl, cv0⟩, ⟨_, rfl, cv0⟩, ⟨_, rfl, cv0⟩, ⟨_, rfl, cv0⟩, ⟨_, rfl, cv0⟩, ⟨_, rfl, cv0⟩, trivial⟩ ⟨cvo0, cvo0, cvo0, cvo0, cvo0, trivial⟩))
          · have hr := if_f hc28 hr
            have hr := Option.some.inj hr
            subst hr
            exact awc_skip ((wk_of hX [0, 1, 2, 3, 4] 4 rfl rfl ⟨⟨_, rfl, cv0⟩, ⟨_, rfl, cv0⟩, ⟨_, rfl, cv0⟩, ⟨_, rfl, cv0⟩, ⟨_, rfl, cv0⟩, ⟨_, rfl, cv0⟩, ⟨_, rfl, cv0⟩, ⟨_, rfl, cv0⟩, ⟨_, rfl, cv0⟩, trivial⟩ ⟨cvo0, cvo0, cvo0, cvo0, cvo0, trivial⟩))
        · rintro s25 rfl
          obtain ⟨o31, e32, hr⟩ := bnd_some hr
          refine awc_join (S := (List (Int × Int))) (R := Unit) (fun s => match s with | s30 => (⟨[(0, .yld L), (4, .osl 1), (5, .map 2), (6, .int .i64 i3), (7, .ptr 3 0), (8, .osl 4), (12, .sl Y1 p2), (13, .int .i64 (List.length p2 : Int)), (14, .int .i64 i3)], [(0, .guest (G s5)), (1, .sl 3 (.int .i64) s6), (2, .map (.int .i64) (.int .i64) s30), (3, .var 30 [.int .i64 x16.1, .int .i64 x16.2.1, .int .i64 x16.2.2.1, .int .i64 x16.2.2.2.1, .str x16.2.2.2.2]), (4, .sl 3 (.int .i64) s25)], 5⟩ : AS)) (fun _ _ _ => False) e32 (fun hr => ?_) ?_ ?_
          · refine awc_seq ?_
            refine awc_region ?_
            refine awl_v (av_fa_ptr fa30_1 rfl rfl) ?_
            refine awl_v (av_load_ptr ts3 rfl rfl rfl) ?_
            refine awl_v (av_eql rfl rfl) ?_
            refine awl_nil (athen_norm ?_)
            refine awc_cond (b := decide (x16.2.1 = 2)) rfl (fun hc33 => ?_) (fun hc33 => ?_)
            · have hr := if_t hc33 hr
              refine awc_region ?_
              refine awl_v (av_move rfl) ?_
              refine awl_v (av_fa_ptr fa30_2 rfl rfl) ?_
              refine awl_v (av_load_ptr ts3 rfl rfl rfl) ?_
              refine awl_v (av_move rfl) ?_
              refine awl_op (aop_mapSet (kx := x16.2.2.1) (vx := i3) und64 kt3 (.inl rfl) rfl rfl rfl rfl rfl rfl rfl ?_)
              have hr := Option.some.inj hr
              subst hr
              exact awl_nil ((wk_of hX [0, 1, 2, 3, 4] 4 rfl rfl ⟨⟨_, rfl, cv0⟩, ⟨_, rfl, cv0⟩, ⟨_, rfl, cv0⟩, ⟨_, rfl, cv0⟩, ⟨_, rfl, cv0⟩, ⟨_, rfl, cv0⟩, ⟨_, rfl, cv0⟩, ⟨_, rfl, cv0⟩, ⟨_, rfl, cv0⟩, trivial⟩ ⟨cvo0, cvo0, cvo0, cvo0, cvo0, trivial⟩))
            · have hr := if_f hc33 hr
              have hr := Option.some.inj hr
              subst hr
              exact awc_skip ((wk_of hX [0, 1, 2, 3, 4] 4 rfl rfl ⟨⟨_, rfl, cv0⟩, ⟨_, rfl, cv0⟩, ⟨_, rfl, cv0⟩, ⟨_, rfl, cv0⟩, ⟨_, rfl, cv0⟩, ⟨_, rfl, cv0⟩, ⟨_, rfl, cv0⟩, ⟨_, rfl, cv0⟩, ⟨_, rfl, cv0⟩, trivial⟩ ⟨cvo0, cvo0, cvo0, cvo0, cvo0, trivial⟩))
          · rintro s30 rfl
            refine awc_seq ?_
            refine awc_region ?_
            refine awl_v (av_move rfl) ?_
            refine awl_v (av_fa_ptr fa30_0 rfl rfl) ?_
            refine awl_v (av_load_ptr ts3 rfl rfl rfl) ?_
            refine awl_v (av_move rfl) ?_
            refine awl_v (av_add rfl rfl) ?_
            obtain ⟨x34, e35, hr⟩ := bnd_some hr
            refine awl_v (av_ia_osl (t := (.int .i64)) und38 sz3 rfl rfl rfl e35) ?_
            refine awl_op (aop_store_ep (e' := (w64 (i3 + 1))) sz3 rfl rfl rfl rfl (ix_at e35) rfl rfl rfl rfl rfl ?_)
            refine awl_nil (athen_norm (awc_seq ?_))
            refine awc_region ?_
            refine awl_v (av_move rfl) ?_
            obtain ⟨x36, e37, hr⟩ := bnd_some hr
            refine awl_op (aop_callO (σ := [4]) (as' := [.osl 4]) (f73_runs e37).x ent37 rfl ⟨cv0, trivial⟩ rfl rfl rfl ?_)
            refine awl_nil (athen_norm (awc_seq ?_))
            refine awc_region ?_
            refine awl_v (av_move rfl) ?_
            refine awl_v (av_move rfl) ?_
            refine awl_v (av_move rfl) ?_
            obtain ⟨x38, e39, hr⟩ := bnd_some hr
            refine awl_op (aop_callO (σ := [4]) (as' := [.osl 4]) (f83_runs e39).x ent38 rfl ⟨cv0, trivial⟩ rfl rfl rfl ?_)
            refine awl_wk (wk_frz [62] 5 rfl rfl rfl) ?_
            obtain ⟨x40, e41, hr⟩ := bnd_some hr
            refine awl_op (aop_yield (i := 0) (as' := [.int .i64 i3, .sl (.int .i64) x38]) rfl rfl rfl hw hrec rfl rfl rfl (hY _ (i3, x38) _ e41) ?_)
            refine awl_v (av_not rfl) ?_
            refine awl_nil (athen_norm ?_)
            refine awc_cond (b := !true) rfl (fun hc42 => ?_) (fun hc42 => ?_)
            · have hr := if_t hc42 hr
              have hr := Option.some.inj hr
              subst hr
              exact awc_ret (ablock_ret (athen_ret (⟨rfl, (wk_of hX [0] 4 rfl rfl trivial ⟨cvo0, trivial⟩)⟩)))
            · have hr := if_f hc42 hr
              refine awc_skip (ablock_norm (athen_norm ?_))
              refine awc_region ?_
              refine awl_v (av_add rfl rfl) ?_
              refine awl_v (av_move rfl) ?_
              have hr := Option.some.inj hr
              subst hr
              exact awl_nil ((wk_of hX [0, 1, 2] 4 rfl rfl ⟨⟨_, rfl, cv0⟩, ⟨_, rfl, cv0⟩, ⟨_, rfl, cv0⟩, ⟨_, rfl, cv0⟩, ⟨_, rfl, cv0⟩, ⟨_, rfl, cv0⟩, trivial⟩ ⟨cvo0, cvo0, cvo0, trivial⟩))
          · exact fun r h e st hne hx => hx.elim
        · exact fun r h e st hne hx => hx.elim
      · exact fun r h e st hne hx => hx.elim
    · obtain rfl := rb_f hc15 ho
      exact awc_exit (athen_exit (⟨rfl, (wk_of hX [0] 4 rfl rfl trivial ⟨cvo0, trivial⟩)⟩))
theorem f62_runs {p0 : Int} {p1 : List (Int × Int × Int × Int × Str)} {r : Unit} (hr : f62 p0 p1 = some r) : RunsP Tryd.prog 25 [.int .i64 p0, .sl Y1 p1] [.fn 36 [] [.rp [.int .i64 p0], .rp [.sl Y1 p1]]] := by
  refine runs_w Tryd.func25 Tryd.ntmps25 rfl (rs := [.tmp 4]) rfl rfl fun w0 X hX => ?_
  refine awc_seq ?_
  refine awc_region ?_
  refine awl_op (aop_box rfl rfl ?_)
  refine awl_op (aop_box rfl rfl ?_)
  refine awl_v (av_assign rfl) ?_
  refine awl_nil (athen_norm (awc_seq ?_))
  refine awc_region ?_
  refine awl_v (av_makeFunc (us := []) (vs := [.ptr 0 0, .ptr 1 0]) rfl rfl) ?_
  refine awl_v (av_assign rfl) ?_
  have hr := Option.some.inj hr
  subst hr
  exact awl_nil (athen_norm (awc_ret (ret_q (l' := [(4, .fn 36 [] [.rp [.int .i64 p0], .rp [.sl Y1 p1]])]) (wk_of hX [] 4 rfl rfl ⟨⟨_, rfl, cv0⟩, trivial⟩ trivial) rfl ⟨rfl, trivial⟩)))
end Go.Ab

