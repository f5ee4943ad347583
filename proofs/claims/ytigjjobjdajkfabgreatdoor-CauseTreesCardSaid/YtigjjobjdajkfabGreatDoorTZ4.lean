/- Lemmas for a law of the seat: what functions of the program do, each stated as a contract of its own (TZ4). -/
import Derived.Test.YtigjjobjdajkfabGreatDoorLayZs
import Derived.Test.YtigjjobjdajkfabGreatDoorAb3
import Derived.Test.YtigjjobjdajkfabGreatDoorChecked
import Derived.Test.YtigjjobjdajkfabGreatDoorTZd
import Derived.Test.YtigjjobjdajkfabGreatDoorTZ3
set_option linter.unusedVariables false
set_option maxRecDepth 100000
namespace Go.Ab
open Go.RowKit Go.Shelf Go.Proofs Go.Eng
theorem ent37 : Enters Tryz.prog 37 := enters_of Tryz.func37 (by kernel_rfl) rfl
theorem und56 : Und Tryz.prog 56 (.slice 101) := by unfold Und; kernel_rfl
theorem zt101 : ZeroT Tryz.prog 101 (.slice .bool) 24 := zeroT_of (z := .slice none 0 0) (by kernel_rfl) rfl
theorem und101 : Und Tryz.prog 101 (.slice 4) := by unfold Und; kernel_rfl
theorem zt4 : ZeroT Tryz.prog 4 .bool 1 := zeroT_of (z := .bool false) (by kernel_rfl) rfl
theorem sz101 : Sz Tryz.prog 101 1 := fun w => by kernel_rfl
theorem ent53 : Enters Tryz.prog 53 := enters_of Tryz.func53 (by kernel_rfl) rfl
theorem ts101 : TyS Tryz.prog 101 false 1 := ⟨fun w => by kernel_rfl, fun w => by kernel_rfl⟩
theorem sz4 : Sz Tryz.prog 4 1 := fun w => by kernel_rfl
theorem ts4 : TyS Tryz.prog 4 false 1 := ⟨fun w => by kernel_rfl, fun w => by kernel_rfl⟩
theorem ent26 : Enters Tryz.prog 26 := enters_of Tryz.func26 (by kernel_rfl) rfl
theorem ent13 : Enters Tryz.prog 13 := enters_of Tryz.func13 (by kernel_rfl) rfl
theorem ent27 : Enters Tryz.prog 27 := enters_of Tryz.func27 (by kernel_rfl) rfl
theorem ent28 : Enters Tryz.prog 28 := enters_of Tryz.func28 (by kernel_rfl) rfl
theorem ent29 : Enters Tryz.prog 29 := enters_of Tryz.func29 (by kernel_rfl) rfl
theorem ts25 : TyS Tryz.prog 25 false 1 := ⟨fun w => by kernel_rfl, fun w => by kernel_rfl⟩
theorem und25 : Und Tryz.prog 25 (.slice 31) := by unfold Und; kernel_rfl
theorem sz31 : Sz Tryz.prog 31 2 := fun w => by kernel_rfl
theorem ts31 : TyS Tryz.prog 31 true 2 := ⟨fun w => by kernel_rfl, fun w => by kernel_rfl⟩
theorem und31 : Und Tryz.prog 31 (.array 2 3) := by unfold Und; kernel_rfl
theorem ent32 : Enters Tryz.prog 32 := enters_of Tryz.func32 (by kernel_rfl) rfl
theorem ts61 : TyS Tryz.prog 61 false 1 := ⟨fun w => by kernel_rfl, fun w => by kernel_rfl⟩
theorem und61 : Und Tryz.prog 61 (.map 3 9) := by unfold Und; kernel_rfl
theorem zw9 : ZeroW Tryz.prog 9 .str := zeroW_of (z := .string ByteArray.empty) (fun w => by kernel_rfl) rfl (fun _ => rfl)
theorem ent31 : Enters Tryz.prog 31 := enters_of Tryz.func31 (by kernel_rfl) rfl
theorem ts66 : TyS Tryz.prog 66 false 1 := ⟨fun w => by kernel_rfl, fun w => by kernel_rfl⟩
theorem ent30 : Enters Tryz.prog 30 := enters_of Tryz.func30 (by kernel_rfl) rfl
theorem ent7 : Enters Tryz.prog 7 := enters_of Tryz.func7 (by kernel_rfl) rfl
theorem zero25 : Eng.Zero Tryz.prog 25 (.slice none 0 0) := fun w => by kernel_rfl
theorem sz25 : Sz Tryz.prog 25 1 := fun w => by kernel_rfl
theorem zero61 : Eng.Zero Tryz.prog 61 (.map none) := fun w => by kernel_rfl
theorem sz61 : Sz Tryz.prog 61 1 := fun w => by kernel_rfl
theorem zero65 : Eng.Zero Tryz.prog 65 (.agg #[.pointer none, .slice none 0 0]) := fun w => by kernel_rfl
theorem zero66 : Eng.Zero Tryz.prog 66 (.nilFunc) := fun w => by kernel_rfl
theorem sz66 : Sz Tryz.prog 66 1 := fun w => by kernel_rfl
theorem ent33 : Enters Tryz.prog 33 := enters_of Tryz.func33 (by kernel_rfl) rfl
theorem ent34 : Enters Tryz.prog 34 := enters_of Tryz.func34 (by kernel_rfl) rfl
theorem ent8 : Enters Tryz.prog 8 := enters_of Tryz.func8 (by kernel_rfl) rfl
theorem ent5 : Enters Tryz.prog 5 := enters_of Tryz.func5 (by kernel_rfl) rfl
theorem ent6 : Enters Tryz.prog 6 := enters_of Tryz.func6 (by kernel_rfl) rfl
theorem ent9 : Enters Tryz.prog 9 := enters_of Tryz.func9 (by kernel_rfl) rfl
theorem ent10 : Enters Tryz.prog 10 := enters_of Tryz.func10 (by kernel_rfl) rfl
theorem eq31 {a0 b0 : Int} {a1 b1 : Int} : EqT Tryz.prog 31 [.int .i64 a0, .int .i64 a1] [.int .i64 b0, .int .i64 b1] := ⟨by kernel_rfl, fun w => run_eqArr (e := 3) (n := 2) (by kernel_rfl) (by kernel_rfl) (by kernel_rfl) (by kernel_rfl) (by kernel_rfl) (by kernel_rfl)⟩
theorem f18_runs {p0 : Int} {p1 : List (Int × Int × Int × Int × Str)} {r : Bool} (hr : f18 p0 p1 = some r) : RunsP Tryz.prog 13 [.int .i64 p0, .sl Y1 p1] [.bool r] := by
  refine runs_w Tryz.func13 Tryz.ntmps13 rfl (rs := [.tmp 4]) rfl rfl fun w0 X hX => ?_
  refine awc_seq ?_
  refine awc_region ?_
  refine awl_v (av_assign rfl) ?_
  refine awl_nil (athen_norm (awc_seq ?_))
  refine awc_region ?_
  refine awl_v (av_move rfl) ?_
  refine awl_v (av_move rfl) ?_
  obtain ⟨x1, e2, hr⟩ := bnd_some hr
  refine awl_v (av_call (f16_runs e2).x ent37 rfl rfl) ?_
  refine awl_v (av_move rfl) ?_
  refine awl_v (av_extract rfl rfl) ?_
  refine awl_v (av_extract rfl rfl) ?_
  refine awl_v (av_assign rfl) ?_
  refine awl_v (av_assign rfl) ?_
  refine awl_nil (athen_norm (awc_seq ?_))
  refine awc_region ?_
  refine awl_v (av_move rfl) ?_
  refine awl_v (av_eql rfl rfl) ?_
  refine awl_v (av_assign rfl) ?_
  have hr := Option.some.inj hr
  subst hr
  exact awl_nil (athen_norm (awc_ret (ret_q (l' := [(4, .bool (decide (x1.2 = 0)))]) (wk_of hX [] 4 rfl rfl ⟨⟨_, rfl, cv0⟩, trivial⟩ trivial) rfl ⟨rfl, trivial⟩)))
theorem f56_runs {p0 : List (Int × Int × Int × Int × Str)} {p1 : Int} {p2 : Int} {r : Bool} (hr : f56 p0 p1 p2 = some r) : RunsP Tryz.prog 53 [.sl Y1 p0, .int .i64 p1, .int .i64 p2] [.bool r] := by
  refine runs_w Tryz.func53 Tryz.ntmps53 rfl (rs := [.tmp 6]) rfl rfl fun w0 X hX => ?_
  refine awc_seq ?_
  refine awc_region ?_
  refine awl_v (av_assign rfl) ?_
  refine awl_nil (athen_norm (awc_seq (awc_seq ?_)))
  obtain ⟨x1, e2, hr⟩ := bnd_some hr
  obtain ⟨h3, hr⟩ := chk_some hr
  obtain ⟨h4, hr⟩ := chk_some hr
  obtain ⟨h5, hr⟩ := chk_some hr
  refine awc_draw mixed [0, 1, 2, 6] [(true, .sl Y1 p0), (true, .int .i64 p1), (true, .rp [.int .i64 x1.1, .int .i64 x1.2.1, .int .i64 x1.2.2.1, .int .i64 x1.2.2.2.1, .str x1.2.2.2.2]), (true, .rp [.int .i64 x1.2.1, .int .i64 x1.2.2.1, .int .i64 x1.2.2.2.1, .str x1.2.2.2.2]), (true, .int .i64 x1.2.1), (true, .bool (decide (x1.2.1 = 2))), (true, .bool (decide (x1.2.1 = 2))), (decide (x1.2.1 = 2), .sl Y1 p0), (decide (x1.2.1 = 2), .int .i64 p2), (decide (x1.2.1 = 2), .rp [.int .i64 ((((ix p0 p2).getD default)).1), .int .i64 (((((ix p0 p2).getD default)).2).1), .int .i64 ((((((ix p0 p2).getD default)).2).2).1), .int .i64 (((((((ix p0 p2).getD default)).2).2).2).1), .str (((((((ix p0 p2).getD default)).2).2).2).2)]), (decide (x1.2.1 = 2), .rp [.int .i64 (((((ix p0 p2).getD default)).2).1), .int .i64 ((((((ix p0 p2).getD default)).2).2).1), .int .i64 (((((((ix p0 p2).getD default)).2).2).2).1), .str (((((((ix p0 p2).getD default)).2).2).2).2)]), (decide (x1.2.1 = 2), .int .i64 (((((ix p0 p2).getD default)).2).1)), (decide (x1.2.1 = 2), .bool (decide ((((((ix p0 p2).getD default)).2).1) = 3))), (true, .bool ((decide (x1.2.1 = 2)) && (decide ((((((ix p0 p2).getD default)).2).1) = 3)))), (true, .bool ((decide (x1.2.1 = 2)) && (decide ((((((ix p0 p2).getD default)).2).1) = 3)))), ((decide (x1.2.1 = 2)) && (decide ((((((ix p0 p2).getD default)).2).1) = 3)), .sl Y1 p0), ((decide (x1.2.1 = 2)) && (decide ((((((ix p0 p2).getD default)).2).1) = 3)), .int .i64 p1), ((decide (x1.2.1 = 2)) && (decide ((((((ix p0 p2).getD default)).2).1) = 3)), .rp [.int .i64 ((((ix p0 p1).getD default)).1), .int .i64 (((((ix p0 p1).getD default)).2).1), .int .i64 ((((((ix p0 p1).getD default)).2).2).1), .int .i64 (((((((ix p0 p1).getD default)).2).2).2).1), .str (((((((ix p0 p1).getD default)).2).2).2).2)]), ((decide (x1.2.1 = 2)) && (decide ((((((ix p0 p2).getD default)).2).1) = 3)), .rp [.int .i64 ((((((ix p0 p1).getD default)).2).2).1), .int .i64 (((((((ix p0 p1).getD default)).2).2).2).1), .str (((((((ix p0 p1).getD default)).2).2).2).2)]), ((decide (x1.2.1 = 2)) && (decide ((((((ix p0 p2).getD default)).2).1) = 3)), .int .i64 ((((((ix p0 p1).getD default)).2).2).1)), ((decide (x1.2.1 = 2)) && (decide ((((((ix p0 p2).getD default)).2).1) = 3)), .sl Y1 p0), ((decide (x1.2.1 = 2)) && (decide ((((((ix p0 p2).getD default)).2).1) = 3)), .int .i64 p2), ((decide (x1.2.1 = 2)) && (decide ((((((ix p0 p2).getD default)).2).1) = 3)), .rp [.int .i64 ((((ix p0 p2).getD default)).1), .int .i64 (((((ix p0 p2).getD default)).2).1), .int .i64 ((((((ix p0 p2).getD default)).2).2).1), .int .i64 (((((((ix p0 p2).getD default)).2).2).2).1), .str (((((((ix p0 p2).getD default)).2).2).2).2)]), ((decide (x1.2.1 = 2)) && (decide ((((((ix p0 p2).getD default)).2).1) = 3)), .rp [.int .i64 ((((((ix p0 p2).getD default)).2).2).1), .int .i64 (((((((ix p0 p2).getD default)).2).2).2).1), .str (((((((ix p0 p2).getD default)).2).2).2).2)]), ((decide (x1.2.1 = 2)) && (decide ((((((ix p0 p2).getD default)).2).1) = 3)), .int .i64 ((((((ix p0 p2).getD default)).2).2).1)), ((decide (x1.2.1 = 2)) && (decide ((((((ix p0 p2).getD default)).2).1) = 3)), .bool (decide (((((((ix p0 p1).getD default)).2).2).1) = ((((((ix p0 p2).getD default)).2).2).1)))), (true, .bool (((decide (x1.2.1 = 2)) && (decide ((((((ix p0 p2).getD default)).2).1) = 3))) && (decide (((((((ix p0 p1).getD default)).2).2).1) = ((((((ix p0 p2).getD default)).2).2).1)))))] [[], [], [0, 1], [2], [3], [4], [5], [6], [6], [7, 8, 6], [9, 6], [10, 6], [11, 6], [12, 6], [13], [14], [14], [15, 16, 14], [17, 14], [18, 14], [14], [14], [20, 21, 14], [22, 14], [23, 14], [19, 24, 14], [25, 14]] [26] rfl rfl rfl rfl rfl ⟨?_, ?_, ?_, ?_, ?_, ?_, ?_, ?_, ?_, ?_, ?_, ?_, ?_, ?_, ?_, ?_, ?_, ?_, ?_, ?_, ?_, ?_, ?_, ?_, ?_, ?_, ?_, trivial⟩ (allT_of ⟨rfl, trivial⟩) ?_
  · exact ob_v rfl (fun hg => allT_of trivial) (fun hg => av_move rfl)
  · exact ob_v rfl (fun hg => allT_of trivial) (fun hg => av_move rfl)
  · exact ob_v rfl (fun hg => allT_of ⟨rfl, rfl, trivial⟩) (fun hg => av_ia_sl (t := Y1) (e := x1) und22 sz39 rfl rfl e2)
  · exact ob_v rfl (fun hg => allT_of ⟨rfl, trivial⟩) (fun hg => av_fa_rp fa39_1 rfl rfl)
  · exact ob_v rfl (fun hg => allT_of ⟨rfl, trivial⟩) (fun hg => av_load_rp ts3 rfl)
  · exact ob_v rfl (fun hg => allT_of ⟨rfl, trivial⟩) (fun hg => av_eql rfl rfl)
  · exact ob_v rfl (fun hg => allT_of ⟨rfl, trivial⟩) (fun hg => av_move rfl)
  · exact ob_v ⟨rfl, rfl, rfl, _, rfl, rfl⟩ (fun hg => allT_of ⟨rfl, trivial⟩) (fun hg => av_move rfl)
  · exact ob_v ⟨rfl, rfl, rfl, _, rfl, rfl⟩ (fun hg => allT_of ⟨rfl, trivial⟩) (fun hg => av_move rfl)
  · exact ob_v ⟨rfl, rfl, rfl, _, rfl, rfl⟩ (fun hg => allT_of ⟨hg, hg, rfl, trivial⟩) (fun hg => av_ia_sl (t := Y1) (e := ((ix p0 p2).getD default)) und22 sz39 rfl rfl (get_g h3 hg))
  · exact ob_v ⟨rfl, rfl, rfl, _, rfl, rfl⟩ (fun hg => allT_of ⟨hg, rfl, trivial⟩) (fun hg => av_fa_rp fa39_1 rfl rfl)
  · exact ob_v ⟨rfl, rfl, rfl, _, rfl, rfl⟩ (fun hg => allT_of ⟨hg, rfl, trivial⟩) (fun hg => av_load_rp ts3 rfl)
  · exact ob_v ⟨rfl, rfl, rfl, _, rfl, rfl⟩ (fun hg => allT_of ⟨hg, rfl, trivial⟩) (fun hg => av_eql rfl rfl)
  · exact ob_pick (b := true) (p := decide (x1.2.1 = 2)) (q := decide ((((((ix p0 p2).getD default)).2).1) = 3)) rfl rfl rfl (fun hg => allT_of ⟨rfl, trivial⟩) rfl rfl rfl rfl rfl
  · exact ob_v rfl (fun hg => allT_of ⟨rfl, trivial⟩) (fun hg => av_move rfl)
  · exact ob_v ⟨rfl, rfl, rfl, _, rfl, rfl⟩ (fun hg => allT_of ⟨rfl, trivial⟩) (fun hg => av_move rfl)
  · exact ob_v ⟨rfl, rfl, rfl, _, rfl, rfl⟩ (fun hg => allT_of ⟨rfl, trivial⟩) (fun hg => av_move rfl)
  · exact ob_v ⟨rfl, rfl, rfl, _, rfl, rfl⟩ (fun hg => allT_of ⟨hg, hg, rfl, trivial⟩) (fun hg => av_ia_sl (t := Y1) (e := ((ix p0 p1).getD default)) und22 sz39 rfl rfl (get_g h4 hg))
  · exact ob_v ⟨rfl, rfl, rfl, _, rfl, rfl⟩ (fun hg => allT_of ⟨hg, rfl, trivial⟩) (fun hg => av_fa_rp fa39_2 rfl rfl)
  · exact ob_v ⟨rfl, rfl, rfl, _, rfl, rfl⟩ (fun hg => allT_of ⟨hg, rfl, trivial⟩) (fun hg => av_load_rp ts3 rfl)
  · exact ob_v ⟨rfl, rfl, rfl, _, rfl, rfl⟩ (fun hg => allT_of ⟨rfl, trivial⟩) (fun hg => av_move rfl)
  · exact ob_v ⟨rfl, rfl, rfl, _, rfl, rfl⟩ (fun hg => allT_of ⟨rfl, trivial⟩) (fun hg => av_move rfl)
  · exact ob_v ⟨rfl, rfl, rfl, _, rfl, rfl⟩ (fun hg => allT_of ⟨hg, hg, rfl, trivial⟩) (fun hg => av_ia_sl (t := Y1) (e := ((ix p0 p2).getD default)) und22 sz39 rfl rfl (get_g h5 hg))
  · exact ob_v ⟨rfl, rfl, rfl, _, rfl, rfl⟩ (fun hg => allT_of ⟨hg, rfl, trivial⟩) (fun hg => av_fa_rp fa39_2 rfl rfl)
  · exact ob_v ⟨rfl, rfl, rfl, _, rfl, rfl⟩ (fun hg => allT_of ⟨hg, rfl, trivial⟩) (fun hg => av_load_rp ts3 rfl)
  · exact ob_v ⟨rfl, rfl, rfl, _, rfl, rfl⟩ (fun hg => allT_of ⟨hg, hg, rfl, trivial⟩) (fun hg => av_eql rfl rfl)
  · exact ob_pick (b := true) (p := (decide (x1.2.1 = 2)) && (decide ((((((ix p0 p2).getD default)).2).1) = 3))) (q := decide (((((((ix p0 p1).getD default)).2).2).1) = ((((((ix p0 p2).getD default)).2).2).1))) rfl rfl rfl (fun hg => allT_of ⟨rfl, trivial⟩) rfl rfl rfl rfl rfl
  refine athen_norm ?_
  refine awc_cond (b := ((decide (x1.2.1 = 2)) && (decide ((((((ix p0 p2).getD default)).2).1) = 3))) && (decide (((((((ix p0 p1).getD default)).2).2).1) = ((((((ix p0 p2).getD default)).2).2).1)))) rfl (fun hc6 => ?_) (fun hc6 => ?_)
  · have hr := if_t hc6 hr
    refine awc_seq ?_
    refine awc_region ?_
    refine awl_v (av_assign rfl) ?_
    have hr := Option.some.inj hr
    subst hr
    exact awl_nil (athen_norm (awc_ret (athen_ret (ret_q (l' := [(6, .bool true)]) (wk_of hX [] 4 rfl rfl ⟨⟨_, rfl, cv0⟩, trivial⟩ trivial) rfl ⟨rfl, trivial⟩))))
  · have hr := if_f hc6 hr
    refine awc_skip (athen_norm (awc_seq (awc_seq ?_)))
    obtain ⟨h7, hr⟩ := chk_some hr
    obtain ⟨h8, hr⟩ := chk_some hr
    refine awc_draw mixed [0, 1, 2, 6] [(true, .int .i64 p1), (true, .int .i64 p2), (true, .bool (decide (p2 ≤ p1))), (true, .bool (decide (p2 ≤ p1))), (!(decide (p2 ≤ p1)), .sl Y1 p0), (!(decide (p2 ≤ p1)), .int .i64 p1), (!(decide (p2 ≤ p1)), .rp [.int .i64 ((((ix p0 p1).getD default)).1), .int .i64 (((((ix p0 p1).getD default)).2).1), .int .i64 ((((((ix p0 p1).getD default)).2).2).1), .int .i64 (((((((ix p0 p1).getD default)).2).2).2).1), .str (((((((ix p0 p1).getD default)).2).2).2).2)]), (!(decide (p2 ≤ p1)), .rp [.int .i64 ((((ix p0 p1).getD default)).1), .int .i64 (((((ix p0 p1).getD default)).2).1), .int .i64 ((((((ix p0 p1).getD default)).2).2).1), .int .i64 (((((((ix p0 p1).getD default)).2).2).2).1), .str (((((((ix p0 p1).getD default)).2).2).2).2)]), (!(decide (p2 ≤ p1)), .int .i64 ((((ix p0 p1).getD default)).1)), (!(decide (p2 ≤ p1)), .sl Y1 p0), (!(decide (p2 ≤ p1)), .int .i64 p2), (!(decide (p2 ≤ p1)), .rp [.int .i64 ((((ix p0 p2).getD default)).1), .int .i64 (((((ix p0 p2).getD default)).2).1), .int .i64 ((((((ix p0 p2).getD default)).2).2).1), .int .i64 (((((((ix p0 p2).getD default)).2).2).2).1), .str (((((((ix p0 p2).getD default)).2).2).2).2)]), (!(decide (p2 ≤ p1)), .rp [.int .i64 ((((ix p0 p2).getD default)).1), .int .i64 (((((ix p0 p2).getD default)).2).1), .int .i64 ((((((ix p0 p2).getD default)).2).2).1), .int .i64 (((((((ix p0 p2).getD default)).2).2).2).1), .str (((((((ix p0 p2).getD default)).2).2).2).2)]), (!(decide (p2 ≤ p1)), .int .i64 ((((ix p0 p2).getD default)).1)), (!(decide (p2 ≤ p1)), .bool (!decide (((((ix p0 p1).getD default)).1) = ((((ix p0 p2).getD default)).1)))), (true, .bool ((decide (p2 ≤ p1)) || (!decide (((((ix p0 p1).getD default)).1) = ((((ix p0 p2).getD default)).1)))))] [[], [], [0, 1], [2], [3], [3], [4, 5, 3], [6, 3], [7, 3], [3], [3], [9, 10, 3], [11, 3], [12, 3], [8, 13, 3], [14, 3]] [15] rfl rfl rfl rfl rfl ⟨?_, ?_, ?_, ?_, ?_, ?_, ?_, ?_, ?_, ?_, ?_, ?_, ?_, ?_, ?_, ?_, trivial⟩ (allT_of ⟨rfl, trivial⟩) ?_
    · exact ob_v rfl (fun hg => allT_of trivial) (fun hg => av_move rfl)
    · exact ob_v rfl (fun hg => allT_of trivial) (fun hg => av_move rfl)
    · exact ob_v rfl (fun hg => allT_of ⟨rfl, rfl, trivial⟩) (fun hg => av_geq rfl rfl)
    · exact ob_v rfl (fun hg => allT_of ⟨rfl, trivial⟩) (fun hg => av_move rfl)
    · exact ob_v ⟨rfl, rfl, rfl, _, rfl, rfl⟩ (fun hg => allT_of ⟨rfl, trivial⟩) (fun hg => av_move rfl)
    · exact ob_v ⟨rfl, rfl, rfl, _, rfl, rfl⟩ (fun hg => allT_of ⟨rfl, trivial⟩) (fun hg => av_move rfl)
    · exact ob_v ⟨rfl, rfl, rfl, _, rfl, rfl⟩ (fun hg => allT_of ⟨hg, hg, rfl, trivial⟩) (fun hg => av_ia_sl (t := Y1) (e := ((ix p0 p1).getD default)) und22 sz39 rfl rfl (get_g h7 hg))
    · exact ob_v ⟨rfl, rfl, rfl, _, rfl, rfl⟩ (fun hg => allT_of ⟨hg, rfl, trivial⟩) (fun hg => av_fa_rp fa39_0 rfl rfl)
    · exact ob_v ⟨rfl, rfl, rfl, _, rfl, rfl⟩ (fun hg => allT_of ⟨hg, rfl, trivial⟩) (fun hg => av_load_rp ts3 rfl)
    · exact ob_v ⟨rfl, rfl, rfl, _, rfl, rfl⟩ (fun hg => allT_of ⟨rfl, trivial⟩) (fun hg => av_move rfl)
    · exact ob_v ⟨rfl, rfl, rfl, _, rfl, rfl⟩ (fun hg => allT_of ⟨rfl, trivial⟩) (fun hg => av_move rfl)
    · exact ob_v ⟨rfl, rfl, rfl, _, rfl, rfl⟩ (fun hg => allT_of ⟨hg, hg, rfl, trivial⟩) (fun hg => av_ia_sl (t := Y1) (e := ((ix p0 p2).getD default)) und22 sz39 rfl rfl (get_g h8 hg))
    · exact ob_v ⟨rfl, rfl, rfl, _, rfl, rfl⟩ (fun hg => allT_of ⟨hg, rfl, trivial⟩) (fun hg => av_fa_rp fa39_0 rfl rfl)
    · exact ob_v ⟨rfl, rfl, rfl, _, rfl, rfl⟩ (fun hg => allT_of ⟨hg, rfl, trivial⟩) (fun hg => av_load_rp ts3 rfl)
    · exact ob_v ⟨rfl, rfl, rfl, _, rfl, rfl⟩ (fun hg => allT_of ⟨hg, hg, rfl, trivial⟩) (fun hg => av_neq rfl rfl)
    · exact ob_pick (b := false) (p := decide (p2 ≤ p1)) (q := !decide (((((ix p0 p1).getD default)).1) = ((((ix p0 p2).getD default)).1))) rfl rfl rfl (fun hg => allT_of ⟨rfl, trivial⟩) rfl rfl rfl rfl rfl
    refine athen_norm ?_
    refine awc_cond (b := (decide (p2 ≤ p1)) || (!decide (((((ix p0 p1).getD default)).1) = ((((ix p0 p2).getD default)).1)))) rfl (fun hc9 => ?_) (fun hc9 => ?_)
    · have hr := if_t hc9 hr
      refine awc_seq ?_
      refine awc_region ?_
      refine awl_v (av_assign rfl) ?_
      have hr := Option.some.inj hr
      subst hr
      exact awl_nil (athen_norm (awc_ret (athen_ret (ret_q (l' := [(6, .bool false)]) (wk_of hX [] 4 rfl rfl ⟨⟨_, rfl, cv0⟩, trivial⟩ trivial) rfl ⟨rfl, trivial⟩))))
    · have hr := if_f hc9 hr
      refine awc_skip (athen_norm (awc_seq (awc_seq ?_)))
      refine awc_region ?_
      refine awl_v (av_move rfl) ?_
      refine awl_v (av_move rfl) ?_
      refine awl_v (av_add rfl rfl) ?_
      refine awl_v (av_move rfl) ?_
      obtain ⟨h10, hr⟩ := chk_some hr
      refine awl_v (av_slice_sl (t := Y1) (l := (w64 (p1 + 1))) (h := p2) und22 sz39 rfl ⟨_, rfl⟩ ⟨_, rfl⟩ h10) ?_
      refine awl_v (av_len_sl (t := Y1) rfl rfl und22 rfl) ?_
      refine awl_v (av_move rfl) ?_
      refine awl_nil (athen_norm (awc_block ?_))
      obtain ⟨o13, e14, hr⟩ := bnd_some hr
      refine awc_len (t := 56) rfl (fun hl => ?_)
      refine awc_range (S := Unit) (R := Unit) (List.length ((p0.take (Int.toNat p2)).drop (Int.toNat (w64 (p1 + 1)))) : Int) (f56_b0 p0 p1 p2) (fun p => match p with | (i11, ()) => (⟨[(0, .sl Y1 p0), (1, .int .i64 p1), (6, .bool false), (56, .sl Y1 ((p0.take (Int.toNat p2)).drop (Int.toNat (w64 (p1 + 1))))), (57, .int .i64 (List.length ((p0.take (Int.toNat p2)).drop (Int.toNat (w64 (p1 + 1)))) : Int)), (58, .int .i64 i11)], [], 0⟩ : AS)) (fun o e st => match o with | .inl () => e = .exit 0 ∧ Wk X st ⟨[(6, .bool false)], [], 0⟩ | .inr () => e = .ret ∧ Wk X st ⟨[(6, .bool false)], [], 0⟩) (len_ok hl) e14 (wk_of hX [] 4 rfl rfl ⟨⟨_, rfl, cv0⟩, ⟨_, rfl, cv0⟩, ⟨_, rfl, cv0⟩, ⟨_, rfl, cv0⟩, ⟨_, rfl, cv0⟩, ⟨_, rfl, cv0⟩, trivial⟩ trivial) ?_ ?_
      · intro e st hx
        rcases o13 with _ | _
        · obtain ⟨rfl, hw⟩ := hx
          refine ablock_here (athen_norm ((awc_wk hw) (awc_seq ?_)))
          refine awc_region ?_
          refine awl_v (av_assign rfl) ?_
          have hr := Option.some.inj hr
          subst hr
          exact awl_nil (athen_norm (awc_ret (ret_q (l' := [(6, .bool true)]) (wk_of hX [] 4 rfl rfl ⟨⟨_, rfl, cv0⟩, trivial⟩ trivial) rfl ⟨rfl, trivial⟩)))
        · obtain ⟨rfl, hw⟩ := hx
          have hr := Option.some.inj hr
          subst hr
          exact ablock_ret (athen_ret (ret_q (l' := [(6, .bool false)]) (Wk.trans hw (wk_of hX [] 4 rfl rfl ⟨⟨_, rfl, cv0⟩, trivial⟩ trivial)) rfl ⟨rfl, trivial⟩))
      · rintro i11 _ o ho
        refine awc_seq ?_
        refine awc_region ?_
        refine awl_v (av_lss rfl rfl) ?_
        refine awl_nil (athen_norm (awc_seq ?_))
        refine awc_cond (b := decide (i11 < (List.length ((p0.take (Int.toNat p2)).drop (Int.toNat (w64 (p1 + 1)))) : Int))) rfl (fun hc15 => ?_) (fun hc15 => ?_)
        · obtain ⟨q, hr, rfl⟩ := rb_t hc15 ho
          refine awc_skip (athen_norm (awc_seq (awc_block (awc_seq ?_))))
          refine awc_region ?_
          obtain ⟨x16, e17, hr⟩ := bnd_some hr
          refine awl_v (av_ia_sl (t := Y1) (e := x16) und22 sz39 rfl rfl e17) ?_
          refine awl_v (av_load_rpN ts39 rfl rfl rfl) ?_
          refine awl_op (aop_alloc zero39 rfl ?_)
          refine awl_op (aop_store sz39 rfl rfl rfl rfl rfl rfl rfl ?_)
          refine awl_nil (athen_norm (awc_seq ?_))
          obtain ⟨x18, e19, hr⟩ := bnd_some hr
          refine awc_draw mixed [0, 1, 6, 56, 57, 58, 8] [(true, .ptr 0 0), (true, .int .i64 x16.1), (true, .sl Y1 p0), (true, .int .i64 p1), (true, .rp [.int .i64 x18.1, .int .i64 x18.2.1, .int .i64 x18.2.2.1, .int .i64 x18.2.2.2.1, .str x18.2.2.2.2]), (true, .rp [.int .i64 x18.1, .int .i64 x18.2.1, .int .i64 x18.2.2.1, .int .i64 x18.2.2.2.1, .str x18.2.2.2.2]), (true, .int .i64 x18.1), (true, .bool (decide (x16.1 = x18.1)))] [[], [0], [], [], [2, 3], [4], [5], [1, 6]] [7] rfl rfl rfl rfl rfl ⟨?_, ?_, ?_, ?_, ?_, ?_, ?_, ?_, trivial⟩ (allT_of ⟨rfl, trivial⟩) ?_
          · exact ob_v rfl (fun hg => allT_of trivial) (fun hg => av_fa_ptr fa39_0 rfl rfl)
          · exact ob_v rfl (fun hg => allT_of ⟨rfl, trivial⟩) (fun hg => av_load_ptr ts3 rfl rfl rfl)
          · exact ob_v rfl (fun hg => allT_of trivial) (fun hg => av_move rfl)
          · exact ob_v rfl (fun hg => allT_of trivial) (fun hg => av_move rfl)
          · exact ob_v rfl (fun hg => allT_of ⟨rfl, rfl, trivial⟩) (fun hg => av_ia_sl (t := Y1) (e := x18) und22 sz39 rfl rfl e19)
          · exact ob_v rfl (fun hg => allT_of ⟨rfl, trivial⟩) (fun hg => av_fa_rp fa39_0 rfl rfl)
          · exact ob_v rfl (fun hg => allT_of ⟨rfl, trivial⟩) (fun hg => av_load_rp ts3 rfl)
          · exact ob_v rfl (fun hg => allT_of ⟨rfl, rfl, trivial⟩) (fun hg => av_eql rfl rfl)
          refine athen_norm ?_
          refine awc_cond (b := decide (x16.1 = x18.1)) rfl (fun hc20 => ?_) (fun hc20 => ?_)
          · have hr := if_t hc20 hr
            refine awc_seq ?_
            refine awc_region ?_
            refine awl_v (av_assign rfl) ?_
            have hr := Option.some.inj hr
            subst hr
            exact awl_nil (athen_norm (awc_ret (ablock_ret (athen_ret (⟨rfl, (wk_of hX [] 4 rfl rfl ⟨⟨_, rfl, cv0⟩, trivial⟩ trivial)⟩)))))
          · have hr := if_f hc20 hr
            refine awc_skip (ablock_norm (athen_norm ?_))
            refine awc_region ?_
            refine awl_v (av_add rfl rfl) ?_
            refine awl_v (av_move rfl) ?_
            have hr := Option.some.inj hr
            subst hr
            exact awl_nil ((wk_of hX [] 4 rfl rfl ⟨⟨_, rfl, cv0⟩, ⟨_, rfl, cv0⟩, ⟨_, rfl, cv0⟩, ⟨_, rfl, cv0⟩, ⟨_, rfl, cv0⟩, ⟨_, rfl, cv0⟩, trivial⟩ trivial))
        · obtain rfl := rb_f hc15 ho
          exact awc_exit (athen_exit (⟨rfl, (wk_of hX [] 4 rfl rfl ⟨⟨_, rfl, cv0⟩, trivial⟩ trivial)⟩))
theorem f23_runs {p0 : List (Int × Int × Int × Int × Str)} {r : List (List Bool)} (hr : f23 p0 = some r) : RunsP Tryz.prog 26 [.sl Y1 p0] [.sl (.slice .bool) r] := by
  refine runs_w Tryz.func26 Tryz.ntmps26 rfl (rs := [.tmp 2]) rfl rfl fun w0 X hX => ?_
  refine awc_seq ?_
  refine awc_region ?_
  refine awl_v (av_assign rfl) ?_
  refine awl_nil (athen_norm (awc_seq ?_))
  refine awc_region ?_
  refine awl_v (av_move rfl) ?_
  refine awl_v (av_len_sl (t := Y1) rfl rfl und22 rfl) ?_
  obtain ⟨h1, hr⟩ := chk_some hr
  refine awl_op (aop_makeO (t := .bool) 4 und56 zt101 rfl rfl h1 rfl ?_)
  refine awl_v (av_assign rfl) ?_
  refine awl_nil (athen_norm (awc_seq (awc_seq ?_)))
  refine awc_region ?_
  refine awl_v (av_move rfl) ?_
  refine awl_v (av_len_sl (t := Y1) rfl rfl und22 rfl) ?_
  refine awl_v (av_move rfl) ?_
  refine awl_nil (athen_norm (awc_block ?_))
  obtain ⟨o7, e8, hr⟩ := bnd_some hr
  refine awc_len (t := 0) rfl (fun hl => ?_)
  refine awc_range (S := List (List Bool)) (R := Unit) (List.length p0 : Int) (f23_b0 p0) (fun p => match p with | (i2, s4) => (⟨[(0, .sl Y1 p0), (2, .nils), (3, .sog 0), (11, .int .i64 (List.length p0 : Int)), (12, .int .i64 i2)], [(0, .slo 101 4 .bool s4)], 1⟩ : AS)) (fun o e st => match o with | .inr _ => False | .inl s4 => e = .exit 0 ∧ Wk X st ⟨[(2, .nils), (3, .sog 0)], [(0, .slo 101 4 .bool s4)], 1⟩) (len_ok hl) e8 (wk_of hX [0] 4 rfl rfl ⟨⟨_, rfl, cv0⟩, ⟨_, rfl, cv0⟩, ⟨_, rfl, cv0⟩, ⟨_, rfl, cv0⟩, ⟨_, rfl, cv0⟩, trivial⟩ ⟨cvo0, trivial⟩) ?_ ?_
  · intro e st hx
    rcases o7 with s4 | _
    · obtain ⟨rfl, hw⟩ := hx
      refine ablock_here (athen_norm ((awc_wk hw) (awc_seq ?_)))
      refine awc_region ?_
      refine awl_v (av_move rfl) ?_
      refine awl_v (av_assign rfl) ?_
      have hr := Option.some.inj hr
      subst hr
      exact awl_nil (athen_norm (awc_ret (ret_q (l' := [(2, .sl (.slice .bool) s4)]) (wk_of hX [] 4 rfl rfl ⟨⟨_, rfl, cv0⟩, trivial⟩ trivial) rfl ⟨rfl, trivial⟩)))
    · exact hx.elim
  · rintro i2 s4 o ho
    refine awc_seq ?_
    refine awc_region ?_
    refine awl_v (av_lss rfl rfl) ?_
    refine awl_nil (athen_norm (awc_seq ?_))
    refine awc_cond (b := decide (i2 < (List.length p0 : Int))) rfl (fun hc9 => ?_) (fun hc9 => ?_)
    · obtain ⟨q, hr, rfl⟩ := rb_t hc9 ho
      refine awc_skip (athen_norm (awc_seq (awc_block (awc_seq ?_))))
      refine awc_region ?_
      refine awl_v (av_move rfl) ?_
      refine awl_v (av_assign rfl) ?_
      refine awl_nil (athen_norm (awc_seq ?_))
      refine awc_region ?_
      refine awl_v (av_move rfl) ?_
      refine awl_v (av_move rfl) ?_
      refine awl_v (av_move rfl) ?_
      refine awl_v (av_len_sl (t := Y1) rfl rfl und22 rfl) ?_
      obtain ⟨h10, hr⟩ := chk_some hr
      refine awl_op (aop_make (t := .bool) und101 zt4 rfl rfl h10 rfl ?_)
      obtain ⟨x11, e12, hr⟩ := bnd_some hr
      refine awl_v (av_ia_sog (t := .bool) und56 sz101 rfl rfl rfl e12) ?_
      refine awl_op (aop_store_epg (l' := [(0, .sl Y1 p0), (2, .nils), (3, .sog 0), (11, .int .i64 (List.length p0 : Int)), (12, .int .i64 i2), (13, .bool (decide (i2 < (List.length p0 : Int)))), (14, .int .i64 i2), (4, .int .i64 i2), (15, .sog 0), (16, .int .i64 i2), (17, .sl Y1 p0), (18, .int .i64 (List.length p0 : Int)), (19, .osl 1), (20, .epg 0 (Int.toNat i2))]) sz101 rfl rfl rfl rfl (ix_at e12) (by rw [hX]; rfl) rfl ⟨⟨rfl, rfl⟩, ⟨rfl, rfl⟩, ⟨rfl, rfl⟩, ⟨rfl, rfl⟩, ⟨rfl, rfl⟩, ⟨rfl, rfl⟩, ⟨rfl, rfl⟩, ⟨rfl, rfl⟩, ⟨rfl, rfl⟩, ⟨rfl, rfl⟩, ⟨rfl, rfl⟩, ⟨rfl, rfl⟩, ⟨rfl, rfl⟩, ⟨rfl, rfl⟩, trivial⟩ rfl ?_)
      refine awl_nil (athen_norm (awc_seq ?_))
      refine awc_region ?_
      refine awl_v (av_move rfl) ?_
      refine awl_v (av_move rfl) ?_
      refine awl_nil (athen_norm (awc_block ?_))
      obtain ⟨h18, hr⟩ := chk_some hr
      obtain ⟨o19, e20, hr⟩ := bnd_some hr
      refine awc_range (S := List (List Bool)) (R := Unit) i2 (f23_b1 p0 i2) (fun p => match p with | (i13, s15) => (⟨[(0, .sl Y1 p0), (2, .nils), (3, .sog 0), (4, .int .i64 i2), (11, .int .i64 (List.length p0 : Int)), (12, .int .i64 i2), (21, .int .i64 i2), (22, .int .i64 i13)], [(0, .slo 101 4 .bool s15)], 1⟩ : AS)) (fun o e st => match o with | .inr _ => False | .inl s15 => e = .exit 2 ∧ Wk X st ⟨[(0, .sl Y1 p0), (2, .nils), (3, .sog 0), (11, .int .i64 (List.length p0 : Int)), (12, .int .i64 i2)], [(0, .slo 101 4 .bool s15)], 1⟩) (of_decide_eq_true h18) e20 (wk_of hX [0] 4 rfl rfl ⟨⟨_, rfl, cv0⟩, ⟨_, rfl, cv0⟩, ⟨_, rfl, cv0⟩, ⟨_, rfl, cv0⟩, ⟨_, rfl, cv0⟩, ⟨_, rfl, cv0⟩, ⟨_, rfl, cv0⟩, ⟨_, rfl, cv0⟩, trivial⟩ ⟨cvo0, trivial⟩) ?_ ?_
      · intro e st hx
        rcases o19 with s15 | _
        · obtain ⟨rfl, hw⟩ := hx
          refine ablock_here (ablock_norm (athen_norm ((awc_wk hw) ?_)))
          refine awc_region ?_
          refine awl_v (av_add rfl rfl) ?_
          refine awl_v (av_move rfl) ?_
          have hr := Option.some.inj hr
          subst hr
          exact awl_nil ((wk_of hX [0] 4 rfl rfl ⟨⟨_, rfl, cv0⟩, ⟨_, rfl, cv0⟩, ⟨_, rfl, cv0⟩, ⟨_, rfl, cv0⟩, ⟨_, rfl, cv0⟩, trivial⟩ ⟨cvo0, trivial⟩))
        · exact hx.elim
      · rintro i13 s15 o ho
        refine awc_seq ?_
        refine awc_region ?_
        refine awl_v (av_lss rfl rfl) ?_
        refine awl_nil (athen_norm (awc_seq ?_))
        refine awc_cond (b := decide (i13 < i2)) rfl (fun hc21 => ?_) (fun hc21 => ?_)
        · obtain ⟨q, hr, rfl⟩ := rb_t hc21 ho
          refine awc_skip (athen_norm ?_)
          obtain ⟨o23, e24, hr⟩ := bnd_some hr
          refine awc_join (S := List (List Bool)) (R := Unit) (fun s => match s with | s22 => (⟨[(0, .sl Y1 p0), (2, .nils), (3, .sog 0), (4, .int .i64 i2), (11, .int .i64 (List.length p0 : Int)), (12, .int .i64 i2), (21, .int .i64 i2), (22, .int .i64 i13)], [(0, .slo 101 4 .bool s22)], 1⟩ : AS)) (fun _ _ _ => False) e24 (fun hr => ?_) ?_ ?_
          · refine awc_block (awc_seq ?_)
            refine awc_region ?_
            refine awl_v (av_move rfl) ?_
            refine awl_v (av_assign rfl) ?_
            refine awl_nil (athen_norm (awc_seq (awc_seq ?_)))
            refine awc_region ?_
            refine awl_v (av_move rfl) ?_
            refine awl_v (av_move rfl) ?_
            refine awl_v (av_move rfl) ?_
            obtain ⟨x25, e26, hr⟩ := bnd_some hr
            refine awl_v (av_call (f56_runs e26).x ent53 rfl rfl) ?_
            refine awl_v (av_not rfl) ?_
            refine awl_nil (athen_norm ?_)
            refine awc_cond (b := !x25) rfl (fun hc27 => ?_) (fun hc27 => ?_)
            · have hr := if_t hc27 hr
              have hr := Option.some.inj hr
              subst hr
              exact awc_exit (athen_exit (ablock_here ((wk_of hX [0] 4 rfl rfl ⟨⟨_, rfl, cv0⟩, ⟨_, rfl, cv0⟩, ⟨_, rfl, cv0⟩, ⟨_, rfl, cv0⟩, ⟨_, rfl, cv0⟩, ⟨_, rfl, cv0⟩, ⟨_, rfl, cv0⟩, ⟨_, rfl, cv0⟩, trivial⟩ ⟨cvo0, trivial⟩))))
            · have hr := if_f hc27 hr
              refine awc_skip (athen_norm (awc_seq ?_))
              refine awc_region ?_
              refine awl_v (av_move rfl) ?_
              refine awl_v (av_move rfl) ?_
              obtain ⟨x28, e29, hr⟩ := bnd_some hr
              refine awl_v (av_ia_sog (t := .bool) und56 sz101 rfl rfl rfl e29) ?_
              refine awl_v (av_load_epg (t := .bool) ts101 rfl rfl (ix_at e29)) ?_
              refine awl_v (av_move rfl) ?_
              obtain ⟨x30, e31, hr⟩ := bnd_some hr
              refine awl_v (av_ia_row (t := .bool) und101 sz4 rfl rfl rfl (ix_at e29) e31) ?_
              refine awl_op (aop_store_epr (u' := true) sz4 rfl rfl rfl rfl (ix_at e29) (ix_at e31) rfl rfl rfl rfl rfl ?_)
              refine awl_nil (athen_norm (awc_seq ?_))
              refine awc_region ?_
              refine awl_v (av_move rfl) ?_
              refine awl_v (av_move rfl) ?_
              refine awl_nil (athen_norm (awc_block ?_))
              obtain ⟨h37, hr⟩ := chk_some hr
              obtain ⟨o38, e39, hr⟩ := bnd_some hr
              refine awc_range (S := List (List Bool)) (R := Unit) i13 (f23_b2 i2 i13) (fun p => match p with | (i32, s34) => (⟨[(0, .sl Y1 p0), (2, .nils), (3, .sog 0), (4, .int .i64 i2), (5, .int .i64 i13), (11, .int .i64 (List.length p0 : Int)), (12, .int .i64 i2), (21, .int .i64 i2), (22, .int .i64 i13), (36, .int .i64 i13), (37, .int .i64 i32)], [(0, .slo 101 4 .bool s34)], 1⟩ : AS)) (fun o e st => match o with | .inr _ => False | .inl s34 => e = .exit 4 ∧ Wk X st ⟨[(0, .sl Y1 p0), (2, .nils), (3, .sog 0), (4, .int .i64 i2), (11, .int .i64 (List.length p0 : Int)), (12, .int .i64 i2), (21, .int .i64 i2), (22, .int .i64 i13)], [(0, .slo 101 4 .bool s34)], 1⟩) (of_decide_eq_true h37) e39 (wk_of hX [0] 4 rfl rfl ⟨⟨_, rfl, cv0⟩, ⟨_, rfl, cv0⟩, ⟨_, rfl, cv0⟩, ⟨_, rfl, cv0⟩, ⟨_, rfl, cv0⟩, ⟨_, rfl, cv0⟩, ⟨_, rfl, cv0⟩, ⟨_, rfl, cv0⟩, ⟨_, rfl, cv0⟩, ⟨_, rfl, cv0⟩, ⟨_, rfl, cv0⟩, trivial⟩ ⟨cvo0, trivial⟩) ?_ ?_
              · intro e st hx
                rcases o38 with s34 | _
                · obtain ⟨rfl, hw⟩ := hx
                  have hr := Option.some.inj hr
                  subst hr
                  exact ablock_here (ablock_norm ((Wk.trans hw (wk_of hX [0] 4 rfl rfl ⟨⟨_, rfl, cv0⟩, ⟨_, rfl, cv0⟩, ⟨_, rfl, cv0⟩, ⟨_, rfl, cv0⟩, ⟨_, rfl, cv0⟩, ⟨_, rfl, cv0⟩, ⟨_, rfl, cv0⟩, ⟨_, rfl, cv0⟩, trivial⟩ ⟨cvo0, trivial⟩))))
                · exact hx.elim
              · rintro i32 s34 o ho
                refine awc_seq ?_
                refine awc_region ?_
                refine awl_v (av_lss rfl rfl) ?_
                refine awl_nil (athen_norm (awc_seq ?_))
                refine awc_cond (b := decide (i32 < i13)) rfl (fun hc40 => ?_) (fun hc40 => ?_)
                · obtain ⟨q, hr, rfl⟩ := rb_t hc40 ho
                  refine awc_skip (athen_norm (awc_seq (awc_block (awc_seq ?_))))
                  refine awc_region ?_
                  refine awl_v (av_move rfl) ?_
                  refine awl_v (av_assign rfl) ?_
                  refine awl_nil (athen_norm ?_)
                  obtain ⟨x41, e42, hr⟩ := bnd_some hr
                  obtain ⟨x43, e44, hr⟩ := bnd_some hr
                  obtain ⟨h45, hr⟩ := chk_some hr
                  obtain ⟨h46, hr⟩ := chk_some hr
                  refine awc_draw_tail2 22 [22, 22, 22, 22, 22, 22, 22, 22, 22, 22, 22, 22, 22, 22, 22, 22, 22, 22, 22, 22, 22, 22] mixed [0, 2, 3, 4, 5, 11, 12, 21, 22, 36, 37, 6] [(true, .sog 0), (true, .int .i64 i2), (true, .epg 0 (Int.toNat i2)), (true, .row 0 (Int.toNat i2)), (true, .int .i64 i32), (true, .sog 0), (true, .int .i64 i2), (true, .epg 0 (Int.toNat i2)), (true, .row 0 (Int.toNat i2)), (true, .int .i64 i32), (true, .epr 0 (Int.toNat i2) 1 (Int.toNat i32) 0), (true, .bool x43), (true, .bool x43), (!x43, .sog 0), (!x43, .int .i64 i13), (!x43, .epg 0 (Int.toNat i13)), (!x43, .row 0 (Int.toNat i13)), (!x43, .int .i64 i32), (!x43, .epr 0 (Int.toNat i13) 1 (Int.toNat i32) 0), (!x43, .bool ((ix ((ix s34 i13).getD default) i32).getD default)), (true, .bool (x43 || ((ix ((ix s34 i13).getD default) i32).getD default))), (true, .epr 0 (Int.toNat i2) 1 (Int.toNat i32) 0)] [[], [], [0, 1], [2], [], [], [], [5, 6], [7], [], [8, 9], [10], [11], [12], [12], [13, 14, 12], [15, 12], [12], [16, 17, 12], [18, 12], [19, 12], [3, 4]] [20, 21] rfl rfl rfl rfl rfl rfl rfl rfl ⟨?_, ?_, ?_, ?_, ?_, ?_, ?_, ?_, ?_, ?_, ?_, ?_, ?_, ?_, ?_, ?_, ?_, ?_, ?_, ?_, ?_, ?_, trivial⟩ (allT_of ⟨rfl, rfl, trivial⟩) ?_
                  · exact ob_v rfl (fun hg => allT_of trivial) (fun hg => av_move rfl)
                  · exact ob_v rfl (fun hg => allT_of trivial) (fun hg => av_move rfl)
                  · exact ob_v rfl (fun hg => allT_of ⟨rfl, rfl, trivial⟩) (fun hg => av_ia_sog (t := .bool) und56 sz101 rfl rfl rfl e42)
                  · exact ob_v rfl (fun hg => allT_of ⟨rfl, trivial⟩) (fun hg => av_load_epg (t := .bool) ts101 rfl rfl (ix_at e42))
                  · exact ob_v rfl (fun hg => allT_of trivial) (fun hg => av_move rfl)
                  · exact ob_v rfl (fun hg => allT_of trivial) (fun hg => av_move rfl)
                  · exact ob_v rfl (fun hg => allT_of trivial) (fun hg => av_move rfl)
                  · exact ob_v rfl (fun hg => allT_of ⟨rfl, rfl, trivial⟩) (fun hg => av_ia_sog (t := .bool) und56 sz101 rfl rfl rfl e42)
                  · exact ob_v rfl (fun hg => allT_of ⟨rfl, trivial⟩) (fun hg => av_load_epg (t := .bool) ts101 rfl rfl (ix_at e42))
                  · exact ob_v rfl (fun hg => allT_of trivial) (fun hg => av_move rfl)
                  · exact ob_v rfl (fun hg => allT_of ⟨rfl, rfl, trivial⟩) (fun hg => av_ia_row (t := .bool) und101 sz4 rfl rfl rfl (ix_at e42) e44)
                  · exact ob_v rfl (fun hg => allT_of ⟨rfl, trivial⟩) (fun hg => av_load_epr (t := .bool) ts4 rfl rfl rfl (ix_at e42) (ix_at e44) rfl)
                  · exact ob_v rfl (fun hg => allT_of ⟨rfl, trivial⟩) (fun hg => av_move rfl)
                  · exact ob_v ⟨rfl, rfl, rfl, _, rfl, rfl⟩ (fun hg => allT_of ⟨rfl, trivial⟩) (fun hg => av_move rfl)
                  · exact ob_v ⟨rfl, rfl, rfl, _, rfl, rfl⟩ (fun hg => allT_of ⟨rfl, trivial⟩) (fun hg => av_move rfl)
                  · exact ob_v ⟨rfl, rfl, rfl, _, rfl, rfl⟩ (fun hg => allT_of ⟨hg, hg, rfl, trivial⟩) (fun hg => av_ia_sog (t := .bool) und56 sz101 rfl rfl rfl (get_g h45 hg))
                  · exact ob_v ⟨rfl, rfl, rfl, _, rfl, rfl⟩ (fun hg => allT_of ⟨hg, rfl, trivial⟩) (fun hg => av_load_epg (t := .bool) ts101 rfl rfl (ix_at (get_g h45 hg)))
                  · exact ob_v ⟨rfl, rfl, rfl, _, rfl, rfl⟩ (fun hg => allT_of ⟨rfl, trivial⟩) (fun hg => av_move rfl)
                  · exact ob_v ⟨rfl, rfl, rfl, _, rfl, rfl⟩ (fun hg => allT_of ⟨hg, hg, rfl, trivial⟩) (fun hg => av_ia_row (t := .bool) und101 sz4 rfl rfl rfl (ix_at (get_g h45 hg)) (get_g h46 hg))
                  · exact ob_v ⟨rfl, rfl, rfl, _, rfl, rfl⟩ (fun hg => allT_of ⟨hg, rfl, trivial⟩) (fun hg => av_load_epr (t := .bool) ts4 rfl rfl rfl (ix_at (get_g h45 hg)) (ix_at (get_g h46 hg)) rfl)
                  · exact ob_pick (b := false) (p := x43) (q := ((ix ((ix s34 i13).getD default) i32).getD default)) rfl rfl rfl (fun hg => allT_of ⟨rfl, trivial⟩) rfl rfl rfl rfl rfl
                  · exact ob_v rfl (fun hg => allT_of ⟨rfl, rfl, trivial⟩) (fun hg => av_ia_row (t := .bool) und101 sz4 rfl rfl rfl (ix_at e42) e44)
                  refine awl_op (aop_store_epr (u' := x43 || ((ix ((ix s34 i13).getD default) i32).getD default)) sz4 rfl rfl rfl rfl (ix_at e42) (ix_at e44) rfl rfl rfl rfl rfl ?_)
                  refine awl_nil (ablock_norm (athen_norm ?_))
                  refine awc_region ?_
                  refine awl_v (av_add rfl rfl) ?_
                  refine awl_v (av_move rfl) ?_
                  have hr := Option.some.inj hr
                  subst hr
                  exact awl_nil ((wk_of hX [0] 4 rfl rfl ⟨⟨_, rfl, cv0⟩, ⟨_, rfl, cv0⟩, ⟨_, rfl, cv0⟩, ⟨_, rfl, cv0⟩, ⟨_, rfl, cv0⟩, ⟨_, rfl, cv0⟩, ⟨_, rfl, cv0⟩, ⟨_, rfl, cv0⟩, ⟨_, rfl, cv0⟩, ⟨_, rfl, cv0⟩, ⟨_, rfl, cv0⟩, trivial⟩ ⟨cvo0, trivial⟩))
                · obtain rfl := rb_f hc40 ho
                  exact awc_exit (athen_exit (⟨rfl, (wk_of hX [0] 4 rfl rfl ⟨⟨_, rfl, cv0⟩, ⟨_, rfl, cv0⟩, ⟨_, rfl, cv0⟩, ⟨_, rfl, cv0⟩, ⟨_, rfl, cv0⟩, ⟨_, rfl, cv0⟩, ⟨_, rfl, cv0⟩, ⟨_, rfl, cv0⟩, trivial⟩ ⟨cvo0, trivial⟩)⟩))
          · rintro s22 rfl
            refine awc_region ?_
            refine awl_v (av_add rfl rfl) ?_
            refine awl_v (av_move rfl) ?_
            have hr := Option.some.inj hr
            subst hr
            exact awl_nil ((wk_of hX [0] 4 rfl rfl ⟨⟨_, rfl, cv0⟩, ⟨_, rfl, cv0⟩, ⟨_, rfl, cv0⟩, ⟨_, rfl, cv0⟩, ⟨_, rfl, cv0⟩, ⟨_, rfl, cv0⟩, ⟨_, rfl, cv0⟩, ⟨_, rfl, cv0⟩, trivial⟩ ⟨cvo0, trivial⟩))
          · exact fun r h e st hne hx => hx.elim
        · obtain rfl := rb_f hc21 ho
          exact awc_exit (athen_exit (⟨rfl, (wk_of hX [0] 4 rfl rfl ⟨⟨_, rfl, cv0⟩, ⟨_, rfl, cv0⟩, ⟨_, rfl, cv0⟩, ⟨_, rfl, cv0⟩, ⟨_, rfl, cv0⟩, trivial⟩ ⟨cvo0, trivial⟩)⟩))
    · obtain rfl := rb_f hc9 ho
      exact awc_exit (athen_exit (⟨rfl, (wk_of hX [0] 4 rfl rfl ⟨⟨_, rfl, cv0⟩, ⟨_, rfl, cv0⟩, trivial⟩ ⟨cvo0, trivial⟩)⟩))
theorem f55_runs {p0 : List (Int × Int × Int × Int × Str)} {r : List Int} (hr : f55 p0 = some r) : RunsP Tryz.prog 27 [.sl Y1 p0] [.sl (.int .i64) r] := by
  refine runs_w Tryz.func27 Tryz.ntmps27 rfl (rs := [.tmp 2]) rfl rfl fun w0 X hX => ?_
  refine awc_seq ?_
  refine awc_region ?_
  refine awl_v (av_assign rfl) ?_
  refine awl_nil (athen_norm (awc_seq ?_))
  refine awc_region ?_
  refine awl_v (av_move rfl) ?_
  obtain ⟨x1, e2, hr⟩ := bnd_some hr
  refine awl_v (av_call (f23_runs e2).x ent26 rfl rfl) ?_
  refine awl_v (av_assign rfl) ?_
  refine awl_nil (athen_norm (awc_seq ?_))
  refine awc_region ?_
  refine awl_v (av_move rfl) ?_
  refine awl_v (av_len_sl (t := Y1) rfl rfl und22 rfl) ?_
  obtain ⟨h3, hr⟩ := chk_some hr
  refine awl_op (aop_make (t := (.int .i64)) und47 zt3 rfl rfl h3 rfl ?_)
  refine awl_v (av_assign rfl) ?_
  refine awl_nil (athen_norm (awc_seq (awc_seq ?_)))
  refine awc_region ?_
  refine awl_v (av_move rfl) ?_
  refine awl_v (av_len_sl (t := Y1) rfl rfl und22 rfl) ?_
  refine awl_v (av_move rfl) ?_
  refine awl_nil (athen_norm (awc_block ?_))
  obtain ⟨o9, e10, hr⟩ := bnd_some hr
  refine awc_len (t := 0) rfl (fun hl => ?_)
  refine awc_range (S := List Int) (R := Unit) (List.length p0 : Int) (f55_b0 x1) (fun p => match p with | (i4, s6) => (⟨[(2, .nils), (3, .sl (.slice .bool) x1), (4, .osl 0), (14, .int .i64 (List.length p0 : Int)), (15, .int .i64 i4)], [(0, .sl 3 (.int .i64) s6)], 1⟩ : AS)) (fun o e st => match o with | .inr _ => False | .inl s6 => e = .exit 0 ∧ Wk X st ⟨[(2, .nils), (4, .osl 0)], [(0, .sl 3 (.int .i64) s6)], 1⟩) (len_ok hl) e10 (wk_of hX [0] 4 rfl rfl ⟨⟨_, rfl, cv0⟩, ⟨_, rfl, cv0⟩, ⟨_, rfl, cv0⟩, ⟨_, rfl, cv0⟩, ⟨_, rfl, cv0⟩, trivial⟩ ⟨cvo0, trivial⟩) ?_ ?_
  · intro e st hx
    rcases o9 with s6 | _
    · obtain ⟨rfl, hw⟩ := hx
      refine ablock_here (athen_norm ((awc_wk hw) (awc_seq ?_)))
      refine awc_region ?_
      refine awl_v (av_move rfl) ?_
      refine awl_v (av_assign rfl) ?_
      have hr := Option.some.inj hr
      subst hr
      exact awl_nil (athen_norm (awc_ret (ret_q (l' := [(2, .sl (.int .i64) s6)]) (wk_of hX [] 4 rfl rfl ⟨⟨_, rfl, cv0⟩, trivial⟩ trivial) rfl ⟨rfl, trivial⟩)))
    · exact hx.elim
  · rintro i4 s6 o ho
    refine awc_seq ?_
    refine awc_region ?_
    refine awl_v (av_lss rfl rfl) ?_
    refine awl_nil (athen_norm (awc_seq ?_))
    refine awc_cond (b := decide (i4 < (List.length p0 : Int))) rfl (fun hc11 => ?_) (fun hc11 => ?_)
    · obtain ⟨q, hr, rfl⟩ := rb_t hc11 ho
      refine awc_skip (athen_norm (awc_seq (awc_block (awc_seq ?_))))
      refine awc_region ?_
      refine awl_v (av_move rfl) ?_
      refine awl_v (av_assign rfl) ?_
      refine awl_nil (athen_norm (awc_seq ?_))
      refine awc_region ?_
      refine awl_v (av_move rfl) ?_
      refine awl_v (av_move rfl) ?_
      obtain ⟨x12, e13, hr⟩ := bnd_some hr
      refine awl_v (av_ia_osl (t := (.int .i64)) und47 sz3 rfl rfl rfl e13) ?_
      refine awl_op (aop_store_ep (e' := 1) sz3 rfl rfl rfl rfl (ix_at e13) rfl rfl rfl rfl rfl ?_)
      refine awl_nil (athen_norm (awc_seq ?_))
      refine awc_region ?_
      refine awl_v (av_move rfl) ?_
      refine awl_v (av_move rfl) ?_
      obtain ⟨x14, e15, hr⟩ := bnd_some hr
      refine awl_v (av_ia_sl (t := (.slice .bool)) (e := x14) und56 sz101 rfl rfl e15) ?_
      refine awl_v (av_load_rp ts101 rfl) ?_
      refine awl_v (av_len_sl (t := .bool) rfl rfl und101 rfl) ?_
      refine awl_v (av_move rfl) ?_
      refine awl_nil (athen_norm (awc_block ?_))
      obtain ⟨o21, e22, hr⟩ := bnd_some hr
      refine awc_len (t := 24) rfl (fun hl => ?_)
      refine awc_range (S := List Int) (R := Unit) (List.length x14 : Int) (f55_b1 i4 x14) (fun p => match p with | (i16, s18) => (⟨[(2, .nils), (3, .sl (.slice .bool) x1), (4, .osl 0), (5, .int .i64 i4), (14, .int .i64 (List.length p0 : Int)), (15, .int .i64 i4), (24, .sl .bool x14), (25, .int .i64 (List.length x14 : Int)), (26, .int .i64 i16)], [(0, .sl 3 (.int .i64) s18)], 1⟩ : AS)) (fun o e st => match o with | .inr _ => False | .inl s18 => e = .exit 2 ∧ Wk X st ⟨[(2, .nils), (3, .sl (.slice .bool) x1), (4, .osl 0), (14, .int .i64 (List.length p0 : Int)), (15, .int .i64 i4)], [(0, .sl 3 (.int .i64) s18)], 1⟩) (len_ok hl) e22 (wk_of hX [0] 4 rfl rfl ⟨⟨_, rfl, cv0⟩, ⟨_, rfl, cv0⟩, ⟨_, rfl, cv0⟩, ⟨_, rfl, cv0⟩, ⟨_, rfl, cv0⟩, ⟨_, rfl, cv0⟩, ⟨_, rfl, cv0⟩, ⟨_, rfl, cv0⟩, ⟨_, rfl, cv0⟩, trivial⟩ ⟨cvo0, trivial⟩) ?_ ?_
      · intro e st hx
        rcases o21 with s18 | _
        · obtain ⟨rfl, hw⟩ := hx
          refine ablock_here (ablock_norm (athen_norm ((awc_wk hw) ?_)))
          refine awc_region ?_
          refine awl_v (av_add rfl rfl) ?_
          refine awl_v (av_move rfl) ?_
          have hr := Option.some.inj hr
          subst hr
          exact awl_nil ((wk_of hX [0] 4 rfl rfl ⟨⟨_, rfl, cv0⟩, ⟨_, rfl, cv0⟩, ⟨_, rfl, cv0⟩, ⟨_, rfl, cv0⟩, ⟨_, rfl, cv0⟩, trivial⟩ ⟨cvo0, trivial⟩))
        · exact hx.elim
      · rintro i16 s18 o ho
        refine awc_seq ?_
        refine awc_region ?_
        refine awl_v (av_lss rfl rfl) ?_
        refine awl_nil (athen_norm (awc_seq ?_))
        refine awc_cond (b := decide (i16 < (List.length x14 : Int))) rfl (fun hc23 => ?_) (fun hc23 => ?_)
        · obtain ⟨q, hr, rfl⟩ := rb_t hc23 ho
          refine awc_skip (athen_norm ?_)
          obtain ⟨o25, e26, hr⟩ := bnd_some hr
          refine awc_join (S := List Int) (R := Unit) (fun s => match s with | s24 => (⟨[(2, .nils), (3, .sl (.slice .bool) x1), (4, .osl 0), (5, .int .i64 i4), (14, .int .i64 (List.length p0 : Int)), (15, .int .i64 i4), (24, .sl .bool x14), (25, .int .i64 (List.length x14 : Int)), (26, .int .i64 i16)], [(0, .sl 3 (.int .i64) s24)], 1⟩ : AS)) (fun _ _ _ => False) e26 (fun hr => ?_) ?_ ?_
          · refine awc_block (awc_seq ?_)
            refine awc_region ?_
            refine awl_v (av_move rfl) ?_
            obtain ⟨x27, e28, hr⟩ := bnd_some hr
            refine awl_v (av_ia_sl (t := .bool) (e := x27) und101 sz4 rfl rfl e28) ?_
            refine awl_v (av_load_rp ts4 rfl) ?_
            refine awl_v (av_assign rfl) ?_
            refine awl_v (av_assign rfl) ?_
            refine awl_nil (athen_norm (awc_seq ?_))
            refine awc_region ?_
            refine awl_v (av_move rfl) ?_
            refine awl_nil (athen_norm ?_)
            refine awc_cond (b := x27) rfl (fun hc29 => ?_) (fun hc29 => ?_)
            · have hr := if_t hc29 hr
              obtain ⟨x30, e31, hr⟩ := bnd_some hr
              obtain ⟨x32, e33, hr⟩ := bnd_some hr
              refine awc_draw_tail2 13 [13, 13, 13, 13, 13, 13, 13, 13, 13, 13, 13, 13, 13] mixed [2, 3, 4, 5, 14, 15, 24, 25, 26, 6] [(true, .osl 0), (true, .int .i64 i4), (true, .osl 0), (true, .int .i64 i4), (true, .ep 0 1 (Int.toNat i4) 0), (true, .int .i64 x30), (true, .osl 0), (true, .int .i64 i16), (true, .ep 0 1 (Int.toNat i16) 0), (true, .int .i64 x32), (true, .int .i64 (w64 (x32 + 1))), (true, .int .i64 (max x30 (w64 (x32 + 1)))), (true, .ep 0 1 (Int.toNat i4) 0)] [[], [], [], [], [2, 3], [4], [], [], [6, 7], [8], [9], [5, 10], [0, 1]] [11, 12] rfl rfl rfl rfl rfl rfl rfl rfl ⟨?_, ?_, ?_, ?_, ?_, ?_, ?_, ?_, ?_, ?_, ?_, ?_, ?_, trivial⟩ (allT_of ⟨rfl, rfl, trivial⟩) ?_
              · exact ob_v rfl (fun hg => allT_of trivial) (fun hg => av_move rfl)
              · exact ob_v rfl (fun hg => allT_of trivial) (fun hg => av_move rfl)
              · exact ob_v rfl (fun hg => allT_of trivial) (fun hg => av_move rfl)
              · exact ob_v rfl (fun hg => allT_of trivial) (fun hg => av_move rfl)
              · exact ob_v rfl (fun hg => allT_of ⟨rfl, rfl, trivial⟩) (fun hg => av_ia_osl (t := (.int .i64)) und47 sz3 rfl rfl rfl e31)
              · exact ob_v rfl (fun hg => allT_of ⟨rfl, trivial⟩) (fun hg => av_load_ep ts3 rfl rfl rfl (ix_at e31) rfl)
              · exact ob_v rfl (fun hg => allT_of trivial) (fun hg => av_move rfl)
              · exact ob_v rfl (fun hg => allT_of trivial) (fun hg => av_move rfl)
              · exact ob_v rfl (fun hg => allT_of ⟨rfl, rfl, trivial⟩) (fun hg => av_ia_osl (t := (.int .i64)) und47 sz3 rfl rfl rfl e33)
              · exact ob_v rfl (fun hg => allT_of ⟨rfl, trivial⟩) (fun hg => av_load_ep ts3 rfl rfl rfl (ix_at e33) rfl)
              · exact ob_v rfl (fun hg => allT_of ⟨rfl, trivial⟩) (fun hg => av_add rfl rfl)
              · exact ob_v rfl (fun hg => allT_of ⟨rfl, rfl, trivial⟩) (fun hg => av_max rfl rfl rfl)
              · exact ob_v rfl (fun hg => allT_of ⟨rfl, rfl, trivial⟩) (fun hg => av_ia_osl (t := (.int .i64)) und47 sz3 rfl rfl rfl e31)
              refine awl_op (aop_store_ep (e' := (max x30 (w64 (x32 + 1)))) sz3 rfl rfl rfl rfl (ix_at e31) rfl rfl rfl rfl rfl ?_)
              have hr := Option.some.inj hr
              subst hr
              exact awl_nil (ablock_norm ((wk_of hX [0] 4 rfl rfl ⟨⟨_, rfl, cv0⟩, ⟨_, rfl, cv0⟩, ⟨_, rfl, cv0⟩, ⟨_, rfl, cv0⟩, ⟨_, rfl, cv0⟩, ⟨_, rfl, cv0⟩, ⟨_, rfl, cv0⟩, ⟨_, rfl, cv0⟩, ⟨_, rfl, cv0⟩, trivial⟩ ⟨cvo0, trivial⟩)))
            · have hr := if_f hc29 hr
              have hr := Option.some.inj hr
              subst hr
              exact awc_skip (ablock_norm ((wk_of hX [0] 4 rfl rfl ⟨⟨_, rfl, cv0⟩, ⟨_, rfl, cv0⟩, ⟨_, rfl, cv0⟩, ⟨_, rfl, cv0⟩, ⟨_, rfl, cv0⟩, ⟨_, rfl, cv0⟩, ⟨_, rfl, cv0⟩, ⟨_, rfl, cv0⟩, ⟨_, rfl, cv0⟩, trivial⟩ ⟨cvo0, trivial⟩)))
          · rintro s24 rfl
            refine awc_region ?_
            refine awl_v (av_add rfl rfl) ?_
            refine awl_v (av_move rfl) ?_
            have hr := Option.some.inj hr
            subst hr
            exact awl_nil ((wk_of hX [0] 4 rfl rfl ⟨⟨_, rfl, cv0⟩, ⟨_, rfl, cv0⟩, ⟨_, rfl, cv0⟩, ⟨_, rfl, cv0⟩, ⟨_, rfl, cv0⟩, ⟨_, rfl, cv0⟩, ⟨_, rfl, cv0⟩, ⟨_, rfl, cv0⟩, ⟨_, rfl, cv0⟩, trivial⟩ ⟨cvo0, trivial⟩))
          · exact fun r h e st hne hx => hx.elim
        · obtain rfl := rb_f hc23 ho
          exact awc_exit (athen_exit (⟨rfl, (wk_of hX [0] 4 rfl rfl ⟨⟨_, rfl, cv0⟩, ⟨_, rfl, cv0⟩, ⟨_, rfl, cv0⟩, ⟨_, rfl, cv0⟩, ⟨_, rfl, cv0⟩, trivial⟩ ⟨cvo0, trivial⟩)⟩))
    · obtain rfl := rb_f hc11 ho
      exact awc_exit (athen_exit (⟨rfl, (wk_of hX [0] 4 rfl rfl ⟨⟨_, rfl, cv0⟩, ⟨_, rfl, cv0⟩, trivial⟩ ⟨cvo0, trivial⟩)⟩))
theorem f74_runs {p0_0 : List Int} {r : List Int} (hr : f74 p0_0 = some r) : Runs Tryz.prog 28 [.osl 0] [.sl 3 (.int .i64) p0_0] (fun q Hq => q = [] ∧ Hq = [.sl 3 (.int .i64) r]) := by
  refine runs_w Tryz.func28 Tryz.ntmps28 rfl (rs := []) rfl rfl fun w0 X hX => ?_
  refine awc_region ?_
  refine awl_v (av_move rfl) ?_
  obtain ⟨x2, e3, hr⟩ := bnd_some hr
  refine awl_op (aop_callO (σ := [0]) (as' := [.osl 0]) (f73_runs e3).x ent54 rfl ⟨cv0, trivial⟩ rfl rfl rfl ?_)
  have hr := Option.some.inj hr
  subst hr
  exact awl_nil (retW_norm (ret_o (l' := []) (Hs := [(0, .sl 3 (.int .i64) x2)]) (n := 1) (wk_of hX [0] 4 rfl rfl trivial ⟨cvo0, trivial⟩) rfl rfl rfl trivial))
theorem z29_runs {p0 : List (Int × Int × Int × Int × Str)} {p1 : List (List Bool)} {p2 : List Int} {p3 : Int} {r : Int} (hr : z29 p0 p1 p2 p3 = some r) : RunsP Tryz.prog 29 [.sl Y1 p0, .sl (.slice .bool) p1, .sl (.int .i64) p2, .int .i64 p3] [.int .i64 r] := by
  refine runs_w Tryz.func29 Tryz.ntmps29 rfl (rs := [.tmp 8]) rfl rfl fun w0 X hX => ?_
  refine awc_seq ?_
  refine awc_region ?_
  refine awl_v (av_assign rfl) ?_
  refine awl_nil (athen_norm (awc_seq ?_))
  refine awc_region ?_
  refine awl_v (av_move rfl) ?_
  refine awl_v (av_move rfl) ?_
  obtain ⟨x1, e2, hr⟩ := bnd_some hr
  refine awl_v (av_call (f51_runs e2).x ent55 rfl rfl) ?_
  refine awl_v (av_assign rfl) ?_
  refine awl_nil (athen_norm (awc_seq ?_))
  refine awc_region ?_
  refine awl_v (av_assign rfl) ?_
  refine awl_nil (athen_norm (awc_seq (awc_seq ?_)))
  refine awc_region ?_
  refine awl_v (av_move rfl) ?_
  refine awl_v (av_len_sl (t := Y1) rfl rfl und22 rfl) ?_
  refine awl_v (av_move rfl) ?_
  refine awl_nil (athen_norm (awc_block ?_))
  obtain ⟨o8, e9, hr⟩ := bnd_some hr
  refine awc_len (t := 0) rfl (fun hl => ?_)
  refine awc_range (S := Int) (R := Unit) (List.length p0 : Int) (z29_b0 p0 p1 p2 p3 x1) (fun p => match p with | (i3, s4) => (⟨[(0, .sl Y1 p0), (1, .sl (.slice .bool) p1), (2, .sl (.int .i64) p2), (3, .int .i64 p3), (8, .int .i64 0), (9, .int .i64 x1), (10, .int .i64 s4), (17, .sl Y1 p0), (18, .int .i64 (List.length p0 : Int)), (19, .int .i64 i3)], [], 0⟩ : AS)) (fun o e st => match o with | .inr _ => False | .inl s4 => e = .exit 0 ∧ Wk X st ⟨[(0, .sl Y1 p0), (8, .int .i64 0), (10, .int .i64 s4)], [], 0⟩) (len_ok hl) e9 (wk_of hX [] 4 rfl rfl ⟨⟨_, rfl, cv0⟩, ⟨_, rfl, cv0⟩, ⟨_, rfl, cv0⟩, ⟨_, rfl, cv0⟩, ⟨_, rfl, cv0⟩, ⟨_, rfl, cv0⟩, ⟨_, rfl, cv0⟩, ⟨_, rfl, cv0⟩, ⟨_, rfl, cv0⟩, ⟨_, rfl, cv0⟩, trivial⟩ trivial) ?_ ?_
  · intro e st hx
    rcases o8 with s4 | _
    · obtain ⟨rfl, hw⟩ := hx
      refine ablock_here (athen_norm ((awc_wk hw) (awc_seq (awc_seq ?_))))
      refine awc_region ?_
      refine awl_v (av_move rfl) ?_
      refine awl_v (av_lss rfl rfl) ?_
      refine awl_nil (athen_norm ?_)
      refine awc_cond (b := decide (s4 < 0)) rfl (fun hc10 => ?_) (fun hc10 => ?_)
      · have hr := if_t hc10 hr
        refine awc_seq ?_
        refine awc_region ?_
        refine awl_v (av_assign rfl) ?_
        have hr := Option.some.inj hr
        subst hr
        exact awl_nil (athen_norm (awc_ret (athen_ret (ret_q (l' := [(8, .int .i64 0)]) (wk_of hX [] 4 rfl rfl ⟨⟨_, rfl, cv0⟩, trivial⟩ trivial) rfl ⟨rfl, trivial⟩))))
      · have hr := if_f hc10 hr
        refine awc_skip (athen_norm (awc_seq ?_))
        refine awc_region ?_
        refine awl_v (av_move rfl) ?_
        refine awl_v (av_move rfl) ?_
        obtain ⟨x11, e12, hr⟩ := bnd_some hr
        refine awl_v (av_ia_sl (t := Y1) (e := x11) und22 sz39 rfl rfl e12) ?_
        refine awl_v (av_fa_rp fa39_3 rfl rfl) ?_
        refine awl_v (av_load_rp ts3 rfl) ?_
        refine awl_v (av_assign rfl) ?_
        have hr := Option.some.inj hr
        subst hr
        exact awl_nil (athen_norm (awc_ret (ret_q (l' := [(8, .int .i64 x11.2.2.2.1)]) (wk_of hX [] 4 rfl rfl ⟨⟨_, rfl, cv0⟩, trivial⟩ trivial) rfl ⟨rfl, trivial⟩)))
    · exact hx.elim
  · rintro i3 s4 o ho
    refine awc_seq ?_
    refine awc_region ?_
    refine awl_v (av_lss rfl rfl) ?_
    refine awl_nil (athen_norm (awc_seq ?_))
    refine awc_cond (b := decide (i3 < (List.length p0 : Int))) rfl (fun hc13 => ?_) (fun hc13 => ?_)
    · obtain ⟨q, hr, rfl⟩ := rb_t hc13 ho
      refine awc_skip (athen_norm ?_)
      obtain ⟨o15, e16, hr⟩ := bnd_some hr
      refine awc_join (S := Int) (R := Unit) (fun s => match s with | s14 => (⟨[(0, .sl Y1 p0), (1, .sl (.slice .bool) p1), (2, .sl (.int .i64) p2), (3, .int .i64 p3), (8, .int .i64 0), (9, .int .i64 x1), (10, .int .i64 s14), (17, .sl Y1 p0), (18, .int .i64 (List.length p0 : Int)), (19, .int .i64 i3)], [], 0⟩ : AS)) (fun _ _ _ => False) e16 (fun hr => ?_) ?_ ?_
      · refine awc_block (awc_seq ?_)
        refine awc_region ?_
        refine awl_v (av_move rfl) ?_
        obtain ⟨x17, e18, hr⟩ := bnd_some hr
        refine awl_v (av_ia_sl (t := Y1) (e := x17) und22 sz39 rfl rfl e18) ?_
        refine awl_v (av_load_rpN ts39 rfl rfl rfl) ?_
        refine awl_op (aop_alloc zero39 rfl ?_)
        refine awl_v (av_assign rfl) ?_
        refine awl_op (aop_store sz39 rfl rfl rfl rfl rfl rfl rfl ?_)
        refine awl_nil (athen_norm (awc_seq (awc_seq ?_)))
        obtain ⟨h19, hr⟩ := chk_some hr
        obtain ⟨h20, hr⟩ := chk_some hr
        refine awc_text [0, 1, 2, 3, 8, 9, 10, 17, 18, 19, 12, 11] [(true, .ptr 0 1), (true, .int .i64 x17.2.1), (true, .bool (!decide (x17.2.1 = 4))), (true, .bool (!decide (x17.2.1 = 4))), (!(!decide (x17.2.1 = 4)), .ptr 0 3), (!(!decide (x17.2.1 = 4)), .int .i64 x17.2.2.2.1), (!(!decide (x17.2.1 = 4)), .int .i64 p3), (!(!decide (x17.2.1 = 4)), .bool (decide (x17.2.2.2.1 = p3))), (true, .bool ((!decide (x17.2.1 = 4)) || (decide (x17.2.2.2.1 = p3)))), (true, .bool ((!decide (x17.2.1 = 4)) || (decide (x17.2.2.2.1 = p3)))), (!((!decide (x17.2.1 = 4)) || (decide (x17.2.2.2.1 = p3))), .sl (.slice .bool) p1), (!((!decide (x17.2.1 = 4)) || (decide (x17.2.2.2.1 = p3))), .int .i64 x1), (!((!decide (x17.2.1 = 4)) || (decide (x17.2.2.2.1 = p3))), .rp [.sl .bool ((ix p1 x1).getD default)]), (!((!decide (x17.2.1 = 4)) || (decide (x17.2.2.2.1 = p3))), .sl .bool ((ix p1 x1).getD default)), (!((!decide (x17.2.1 = 4)) || (decide (x17.2.2.2.1 = p3))), .int .i64 i3), (!((!decide (x17.2.1 = 4)) || (decide (x17.2.2.2.1 = p3))), .rp [.bool ((ix ((ix p1 x1).getD default) i3).getD default)]), (!((!decide (x17.2.1 = 4)) || (decide (x17.2.2.2.1 = p3))), .bool ((ix ((ix p1 x1).getD default) i3).getD default)), (!((!decide (x17.2.1 = 4)) || (decide (x17.2.2.2.1 = p3))), .bool (!((ix ((ix p1 x1).getD default) i3).getD default))), (true, .bool (((!decide (x17.2.1 = 4)) || (decide (x17.2.2.2.1 = p3))) || (!((ix ((ix p1 x1).getD default) i3).getD default))))] [[], [0], [1], [2], [3], [4, 3], [3], [5, 6, 3], [7, 3], [8], [9], [9], [10, 11, 9], [12, 9], [9], [13, 14, 9], [15, 9], [16, 9], [17, 9]] [18] rfl rfl rfl rfl rfl ⟨?_, ?_, ?_, ?_, ?_, ?_, ?_, ?_, ?_, ?_, ?_, ?_, ?_, ?_, ?_, ?_, ?_, ?_, ?_, trivial⟩ (allT_of ⟨rfl, trivial⟩) ?_
        · exact ob_v rfl (fun hg => allT_of trivial) (fun hg => av_fa_ptr fa39_1 rfl rfl)
        · exact ob_v rfl (fun hg => allT_of ⟨rfl, trivial⟩) (fun hg => av_load_ptr ts3 rfl rfl rfl)
        · exact ob_v rfl (fun hg => allT_of ⟨rfl, trivial⟩) (fun hg => av_neq rfl rfl)
        · exact ob_v rfl (fun hg => allT_of ⟨rfl, trivial⟩) (fun hg => av_move rfl)
        · exact ob_v ⟨rfl, rfl, rfl, _, rfl, rfl⟩ (fun hg => allT_of ⟨rfl, trivial⟩) (fun hg => av_fa_ptr fa39_3 rfl rfl)
        · exact ob_v ⟨rfl, rfl, rfl, _, rfl, rfl⟩ (fun hg => allT_of ⟨hg, rfl, trivial⟩) (fun hg => av_load_ptr ts3 rfl rfl rfl)
        · exact ob_v ⟨rfl, rfl, rfl, _, rfl, rfl⟩ (fun hg => allT_of ⟨rfl, trivial⟩) (fun hg => av_move rfl)
        · exact ob_v ⟨rfl, rfl, rfl, _, rfl, rfl⟩ (fun hg => allT_of ⟨hg, hg, rfl, trivial⟩) (fun hg => av_eql rfl rfl)
        · exact ob_pick (b := false) (p := !decide (x17.2.1 = 4)) (q := decide (x17.2.2.2.1 = p3)) rfl rfl rfl (fun hg => allT_of ⟨rfl, trivial⟩) rfl rfl rfl rfl rfl
        · exact ob_v rfl (fun hg => allT_of ⟨rfl, trivial⟩) (fun hg => av_move rfl)
        · exact ob_v ⟨rfl, rfl, rfl, _, rfl, rfl⟩ (fun hg => allT_of ⟨rfl, trivial⟩) (fun hg => av_move rfl)
        · exact ob_v ⟨rfl, rfl, rfl, _, rfl, rfl⟩ (fun hg => allT_of ⟨rfl, trivial⟩) (fun hg => av_move rfl)
        · exact ob_v ⟨rfl, rfl, rfl, _, rfl, rfl⟩ (fun hg => allT_of ⟨hg, hg, rfl, trivial⟩) (fun hg => av_ia_sl (t := (.slice .bool)) (e := ((ix p1 x1).getD default)) und56 sz101 rfl rfl (get_g h19 hg))
        · exact ob_v ⟨rfl, rfl, rfl, _, rfl, rfl⟩ (fun hg => allT_of ⟨hg, rfl, trivial⟩) (fun hg => av_load_rp ts101 rfl)
        · exact ob_v ⟨rfl, rfl, rfl, _, rfl, rfl⟩ (fun hg => allT_of ⟨rfl, trivial⟩) (fun hg => av_move rfl)
        · exact ob_v ⟨rfl, rfl, rfl, _, rfl, rfl⟩ (fun hg => allT_of ⟨hg, hg, rfl, trivial⟩) (fun hg => av_ia_sl (t := .bool) (e := ((ix ((ix p1 x1).getD default) i3).getD default)) und101 sz4 rfl rfl (get_g h20 hg))
        · exact ob_v ⟨rfl, rfl, rfl, _, rfl, rfl⟩ (fun hg => allT_of ⟨hg, rfl, trivial⟩) (fun hg => av_load_rp ts4 rfl)
        · exact ob_v ⟨rfl, rfl, rfl, _, rfl, rfl⟩ (fun hg => allT_of ⟨hg, rfl, trivial⟩) (fun hg => av_not rfl)
        · exact ob_pick (b := false) (p := (!decide (x17.2.1 = 4)) || (decide (x17.2.2.2.1 = p3))) (q := !((ix ((ix p1 x1).getD default) i3).getD default)) rfl rfl rfl (fun hg => allT_of ⟨rfl, trivial⟩) rfl rfl rfl rfl rfl
        refine athen_norm ?_
        refine awc_cond (b := ((!decide (x17.2.1 = 4)) || (decide (x17.2.2.2.1 = p3))) || (!((ix ((ix p1 x1).getD default) i3).getD default))) rfl (fun hc21 => ?_) (fun hc21 => ?_)
        · have hr := if_t hc21 hr
          have hr := Option.some.inj hr
          subst hr
          exact awc_exit (athen_exit (ablock_here ((wk_of hX [] 4 rfl rfl ⟨⟨_, rfl, cv0⟩, ⟨_, rfl, cv0⟩, ⟨_, rfl, cv0⟩, ⟨_, rfl, cv0⟩, ⟨_, rfl, cv0⟩, ⟨_, rfl, cv0⟩, ⟨_, rfl, cv0⟩, ⟨_, rfl, cv0⟩, ⟨_, rfl, cv0⟩, ⟨_, rfl, cv0⟩, trivial⟩ trivial))))
        · have hr := if_f hc21 hr
          refine awc_skip (athen_norm (awc_seq (awc_seq ?_)))
          refine awc_region ?_
          refine awl_v (av_move rfl) ?_
          refine awl_v (av_fa_ptr fa39_3 rfl rfl) ?_
          refine awl_v (av_load_ptr ts3 rfl rfl rfl) ?_
          obtain ⟨x22, e23, hr⟩ := bnd_some hr
          refine awl_v (av_call (f51_runs e23).x ent55 rfl rfl) ?_
          refine awl_v (av_assign rfl) ?_
          refine awl_nil (athen_norm (awc_seq ?_))
          obtain ⟨h24, hr⟩ := chk_some hr
          obtain ⟨h25, hr⟩ := chk_some hr
          refine awc_text [0, 1, 2, 3, 8, 9, 10, 17, 18, 19, 12, 11, 13] [(true, .int .i64 x22), (true, .bool (decide (0 ≤ x22))), (true, .bool (decide (0 ≤ x22))), (decide (0 ≤ x22), .sl (.slice .bool) p1), (decide (0 ≤ x22), .int .i64 x1), (decide (0 ≤ x22), .rp [.sl .bool ((ix p1 x1).getD default)]), (decide (0 ≤ x22), .sl .bool ((ix p1 x1).getD default)), (decide (0 ≤ x22), .int .i64 x22), (decide (0 ≤ x22), .rp [.bool ((ix ((ix p1 x1).getD default) x22).getD default)]), (decide (0 ≤ x22), .bool ((ix ((ix p1 x1).getD default) x22).getD default)), (true, .bool ((decide (0 ≤ x22)) && ((ix ((ix p1 x1).getD default) x22).getD default)))] [[], [0], [1], [2], [2], [3, 4, 2], [5, 2], [2], [6, 7, 2], [8, 2], [9, 2]] [10] rfl rfl rfl rfl rfl ⟨?_, ?_, ?_, ?_, ?_, ?_, ?_, ?_, ?_, ?_, ?_, trivial⟩ (allT_of ⟨rfl, trivial⟩) ?_
          · exact ob_v rfl (fun hg => allT_of trivial) (fun hg => av_move rfl)
          · exact ob_v rfl (fun hg => allT_of ⟨rfl, trivial⟩) (fun hg => av_geq rfl rfl)
          · exact ob_v rfl (fun hg => allT_of ⟨rfl, trivial⟩) (fun hg => av_move rfl)
          · exact ob_v ⟨rfl, rfl, rfl, _, rfl, rfl⟩ (fun hg => allT_of ⟨rfl, trivial⟩) (fun hg => av_move rfl)
          · exact ob_v ⟨rfl, rfl, rfl, _, rfl, rfl⟩ (fun hg => allT_of ⟨rfl, trivial⟩) (fun hg => av_move rfl)
          · exact ob_v ⟨rfl, rfl, rfl, _, rfl, rfl⟩ (fun hg => allT_of ⟨hg, hg, rfl, trivial⟩) (fun hg => av_ia_sl (t := (.slice .bool)) (e := ((ix p1 x1).getD default)) und56 sz101 rfl rfl (get_g h24 hg))
          · exact ob_v ⟨rfl, rfl, rfl, _, rfl, rfl⟩ (fun hg => allT_of ⟨hg, rfl, trivial⟩) (fun hg => av_load_rp ts101 rfl)
          · exact ob_v ⟨rfl, rfl, rfl, _, rfl, rfl⟩ (fun hg => allT_of ⟨rfl, trivial⟩) (fun hg => av_move rfl)
          · exact ob_v ⟨rfl, rfl, rfl, _, rfl, rfl⟩ (fun hg => allT_of ⟨hg, hg, rfl, trivial⟩) (fun hg => av_ia_sl (t := .bool) (e := ((ix ((ix p1 x1).getD default) x22).getD default)) und101 sz4 rfl rfl (get_g h25 hg))
          · exact ob_v ⟨rfl, rfl, rfl, _, rfl, rfl⟩ (fun hg => allT_of ⟨hg, rfl, trivial⟩) (fun hg => av_load_rp ts4 rfl)
          · exact ob_pick (b := true) (p := decide (0 ≤ x22)) (q := ((ix ((ix p1 x1).getD default) x22).getD default)) rfl rfl rfl (fun hg => allT_of ⟨rfl, trivial⟩) rfl rfl rfl rfl rfl
          refine athen_norm ?_
          refine awc_cond (b := (decide (0 ≤ x22)) && ((ix ((ix p1 x1).getD default) x22).getD default)) rfl (fun hc26 => ?_) (fun hc26 => ?_)
          · have hr := if_t hc26 hr
            have hr := Option.some.inj hr
            subst hr
            exact awc_exit (athen_exit (ablock_here ((wk_of hX [] 4 rfl rfl ⟨⟨_, rfl, cv0⟩, ⟨_, rfl, cv0⟩, ⟨_, rfl, cv0⟩, ⟨_, rfl, cv0⟩, ⟨_, rfl, cv0⟩, ⟨_, rfl, cv0⟩, ⟨_, rfl, cv0⟩, ⟨_, rfl, cv0⟩, ⟨_, rfl, cv0⟩, ⟨_, rfl, cv0⟩, trivial⟩ trivial))))
          · have hr := if_f hc26 hr
            refine awc_skip (athen_norm (awc_seq ?_))
            obtain ⟨h27, hr⟩ := chk_some hr
            obtain ⟨h28, hr⟩ := chk_some hr
            obtain ⟨h29, hr⟩ := chk_some hr
            obtain ⟨h30, hr⟩ := chk_some hr
            obtain ⟨h31, hr⟩ := chk_some hr
            refine awc_draw mixed [0, 1, 2, 3, 8, 9, 10, 17, 18, 19, 12, 11] [(true, .int .i64 s4), (true, .bool (decide (s4 < 0))), (true, .bool (decide (s4 < 0))), (!(decide (s4 < 0)), .sl (.int .i64) p2), (!(decide (s4 < 0)), .int .i64 i3), (!(decide (s4 < 0)), .rp [.int .i64 ((ix p2 i3).getD default)]), (!(decide (s4 < 0)), .int .i64 ((ix p2 i3).getD default)), (!(decide (s4 < 0)), .sl (.int .i64) p2), (!(decide (s4 < 0)), .int .i64 s4), (!(decide (s4 < 0)), .rp [.int .i64 ((ix p2 s4).getD default)]), (!(decide (s4 < 0)), .int .i64 ((ix p2 s4).getD default)), (!(decide (s4 < 0)), .bool (decide (((ix p2 s4).getD default) < ((ix p2 i3).getD default)))), (true, .bool ((decide (s4 < 0)) || (decide (((ix p2 s4).getD default) < ((ix p2 i3).getD default))))), (true, .bool ((decide (s4 < 0)) || (decide (((ix p2 s4).getD default) < ((ix p2 i3).getD default))))), (!((decide (s4 < 0)) || (decide (((ix p2 s4).getD default) < ((ix p2 i3).getD default)))), .sl (.int .i64) p2), (!((decide (s4 < 0)) || (decide (((ix p2 s4).getD default) < ((ix p2 i3).getD default)))), .int .i64 i3), (!((decide (s4 < 0)) || (decide (((ix p2 s4).getD default) < ((ix p2 i3).getD default)))), .rp [.int .i64 ((ix p2 i3).getD default)]), (!((decide (s4 < 0)) || (decide (((ix p2 s4).getD default) < ((ix p2 i3).getD default)))), .int .i64 ((ix p2 i3).getD default)), (!((decide (s4 < 0)) || (decide (((ix p2 s4).getD default) < ((ix p2 i3).getD default)))), .sl (.int .i64) p2), (!((decide (s4 < 0)) || (decide (((ix p2 s4).getD default) < ((ix p2 i3).getD default)))), .int .i64 s4), (!((decide (s4 < 0)) || (decide (((ix p2 s4).getD default) < ((ix p2 i3).getD default)))), .rp [.int .i64 ((ix p2 s4).getD default)]), (!((decide (s4 < 0)) || (decide (((ix p2 s4).getD default) < ((ix p2 i3).getD default)))), .int .i64 ((ix p2 s4).getD default)), (!((decide (s4 < 0)) || (decide (((ix p2 s4).getD default) < ((ix p2 i3).getD default)))), .bool (decide (((ix p2 i3).getD default) = ((ix p2 s4).getD default)))), (!((decide (s4 < 0)) || (decide (((ix p2 s4).getD default) < ((ix p2 i3).getD default)))), .bool (decide (((ix p2 i3).getD default) = ((ix p2 s4).getD default)))), ((!((decide (s4 < 0)) || (decide (((ix p2 s4).getD default) < ((ix p2 i3).getD default))))) && (decide (((ix p2 i3).getD default) = ((ix p2 s4).getD default))), .ptr 0 3), ((!((decide (s4 < 0)) || (decide (((ix p2 s4).getD default) < ((ix p2 i3).getD default))))) && (decide (((ix p2 i3).getD default) = ((ix p2 s4).getD default))), .int .i64 x17.2.2.2.1), ((!((decide (s4 < 0)) || (decide (((ix p2 s4).getD default) < ((ix p2 i3).getD default))))) && (decide (((ix p2 i3).getD default) = ((ix p2 s4).getD default))), .sl Y1 p0), ((!((decide (s4 < 0)) || (decide (((ix p2 s4).getD default) < ((ix p2 i3).getD default))))) && (decide (((ix p2 i3).getD default) = ((ix p2 s4).getD default))), .int .i64 s4), ((!((decide (s4 < 0)) || (decide (((ix p2 s4).getD default) < ((ix p2 i3).getD default))))) && (decide (((ix p2 i3).getD default) = ((ix p2 s4).getD default))), .rp [.int .i64 ((((ix p0 s4).getD default)).1), .int .i64 (((((ix p0 s4).getD default)).2).1), .int .i64 ((((((ix p0 s4).getD default)).2).2).1), .int .i64 (((((((ix p0 s4).getD default)).2).2).2).1), .str (((((((ix p0 s4).getD default)).2).2).2).2)]), ((!((decide (s4 < 0)) || (decide (((ix p2 s4).getD default) < ((ix p2 i3).getD default))))) && (decide (((ix p2 i3).getD default) = ((ix p2 s4).getD default))), .rp [.int .i64 (((((((ix p0 s4).getD default)).2).2).2).1), .str (((((((ix p0 s4).getD default)).2).2).2).2)]), ((!((decide (s4 < 0)) || (decide (((ix p2 s4).getD default) < ((ix p2 i3).getD default))))) && (decide (((ix p2 i3).getD default) = ((ix p2 s4).getD default))), .int .i64 (((((((ix p0 s4).getD default)).2).2).2).1)), ((!((decide (s4 < 0)) || (decide (((ix p2 s4).getD default) < ((ix p2 i3).getD default))))) && (decide (((ix p2 i3).getD default) = ((ix p2 s4).getD default))), .bool (decide ((((((((ix p0 s4).getD default)).2).2).2).1) < x17.2.2.2.1))), (!((decide (s4 < 0)) || (decide (((ix p2 s4).getD default) < ((ix p2 i3).getD default)))), .bool ((decide (((ix p2 i3).getD default) = ((ix p2 s4).getD default))) && (decide ((((((((ix p0 s4).getD default)).2).2).2).1) < x17.2.2.2.1)))), (true, .bool (((decide (s4 < 0)) || (decide (((ix p2 s4).getD default) < ((ix p2 i3).getD default)))) || ((decide (((ix p2 i3).getD default) = ((ix p2 s4).getD default))) && (decide ((((((((ix p0 s4).getD default)).2).2).2).1) < x17.2.2.2.1)))))] [[], [0], [1], [2], [2], [3, 4, 2], [5, 2], [2], [2], [7, 8, 2], [9, 2], [6, 10, 2], [11, 2], [12], [13], [13], [14, 15, 13], [16, 13], [13], [13], [18, 19, 13], [20, 13], [17, 21, 13], [22, 13], [23], [24, 23], [23], [23], [26, 27, 23], [28, 23], [29, 23], [25, 30, 23], [31, 23, 13], [32, 13]] [33] rfl rfl rfl rfl rfl ⟨?_, ?_, ?_, ?_, ?_, ?_, ?_, ?_, ?_, ?_, ?_, ?_, ?_, ?_, ?_, ?_, ?_, ?_, ?_, ?_, ?_, ?_, ?_, ?_, ?_, ?_, ?_, ?_, ?_, ?_, ?_, ?_, ?_, ?_, trivial⟩ (allT_of ⟨rfl, trivial⟩) ?_
            · exact ob_v rfl (fun hg => allT_of trivial) (fun hg => av_move rfl)
            · exact ob_v rfl (fun hg => allT_of ⟨rfl, trivial⟩) (fun hg => av_lss rfl rfl)
            · exact ob_v rfl (fun hg => allT_of ⟨rfl, trivial⟩) (fun hg => av_move rfl)
            · exact ob_v ⟨rfl, rfl, rfl, _, rfl, rfl⟩ (fun hg => allT_of ⟨rfl, trivial⟩) (fun hg => av_move rfl)
            · exact ob_v ⟨rfl, rfl, rfl, _, rfl, rfl⟩ (fun hg => allT_of ⟨rfl, trivial⟩) (fun hg => av_move rfl)
            · exact ob_v ⟨rfl, rfl, rfl, _, rfl, rfl⟩ (fun hg => allT_of ⟨hg, hg, rfl, trivial⟩) (fun hg => av_ia_sl (t := (.int .i64)) (e := ((ix p2 i3).getD default)) und47 sz3 rfl rfl (get_g h27 hg))
            · exact ob_v ⟨rfl, rfl, rfl, _, rfl, rfl⟩ (fun hg => allT_of ⟨hg, rfl, trivial⟩) (fun hg => av_load_rp ts3 rfl)
            · exact ob_v ⟨rfl, rfl, rfl, _, rfl, rfl⟩ (fun hg => allT_of ⟨rfl, trivial⟩) (fun hg => av_move rfl)
            · exact ob_v ⟨rfl, rfl, rfl, _, rfl, rfl⟩ (fun hg => allT_of ⟨rfl, trivial⟩) (fun hg => av_move rfl)
            · exact ob_v ⟨rfl, rfl, rfl, _, rfl, rfl⟩ (fun hg => allT_of ⟨hg, hg, rfl, trivial⟩) (fun hg => av_ia_sl (t := (.int .i64)) (e := ((ix p2 s4).getD default)) und47 sz3 rfl rfl (get_g h28 hg))
            · exact ob_v ⟨rfl, rfl, rfl, _, rfl, rfl⟩ (fun hg => allT_of ⟨hg, rfl, trivial⟩) (fun hg => av_load_rp ts3 rfl)
            · exact ob_v ⟨rfl, rfl, rfl, _, rfl, rfl⟩ (fun hg => allT_of ⟨hg, hg, rfl, trivial⟩) (fun hg => av_gtr rfl rfl)
            · exact ob_pick (b := false) (p := decide (s4 < 0)) (q := decide (((ix p2 s4).getD default) < ((ix p2 i3).getD default))) rfl rfl rfl (fun hg => allT_of ⟨rfl, trivial⟩) rfl rfl rfl rfl rfl
            · exact ob_v rfl (fun hg => allT_of ⟨rfl, trivial⟩) (fun hg => av_move rfl)
            · exact ob_v ⟨rfl, rfl, rfl, _, rfl, rfl⟩ (fun hg => allT_of ⟨rfl, trivial⟩) (fun hg => av_move rfl)
            · exact ob_v ⟨rfl, rfl, rfl, _, rfl, rfl⟩ (fun hg => allT_of ⟨rfl, trivial⟩) (fun hg => av_move rfl)
            · exact ob_v ⟨rfl, rfl, rfl, _, rfl, rfl⟩ (fun hg => allT_of ⟨hg, hg, rfl, trivial⟩) (fun hg => av_ia_sl (t := (.int .i64)) (e := ((ix p2 i3).getD default)) und47 sz3 rfl rfl (get_g h29 hg))
            · exact ob_v ⟨rfl, rfl, rfl, _, rfl, rfl⟩ (fun hg => allT_of ⟨hg, rfl, trivial⟩) (fun hg => av_load_rp ts3 rfl)
            · exact ob_v ⟨rfl, rfl, rfl, _, rfl, rfl⟩ (fun hg => allT_of ⟨rfl, trivial⟩) (fun hg => av_move rfl)
            · exact ob_v ⟨rfl, rfl, rfl, _, rfl, rfl⟩ (fun hg => allT_of ⟨rfl, trivial⟩) (fun hg => av_move rfl)
            · exact ob_v ⟨rfl, rfl, rfl, _, rfl, rfl⟩ (fun hg => allT_of ⟨hg, hg, rfl, trivial⟩) (fun hg => av_ia_sl (t := (.int .i64)) (e := ((ix p2 s4).getD default)) und47 sz3 rfl rfl (get_g h30 hg))
            · exact ob_v ⟨rfl, rfl, rfl, _, rfl, rfl⟩ (fun hg => allT_of ⟨hg, rfl, trivial⟩) (fun hg => av_load_rp ts3 rfl)
            · exact ob_v ⟨rfl, rfl, rfl, _, rfl, rfl⟩ (fun hg => allT_of ⟨hg, hg, rfl, trivial⟩) (fun hg => av_eql rfl rfl)
            · exact ob_v ⟨rfl, rfl, rfl, _, rfl, rfl⟩ (fun hg => allT_of ⟨hg, rfl, trivial⟩) (fun hg => av_move rfl)
            · exact ob_v ⟨rfl, rfl, rfl, _, rfl, rfl⟩ (fun hg => allT_of ⟨(and_l hg), trivial⟩) (fun hg => av_fa_ptr fa39_3 rfl rfl)
            · exact ob_v ⟨rfl, rfl, rfl, _, rfl, rfl⟩ (fun hg => allT_of ⟨hg, (and_l hg), trivial⟩) (fun hg => av_load_ptr ts3 rfl rfl rfl)
            · exact ob_v ⟨rfl, rfl, rfl, _, rfl, rfl⟩ (fun hg => allT_of ⟨(and_l hg), trivial⟩) (fun hg => av_move rfl)
            · exact ob_v ⟨rfl, rfl, rfl, _, rfl, rfl⟩ (fun hg => allT_of ⟨(and_l hg), trivial⟩) (fun hg => av_move rfl)
            · exact ob_v ⟨rfl, rfl, rfl, _, rfl, rfl⟩ (fun hg => allT_of ⟨hg, hg, (and_l hg), trivial⟩) (fun hg => av_ia_sl (t := Y1) (e := ((ix p0 s4).getD default)) und22 sz39 rfl rfl (get_g h31 hg))
            · exact ob_v ⟨rfl, rfl, rfl, _, rfl, rfl⟩ (fun hg => allT_of ⟨hg, (and_l hg), trivial⟩) (fun hg => av_fa_rp fa39_3 rfl rfl)
            · exact ob_v ⟨rfl, rfl, rfl, _, rfl, rfl⟩ (fun hg => allT_of ⟨hg, (and_l hg), trivial⟩) (fun hg => av_load_rp ts3 rfl)
            · exact ob_v ⟨rfl, rfl, rfl, _, rfl, rfl⟩ (fun hg => allT_of ⟨hg, hg, (and_l hg), trivial⟩) (fun hg => av_gtr rfl rfl)
            · exact ob_pick (b := true) (p := decide (((ix p2 i3).getD default) = ((ix p2 s4).getD default))) (q := decide ((((((((ix p0 s4).getD default)).2).2).2).1) < x17.2.2.2.1)) ⟨rfl, rfl, rfl, _, rfl, rfl⟩ rfl rfl (fun hg => allT_of ⟨hg, rfl, trivial⟩) rfl rfl rfl rfl rfl
            · exact ob_pick (b := false) (p := (decide (s4 < 0)) || (decide (((ix p2 s4).getD default) < ((ix p2 i3).getD default)))) (q := (decide (((ix p2 i3).getD default) = ((ix p2 s4).getD default))) && (decide ((((((((ix p0 s4).getD default)).2).2).2).1) < x17.2.2.2.1))) rfl rfl rfl (fun hg => allT_of ⟨rfl, trivial⟩) rfl rfl rfl rfl rfl
            refine athen_norm ?_
            refine awc_cond (b := ((decide (s4 < 0)) || (decide (((ix p2 s4).getD default) < ((ix p2 i3).getD default)))) || ((decide (((ix p2 i3).getD default) = ((ix p2 s4).getD default))) && (decide ((((((((ix p0 s4).getD default)).2).2).2).1) < x17.2.2.2.1)))) rfl (fun hc32 => ?_) (fun hc32 => ?_)
            · have hr := if_t hc32 hr
              refine awc_region ?_
              refine awl_v (av_move rfl) ?_
              refine awl_v (av_assign rfl) ?_
              have hr := Option.some.inj hr
              subst hr
              exact awl_nil (ablock_norm ((wk_of hX [] 4 rfl rfl ⟨⟨_, rfl, cv0⟩, ⟨_, rfl, cv0⟩, ⟨_, rfl, cv0⟩, ⟨_, rfl, cv0⟩, ⟨_, rfl, cv0⟩, ⟨_, rfl, cv0⟩, ⟨_, rfl, cv0⟩, ⟨_, rfl, cv0⟩, ⟨_, rfl, cv0⟩, ⟨_, rfl, cv0⟩, trivial⟩ trivial)))
            · have hr := if_f hc32 hr
              have hr := Option.some.inj hr
              subst hr
              exact awc_skip (ablock_norm ((wk_of hX [] 4 rfl rfl ⟨⟨_, rfl, cv0⟩, ⟨_, rfl, cv0⟩, ⟨_, rfl, cv0⟩, ⟨_, rfl, cv0⟩, ⟨_, rfl, cv0⟩, ⟨_, rfl, cv0⟩, ⟨_, rfl, cv0⟩, ⟨_, rfl, cv0⟩, ⟨_, rfl, cv0⟩, ⟨_, rfl, cv0⟩, trivial⟩ trivial)))
      · rintro s14 rfl
        refine awc_region ?_
        refine awl_v (av_add rfl rfl) ?_
        refine awl_v (av_move rfl) ?_
        have hr := Option.some.inj hr
        subst hr
        exact awl_nil ((wk_of hX [] 4 rfl rfl ⟨⟨_, rfl, cv0⟩, ⟨_, rfl, cv0⟩, ⟨_, rfl, cv0⟩, ⟨_, rfl, cv0⟩, ⟨_, rfl, cv0⟩, ⟨_, rfl, cv0⟩, ⟨_, rfl, cv0⟩, ⟨_, rfl, cv0⟩, ⟨_, rfl, cv0⟩, ⟨_, rfl, cv0⟩, trivial⟩ trivial))
      · exact fun r h e st hne hx => hx.elim
    · obtain rfl := rb_f hc13 ho
      exact awc_exit (athen_exit (⟨rfl, (wk_of hX [] 4 rfl rfl ⟨⟨_, rfl, cv0⟩, ⟨_, rfl, cv0⟩, ⟨_, rfl, cv0⟩, trivial⟩ trivial)⟩))
theorem z8_runs {p0 : Int} {p1 : List (Int × Int × Int × Int × Str)} {r : (List (Int × Int)) × Int} (hr : z8 p0 p1 = some r) : RunsP Tryz.prog 8 [.int .i64 p0, .sl Y1 p1] [.sl Y3 r.1, .int .i64 r.2] := by
  refine runs_w Tryz.func8 Tryz.ntmps8 rfl (rs := [.tmp 4, .tmp 5]) rfl rfl fun w0 X hX => ?_
  refine awc_seq ?_
  refine awc_region ?_
  refine awl_v (av_assign rfl) ?_
  refine awl_v (av_assign rfl) ?_
  refine awl_nil (athen_norm (awc_seq (awc_seq ?_)))
  refine awc_region ?_
  refine awl_v (av_move rfl) ?_
  refine awl_v (av_move rfl) ?_
  obtain ⟨x1, e2, hr⟩ := bnd_some hr
  refine awl_v (av_call (f18_runs e2).x ent13 rfl rfl) ?_
  refine awl_v (av_not rfl) ?_
  refine awl_nil (athen_norm ?_)
  refine awc_cond (b := !x1) rfl (fun hc3 => ?_) (fun hc3 => ?_)
  · have hr := if_t hc3 hr
    refine awc_seq ?_
    refine awc_region ?_
    refine awl_v (av_assign rfl) ?_
    refine awl_v (av_assign rfl) ?_
    have hr := Option.some.inj hr
    subst hr
    exact awl_nil (athen_norm (awc_ret (athen_ret (ret_q (l' := [(4, .sl Y3 ([] : List (Int × Int))), (5, .int .i64 1)]) (wk_of hX [] 4 rfl rfl ⟨⟨_, rfl, cv2⟩, ⟨_, rfl, cv0⟩, trivial⟩ trivial) rfl ⟨rfl, rfl, trivial⟩))))
  · have hr := if_f hc3 hr
    refine awc_skip (athen_norm (awc_seq ?_))
    refine awc_region ?_
    refine awl_v (av_move rfl) ?_
    obtain ⟨x4, e5, hr⟩ := bnd_some hr
    refine awl_v (av_call (f23_runs e5).x ent26 rfl rfl) ?_
    refine awl_v (av_move rfl) ?_
    obtain ⟨x6, e7, hr⟩ := bnd_some hr
    refine awl_v (av_call (f55_runs e7).x ent27 rfl rfl) ?_
    refine awl_v (av_assign rfl) ?_
    refine awl_v (av_assign rfl) ?_
    refine awl_nil (athen_norm (awc_seq ?_))
    refine awc_region ?_
    refine awl_v (av_assign rfl) ?_
    refine awl_nil (athen_norm (awc_seq (awc_seq ?_)))
    refine awc_region ?_
    refine awl_v (av_move rfl) ?_
    refine awl_v (av_len_sl (t := Y1) rfl rfl und22 rfl) ?_
    refine awl_v (av_move rfl) ?_
    refine awl_nil (athen_norm (awc_block ?_))
    obtain ⟨o13, e14, hr⟩ := bnd_some hr
    refine awc_len (t := 1) rfl (fun hl => ?_)
    refine awc_range (S := List Int) (R := Unit) (List.length p1 : Int) (z8_b0 p1) (fun p => match p with | (i8, s10) => (⟨[(1, .sl Y1 p1), (4, .nils), (5, .int .i64 0), (6, .sl (.slice .bool) x4), (7, .sl (.int .i64) x6), (8, .osl 0), (22, .sl Y1 p1), (23, .int .i64 (List.length p1 : Int)), (24, .int .i64 i8)], [(0, .sl 3 (.int .i64) s10)], 1⟩ : AS)) (fun o e st => match o with | .inr _ => False | .inl s10 => e = .exit 0 ∧ Wk X st ⟨[(1, .sl Y1 p1), (4, .nils), (5, .int .i64 0), (6, .sl (.slice .bool) x4), (7, .sl (.int .i64) x6), (8, .osl 0)], [(0, .sl 3 (.int .i64) s10)], 1⟩) (len_ok hl) e14 (Wk.trans (wk_own (t := 8) 3 (.int .i64) rfl) (wk_of hX [0] 4 rfl rfl ⟨⟨_, rfl, cv0⟩, ⟨_, rfl, cv0⟩, ⟨_, rfl, cv0⟩, ⟨_, rfl, cv0⟩, ⟨_, rfl, cv0⟩, ⟨_, rfl, cv0⟩, ⟨_, rfl, cv0⟩, ⟨_, rfl, cv0⟩, ⟨_, rfl, cv0⟩, trivial⟩ ⟨cvo0, trivial⟩)) ?_ ?_
    · intro e st hx
      rcases o13 with s10 | _
      · obtain ⟨rfl, hw⟩ := hx
        refine ablock_here (athen_norm ((awc_wk hw) (awc_seq ?_)))
        refine awc_region ?_
        refine awl_v (av_move rfl) ?_
        obtain ⟨x15, e16, hr⟩ := bnd_some hr
        refine awl_op (aop_callO (σ := [0]) (as' := [.osl 0]) (f74_runs e16).x ent28 rfl ⟨cv0, trivial⟩ rfl rfl rfl ?_)
        refine awl_nil (athen_norm (awc_seq ?_))
        refine awc_region ?_
        refine awl_v (av_assign rfl) ?_
        refine awl_nil (athen_norm (awc_seq (awc_seq ?_)))
        refine awc_region ?_
        refine awl_v (av_move rfl) ?_
        refine awl_v (av_len_osl (t := (.int .i64)) rfl rfl und47 rfl rfl) ?_
        refine awl_v (av_move rfl) ?_
        refine awl_nil (athen_norm (awc_block ?_))
        obtain ⟨o22, e23, hr⟩ := bnd_some hr
        refine awc_lenO (i := 0) rfl rfl (fun hl => ?_)
        refine awc_range (S := (List (Int × Int))) (R := Unit) (List.length x15 : Int) (z8_b1 p1 x4 x6 x15) (fun p => match p with | (i17, s19) => (⟨[(1, .sl Y1 p1), (4, .nils), (5, .int .i64 0), (6, .sl (.slice .bool) x4), (7, .sl (.int .i64) x6), (11, .osl 0), (39, .osl 1), (40, .int .i64 (List.length x15 : Int)), (41, .int .i64 i17)], [(0, .sl 31 Y3 s19), (1, .sl 3 (.int .i64) x15)], 2⟩ : AS)) (fun o e st => match o with | .inr _ => False | .inl s19 => e = .exit 2 ∧ Wk X st ⟨[(4, .nils), (5, .int .i64 0), (11, .osl 0)], [(0, .sl 31 Y3 s19)], 1⟩) (len_ok hl) e23 (Wk.trans (wk_own (t := 11) 31 Y3 rfl) (wk_of hX [1, 0] 4 rfl rfl ⟨⟨_, rfl, cv0⟩, ⟨_, rfl, cv0⟩, ⟨_, rfl, cv0⟩, ⟨_, rfl, cv0⟩, ⟨_, rfl, cv0⟩, ⟨_, rfl, cv0⟩, ⟨_, rfl, cv0⟩, ⟨_, rfl, cv0⟩, ⟨_, rfl, cv0⟩, trivial⟩ ⟨cvo0, cvo0, trivial⟩)) ?_ ?_
        · intro e st hx
          rcases o22 with s19 | _
          · obtain ⟨rfl, hw⟩ := hx
            refine ablock_here (athen_norm ((awc_wk hw) (awc_seq ?_)))
            refine awc_region ?_
            refine awl_v (av_move rfl) ?_
            refine awl_v (av_assign rfl) ?_
            refine awl_v (av_assign rfl) ?_
            have hr := Option.some.inj hr
            subst hr
            exact awl_nil (athen_norm (awc_ret (ret_q (l' := [(4, .sl Y3 s19), (5, .int .i64 0)]) (wk_of hX [] 4 rfl rfl ⟨⟨_, rfl, cv0⟩, ⟨_, rfl, cv0⟩, trivial⟩ trivial) rfl ⟨rfl, rfl, trivial⟩)))
          · exact hx.elim
        · rintro i17 s19 o ho
          refine awc_seq ?_
          refine awc_region ?_
          refine awl_v (av_lss rfl rfl) ?_
          refine awl_nil (athen_norm (awc_seq ?_))
          refine awc_cond (b := decide (i17 < (List.length x15 : Int))) rfl (fun hc24 => ?_) (fun hc24 => ?_)
          · obtain ⟨q, hr, rfl⟩ := rb_t hc24 ho
            refine awc_skip (athen_norm (awc_seq (awc_block (awc_seq ?_))))
            refine awc_region ?_
            obtain ⟨x25, e26, hr⟩ := bnd_some hr
            refine awl_v (av_ia_osl (t := (.int .i64)) und47 sz3 rfl rfl rfl e26) ?_
            refine awl_v (av_load_ep ts3 rfl rfl rfl (ix_at e26) rfl) ?_
            refine awl_v (av_assign rfl) ?_
            refine awl_nil (athen_norm ?_)
            refine awc_region ?_
            refine awl_v (av_move rfl) ?_
            refine awl_v (av_move rfl) ?_
            refine awl_v (av_move rfl) ?_
            refine awl_v (av_move rfl) ?_
            refine awl_v (av_move rfl) ?_
            refine awl_v (av_move rfl) ?_
            obtain ⟨x27, e28, hr⟩ := bnd_some hr
            refine awl_v (av_call (z29_runs e28).x ent29 rfl rfl) ?_
            refine awl_v (av_build (qs := [(0, [.int .i64 x25]), (1, [.int .i64 x27])]) (cs := [.int .i64 x25, .int .i64 x27]) bt31 rfl rfl rfl) ?_
            refine awl_v (av_buildSlice (t := Y3) (qs := [(0, [.int .i64 x25, .int .i64 x27])]) (ys := [(x25, x27)]) bs25 rfl rfl rfl rfl rfl rfl rfl rfl) ?_
            obtain ⟨h29, hr⟩ := chk_some hr
            refine awl_op (aop_append rfl rfl app25 rfl rfl rfl h29 rfl ?_)
            refine awl_v (av_assign rfl) ?_
            refine awl_nil (ablock_norm (athen_norm ?_))
            refine awc_region ?_
            refine awl_v (av_add rfl rfl) ?_
            refine awl_v (av_move rfl) ?_
            have hr := Option.some.inj hr
            subst hr
            exact awl_nil ((wk_of hX [2, 1] 4 rfl rfl ⟨⟨_, rfl, cv0⟩, ⟨_, rfl, cv0⟩, ⟨_, rfl, cv0⟩, ⟨_, rfl, cv0⟩, ⟨_, rfl, cv0⟩, ⟨_, rfl, cv0⟩, ⟨_, rfl, cv0⟩, ⟨_, rfl, cv0⟩, ⟨_, rfl, cv0⟩, trivial⟩ ⟨cvo0, cvo0, trivial⟩))
          · obtain rfl := rb_f hc24 ho
            exact awc_exit (athen_exit (⟨rfl, (wk_of hX [0] 4 rfl rfl ⟨⟨_, rfl, cv0⟩, ⟨_, rfl, cv0⟩, ⟨_, rfl, cv0⟩, trivial⟩ ⟨cvo0, trivial⟩)⟩))
      · exact hx.elim
    · rintro i8 s10 o ho
      refine awc_seq ?_
      refine awc_region ?_
      refine awl_v (av_lss rfl rfl) ?_
      refine awl_nil (athen_norm (awc_seq ?_))
      refine awc_cond (b := decide (i8 < (List.length p1 : Int))) rfl (fun hc30 => ?_) (fun hc30 => ?_)
      · obtain ⟨q, hr, rfl⟩ := rb_t hc30 ho
        refine awc_skip (athen_norm ?_)
        obtain ⟨o32, e33, hr⟩ := bnd_some hr
        refine awc_join (S := List Int) (R := Unit) (fun s => match s with | s31 => (⟨[(1, .sl Y1 p1), (4, .nils), (5, .int .i64 0), (6, .sl (.slice .bool) x4), (7, .sl (.int .i64) x6), (8, .osl 0), (22, .sl Y1 p1), (23, .int .i64 (List.length p1 : Int)), (24, .int .i64 i8)], [(0, .sl 3 (.int .i64) s31)], 1⟩ : AS)) (fun _ _ _ => False) e33 (fun hr => ?_) ?_ ?_
        · refine awc_block (awc_seq ?_)
          refine awc_region ?_
          obtain ⟨x34, e35, hr⟩ := bnd_some hr
          refine awl_v (av_ia_sl (t := Y1) (e := x34) und22 sz39 rfl rfl e35) ?_
          refine awl_v (av_load_rpN ts39 rfl rfl rfl) ?_
          refine awl_op (aop_alloc zero39 rfl ?_)
          refine awl_op (aop_store sz39 rfl rfl rfl rfl rfl rfl rfl ?_)
          refine awl_nil (athen_norm (awc_seq ?_))
          refine awc_region ?_
          refine awl_v (av_fa_ptr fa39_1 rfl rfl) ?_
          refine awl_v (av_load_ptr ts3 rfl rfl rfl) ?_
          refine awl_v (av_eql rfl rfl) ?_
          refine awl_nil (athen_norm ?_)
          refine awc_cond (b := decide (x34.2.1 = 4)) rfl (fun hc36 => ?_) (fun hc36 => ?_)
          · have hr := if_t hc36 hr
            refine awc_region ?_
            refine awl_v (av_move rfl) ?_
            refine awl_v (av_fa_ptr fa39_3 rfl rfl) ?_
            refine awl_v (av_load_ptr ts3 rfl rfl rfl) ?_
            refine awl_v (av_buildSlice (t := (.int .i64)) (qs := [(0, [.int .i64 x34.2.2.2.1])]) (ys := [x34.2.2.2.1]) bs47 rfl rfl rfl rfl rfl rfl rfl rfl) ?_
            obtain ⟨h37, hr⟩ := chk_some hr
            refine awl_op (aop_append rfl rfl app47 rfl rfl rfl h37 rfl ?_)
            refine awl_v (av_assign rfl) ?_
            have hr := Option.some.inj hr
            subst hr
            exact awl_nil (ablock_norm ((wk_of hX [2] 4 rfl rfl ⟨⟨_, rfl, cv0⟩, ⟨_, rfl, cv0⟩, ⟨_, rfl, cv0⟩, ⟨_, rfl, cv0⟩, ⟨_, rfl, cv0⟩, ⟨_, rfl, cv0⟩, ⟨_, rfl, cv0⟩, ⟨_, rfl, cv0⟩, ⟨_, rfl, cv0⟩, trivial⟩ ⟨cvo0, trivial⟩)))
          · have hr := if_f hc36 hr
            have hr := Option.some.inj hr
            subst hr
            exact awc_skip (ablock_norm ((wk_of hX [0] 4 rfl rfl ⟨⟨_, rfl, cv0⟩, ⟨_, rfl, cv0⟩, ⟨_, rfl, cv0⟩, ⟨_, rfl, cv0⟩, ⟨_, rfl, cv0⟩, ⟨_, rfl, cv0⟩, ⟨_, rfl, cv0⟩, ⟨_, rfl, cv0⟩, ⟨_, rfl, cv0⟩, trivial⟩ ⟨cvo0, trivial⟩)))
        · rintro s31 rfl
          refine awc_region ?_
          refine awl_v (av_add rfl rfl) ?_
          refine awl_v (av_move rfl) ?_
          have hr := Option.some.inj hr
          subst hr
          exact awl_nil ((wk_of hX [0] 4 rfl rfl ⟨⟨_, rfl, cv0⟩, ⟨_, rfl, cv0⟩, ⟨_, rfl, cv0⟩, ⟨_, rfl, cv0⟩, ⟨_, rfl, cv0⟩, ⟨_, rfl, cv0⟩, ⟨_, rfl, cv0⟩, ⟨_, rfl, cv0⟩, ⟨_, rfl, cv0⟩, trivial⟩ ⟨cvo0, trivial⟩))
        · exact fun r h e st hne hx => hx.elim
      · obtain rfl := rb_f hc30 ho
        exact awc_exit (athen_exit (⟨rfl, (wk_of hX [0] 4 rfl rfl ⟨⟨_, rfl, cv0⟩, ⟨_, rfl, cv0⟩, ⟨_, rfl, cv0⟩, ⟨_, rfl, cv0⟩, ⟨_, rfl, cv0⟩, ⟨_, rfl, cv0⟩, trivial⟩ ⟨cvo0, trivial⟩)⟩))
theorem z30_rec {rec : Int → Str → (List (Int × Int)) → Str → (List (Int × Str)) → Option (Str)} {p0 : Int} {p1 : Str} {p2 : List (Int × Int)} {p3_0 : Str} {p4 : List (Int × Str)} {r : Str} (ih : ∀ {p0 : Int} {p1 : Str} {p2 : List (Int × Int)} {p3_0 : Str} {p4 : List (Int × Str)} {r : Str}, rec p0 p1 p2 p3_0 p4 = some r → RunsT (TabM tabsZ) Tryz.prog 30 [.int .i64 p0, .str p1, .rp [.sl Y3 p2], .ptr 0 0, .rp [.dm (.int .i64) .str p4], .ptr 1 0] [.bld 65 5 p3_0, .var 66 [.fn 30 [] [.rp [.sl Y3 p2], .ptr 0 0, .rp [.dm (.int .i64) .str p4], .ptr 1 0]]] (fun q Hq => q = [] ∧ Hq = [.bld 65 5 r, .var 66 [.fn 30 [] [.rp [.sl Y3 p2], .ptr 0 0, .rp [.dm (.int .i64) .str p4], .ptr 1 0]]])) (hr : z30_r rec p0 p1 p2 p3_0 p4 = some r) : RunsT (TabM tabsZ) Tryz.prog 30 [.int .i64 p0, .str p1, .rp [.sl Y3 p2], .ptr 0 0, .rp [.dm (.int .i64) .str p4], .ptr 1 0] [.bld 65 5 p3_0, .var 66 [.fn 30 [] [.rp [.sl Y3 p2], .ptr 0 0, .rp [.dm (.int .i64) .str p4], .ptr 1 0]]] (fun q Hq => q = [] ∧ Hq = [.bld 65 5 r, .var 66 [.fn 30 [] [.rp [.sl Y3 p2], .ptr 0 0, .rp [.dm (.int .i64) .str p4], .ptr 1 0]]]) := by
  refine runs_wT Tryz.func30 Tryz.ntmps30 rfl (rs := []) rfl rfl fun w0 X hT hX => ?_
  refine awc_seq ?_
  refine awc_region ?_
  refine awl_v (av_load_rp ts25 rfl) ?_
  refine awl_v (av_len_sl (t := Y3) rfl rfl und25 rfl) ?_
  refine awl_v (av_move rfl) ?_
  refine awl_nil (athen_norm (awc_block ?_))
  obtain ⟨o7, e8, hr⟩ := bnd_some hr
  refine awc_len (t := 10) rfl (fun hl => ?_)
  refine awc_range (S := Str) (R := Unit) (List.length p2 : Int) (z30_b0 p0 p1 p2 p4 rec) (fun p => match p with | (i2, s4) => (⟨[(0, .int .i64 p0), (1, .str p1), (3, .ptr 0 0), (4, .rp [.dm (.int .i64) .str p4]), (5, .ptr 1 0), (10, .sl Y3 p2), (11, .int .i64 (List.length p2 : Int)), (12, .int .i64 i2)], [(0, .bld 65 5 s4), (1, .var 66 [.fn 30 [] [.rp [.sl Y3 p2], .ptr 0 0, .rp [.dm (.int .i64) .str p4], .ptr 1 0]])], 2⟩ : AS)) (fun o e st => match o with | .inr _ => False | .inl s4 => e = .exit 0 ∧ Wk X st ⟨[], [(0, .bld 65 5 s4), (1, .var 66 [.fn 30 [] [.rp [.sl Y3 p2], .ptr 0 0, .rp [.dm (.int .i64) .str p4], .ptr 1 0]])], 2⟩) (len_ok hl) e8 (wk_of hX [0, 1] 4 rfl rfl ⟨⟨_, rfl, cv0⟩, ⟨_, rfl, cv0⟩, ⟨_, rfl, cv0⟩, ⟨_, rfl, cv0⟩, ⟨_, rfl, cv0⟩, ⟨_, rfl, cv0⟩, ⟨_, rfl, cv0⟩, ⟨_, rfl, cv0⟩, trivial⟩ ⟨cvo0, cvo0, trivial⟩) ?_ ?_
  · intro e st hx
    rcases o7 with s4 | _
    · obtain ⟨rfl, hw⟩ := hx
      have hr := Option.some.inj hr
      subst hr
      exact ablock_here (retW_norm (ret_o (l' := []) (Hs := [(0, .bld 65 5 s4), (1, .var 66 [.fn 30 [] [.rp [.sl Y3 p2], .ptr 0 0, .rp [.dm (.int .i64) .str p4], .ptr 1 0]])]) (n := 2) (Wk.trans hw (wk_of hX [0, 1] 4 rfl rfl trivial ⟨cvo0, cvo0, trivial⟩)) rfl rfl rfl trivial))
    · exact hx.elim
  · rintro i2 s4 o ho
    refine awc_seq ?_
    refine awc_region ?_
    refine awl_v (av_lss rfl rfl) ?_
    refine awl_nil (athen_norm (awc_seq ?_))
    refine awc_cond (b := decide (i2 < (List.length p2 : Int))) rfl (fun hc9 => ?_) (fun hc9 => ?_)
    · obtain ⟨q, hr, rfl⟩ := rb_t hc9 ho
      refine awc_skip (athen_norm ?_)
      obtain ⟨o11, e12, hr⟩ := bnd_some hr
      refine awc_join (S := Str) (R := Unit) (fun s => match s with | s10 => (⟨[(0, .int .i64 p0), (1, .str p1), (3, .ptr 0 0), (4, .rp [.dm (.int .i64) .str p4]), (5, .ptr 1 0), (10, .sl Y3 p2), (11, .int .i64 (List.length p2 : Int)), (12, .int .i64 i2)], [(0, .bld 65 5 s10), (1, .var 66 [.fn 30 [] [.rp [.sl Y3 p2], .ptr 0 0, .rp [.dm (.int .i64) .str p4], .ptr 1 0]])], 2⟩ : AS)) (fun _ _ _ => False) e12 (fun hr => ?_) ?_ ?_
      · refine awc_block (awc_seq ?_)
        refine awc_region ?_
        obtain ⟨x13, e14, hr⟩ := bnd_some hr
        refine awl_v (av_ia_sl (t := Y3) (e := x13) und25 sz31 rfl rfl e14) ?_
        refine awl_v (av_load_rpN ts31 rfl rfl rfl) ?_
        refine awl_op (aop_alloc zero31 rfl ?_)
        refine awl_op (aop_store sz31 rfl rfl rfl rfl rfl rfl rfl ?_)
        refine awl_nil (athen_norm (awc_seq ?_))
        refine awc_region ?_
        refine awl_v (av_ia_parr und31 sz3 rfl rfl rfl rfl) ?_
        refine awl_v (av_load_ptr ts3 rfl rfl rfl) ?_
        refine awl_v (av_move rfl) ?_
        refine awl_v (av_eql rfl rfl) ?_
        refine awl_nil (athen_norm ?_)
        refine awc_cond (b := decide (x13.2 = p0)) rfl (fun hc15 => ?_) (fun hc15 => ?_)
        · have hr := if_t hc15 hr
          refine awc_seq ?_
          obtain ⟨x16, e17, hr⟩ := bnd_some hr
          obtain ⟨h18, hr⟩ := chk_some hr
          obtain ⟨h19, hr⟩ := chk_some hr
          obtain ⟨h20, hr⟩ := chk_some hr
          obtain ⟨h21, hr⟩ := chk_some hr
          refine awc_draw_tail2 12 [4, 2, 3, 12, 5, 10, 9, 8, 9, 10, 11, 12] mixed [0, 1, 3, 4, 5, 10, 11, 12, 9] [(true, .str p1), (true, .ptr 2 0), (true, .int .i64 x13.1), (true, .str x16), (true, .str (p1 ++ x16)), (true, .str ((p1 ++ x16) ++ ([32] : Str))), (true, .dm (.int .i64) .str p4), (true, .ptr 2 0), (true, .int .i64 x13.1), (true, .str ((mget p4 x13.1).getD ([] : Str))), (true, .str (((p1 ++ x16) ++ ([32] : Str)) ++ ((mget p4 x13.1).getD ([] : Str)))), (true, .str ((((p1 ++ x16) ++ ([32] : Str)) ++ ((mget p4 x13.1).getD ([] : Str))) ++ ([10] : Str)))] [[], [], [1], [2], [0, 3], [4], [], [], [7], [6, 8], [5, 9], [10]] [11] rfl rfl rfl rfl rfl rfl rfl rfl ⟨?_, ?_, ?_, ?_, ?_, ?_, ?_, ?_, ?_, ?_, ?_, ?_, trivial⟩ (allT_of ⟨rfl, trivial⟩) ?_
          · exact ob_v rfl (fun hg => allT_of trivial) (fun hg => av_move rfl)
          · exact ob_v rfl (fun hg => allT_of trivial) (fun hg => av_ia_parr und31 sz3 rfl rfl rfl rfl)
          · exact ob_v rfl (fun hg => allT_of ⟨rfl, trivial⟩) (fun hg => av_load_ptr ts3 rfl rfl rfl)
          · exact ob_v rfl (fun hg => allT_of ⟨rfl, trivial⟩) (fun hg => av_call ((fItoa_runs e17).t hT) ent32 rfl rfl)
          · exact ob_v rfl (fun hg => allT_of ⟨rfl, rfl, trivial⟩) (fun hg => av_adds rfl rfl h18)
          · exact ob_v rfl (fun hg => allT_of ⟨rfl, trivial⟩) (fun hg => av_adds rfl rfl h19)
          · exact ob_v rfl (fun hg => allT_of trivial) (fun hg => av_load_rp ts61 rfl)
          · exact ob_v rfl (fun hg => allT_of trivial) (fun hg => av_ia_parr und31 sz3 rfl rfl rfl rfl)
          · exact ob_v rfl (fun hg => allT_of ⟨rfl, trivial⟩) (fun hg => av_load_ptr ts3 rfl rfl rfl)
          · exact ob_v rfl (fun hg => allT_of ⟨rfl, rfl, trivial⟩) (fun hg => av_lookup_dm (kx := x13.1) (r := .str ((mget p4 x13.1).getD ([] : Str))) und61 kt3 zw9 rfl rfl rfl rfl)
          · exact ob_v rfl (fun hg => allT_of ⟨rfl, rfl, trivial⟩) (fun hg => av_adds rfl rfl h20)
          · exact ob_v rfl (fun hg => allT_of ⟨rfl, trivial⟩) (fun hg => av_adds rfl rfl h21)
          obtain ⟨x22, e23, hr⟩ := bnd_some hr
          refine awl_op (aop_callO (σ := [0]) (as' := [.ptr 0 0, .str ((((p1 ++ x16) ++ ([32] : Str)) ++ ((mget p4 x13.1).getD ([] : Str))) ++ ([10] : Str))]) (fWS_runs e23).x ent31 rfl ⟨cv0, cv0, trivial⟩ rfl rfl rfl ?_)
          refine awl_nil (athen_norm ?_)
          refine awc_region ?_
          refine awl_v (av_load_ptr ts66 rfl rfl rfl) ?_
          refine awl_v (av_ia_parr und31 sz3 rfl rfl rfl rfl) ?_
          refine awl_v (av_load_ptr ts3 rfl rfl rfl) ?_
          refine awl_v (av_move rfl) ?_
          obtain ⟨h24, hr⟩ := chk_some hr
          refine awl_v (av_adds rfl rfl h24) ?_
          obtain ⟨x25, e26, hr⟩ := bnd_some hr
          refine awl_op (aop_callOv (σ := [0, 1]) (as' := [.int .i64 x13.1, .str (p1 ++ ([32, 32] : Str))]) rfl ((ih e26).t hT) ent30 rfl ⟨cv0, cv0, cv0, cv0, cv0, cv0, trivial⟩ rfl rfl rfl ?_)
          have hr := Option.some.inj hr
          subst hr
          exact awl_nil (ablock_norm ((wk_of hX [0, 1] 4 rfl rfl ⟨⟨_, rfl, cv0⟩, ⟨_, rfl, cv0⟩, ⟨_, rfl, cv0⟩, ⟨_, rfl, cv0⟩, ⟨_, rfl, cv0⟩, ⟨_, rfl, cv0⟩, ⟨_, rfl, cv0⟩, ⟨_, rfl, cv0⟩, trivial⟩ ⟨cvo0, cvo0, trivial⟩)))
        · have hr := if_f hc15 hr
          have hr := Option.some.inj hr
          subst hr
          exact awc_skip (ablock_norm ((wk_of hX [0, 1] 4 rfl rfl ⟨⟨_, rfl, cv0⟩, ⟨_, rfl, cv0⟩, ⟨_, rfl, cv0⟩, ⟨_, rfl, cv0⟩, ⟨_, rfl, cv0⟩, ⟨_, rfl, cv0⟩, ⟨_, rfl, cv0⟩, ⟨_, rfl, cv0⟩, trivial⟩ ⟨cvo0, cvo0, trivial⟩)))
      · rintro s10 rfl
        refine awc_region ?_
        refine awl_v (av_add rfl rfl) ?_
        refine awl_v (av_move rfl) ?_
        have hr := Option.some.inj hr
        subst hr
        exact awl_nil ((wk_of hX [0, 1] 4 rfl rfl ⟨⟨_, rfl, cv0⟩, ⟨_, rfl, cv0⟩, ⟨_, rfl, cv0⟩, ⟨_, rfl, cv0⟩, ⟨_, rfl, cv0⟩, ⟨_, rfl, cv0⟩, ⟨_, rfl, cv0⟩, ⟨_, rfl, cv0⟩, trivial⟩ ⟨cvo0, cvo0, trivial⟩))
      · exact fun r h e st hne hx => hx.elim
    · obtain rfl := rb_f hc9 ho
      exact awc_exit (athen_exit (⟨rfl, (wk_of hX [0, 1] 4 rfl rfl trivial ⟨cvo0, cvo0, trivial⟩)⟩))
theorem z30_runs : ∀ {n : Nat} {p0 : Int} {p1 : Str} {p2 : List (Int × Int)} {p3_0 : Str} {p4 : List (Int × Str)} {r : Str}, z30 n p0 p1 p2 p3_0 p4 = some r → RunsT (TabM tabsZ) Tryz.prog 30 [.int .i64 p0, .str p1, .rp [.sl Y3 p2], .ptr 0 0, .rp [.dm (.int .i64) .str p4], .ptr 1 0] [.bld 65 5 p3_0, .var 66 [.fn 30 [] [.rp [.sl Y3 p2], .ptr 0 0, .rp [.dm (.int .i64) .str p4], .ptr 1 0]]] (fun q Hq => q = [] ∧ Hq = [.bld 65 5 r, .var 66 [.fn 30 [] [.rp [.sl Y3 p2], .ptr 0 0, .rp [.dm (.int .i64) .str p4], .ptr 1 0]]]) := by
  intro n
  induction n with
  | zero => intro p0 p1 p2 p3_0 p4 r hr; exact nomatch (show (none : Option (Str)) = some r from hr)
  | succ n ih => intro p0 p1 p2 p3_0 p4 r hr; exact z30_rec (rec := z30 n) (fun h => ih h) hr
theorem z9_runs {p0 : Int} {p1 : List (Int × Int × Int × Int × Str)} {r : Str × Int} (hr : z9 p0 p1 = some r) : RunsT (TabM tabsZ) Tryz.prog 9 [.int .i64 p0, .sl Y1 p1] [] (fun q H' => q = [.str r.1, .int .i64 r.2] ∧ H' = []) := by
  refine runs_wT Tryz.func9 Tryz.ntmps9 rfl (rs := [.tmp 4, .tmp 5]) rfl rfl fun w0 X hT hX => ?_
  refine awc_seq ?_
  refine awc_region ?_
  refine awl_v (av_assign rfl) ?_
  refine awl_v (av_assign rfl) ?_
  refine awl_nil (athen_norm (awc_seq ?_))
  refine awc_region ?_
  refine awl_v (av_move rfl) ?_
  refine awl_v (av_move rfl) ?_
  obtain ⟨x1, e2, hr⟩ := bnd_some hr
  refine awl_v (av_call (f43_runs e2).x ent7 rfl rfl) ?_
  refine awl_v (av_move rfl) ?_
  refine awl_v (av_extract rfl rfl) ?_
  refine awl_v (av_extract rfl rfl) ?_
  refine awl_op (aop_alloc zero25 rfl ?_)
  refine awl_op (aop_store sz25 rfl rfl rfl rfl rfl rfl rfl ?_)
  refine awl_v (av_assign rfl) ?_
  refine awl_nil (athen_norm (awc_seq (awc_seq ?_)))
  refine awc_region ?_
  refine awl_v (av_move rfl) ?_
  refine awl_v (av_neq rfl rfl) ?_
  refine awl_nil (athen_norm ?_)
  refine awc_cond (b := !decide (x1.2 = 0)) rfl (fun hc3 => ?_) (fun hc3 => ?_)
  · have hr := if_t hc3 hr
    refine awc_seq ?_
    refine awc_region ?_
    refine awl_v (av_move rfl) ?_
    refine awl_v (av_assign rfl) ?_
    refine awl_v (av_assign rfl) ?_
    have hr := Option.some.inj hr
    subst hr
    exact awl_nil (athen_norm (awc_ret (athen_ret (ret_q (l' := [(4, .str ([] : Str)), (5, .int .i64 x1.2)]) (wk_of hX [] 4 rfl rfl ⟨⟨_, rfl, cv0⟩, ⟨_, rfl, cv0⟩, trivial⟩ trivial) rfl ⟨rfl, rfl, trivial⟩))))
  · have hr := if_f hc3 hr
    refine awc_skip (athen_norm (awc_seq ?_))
    refine awc_region ?_
    refine awl_op (aop_makeMap (.int .i64) .str rfl ?_)
    refine awl_op (aop_alloc zero61 rfl ?_)
    refine awl_op (aop_store sz61 rfl rfl rfl rfl rfl rfl rfl ?_)
    refine awl_nil (athen_norm (awc_seq (awc_seq ?_)))
    refine awc_region ?_
    refine awl_v (av_move rfl) ?_
    refine awl_v (av_len_sl (t := Y1) rfl rfl und22 rfl) ?_
    refine awl_v (av_move rfl) ?_
    refine awl_nil (athen_norm (awc_block ?_))
    obtain ⟨o9, e10, hr⟩ := bnd_some hr
    refine awc_len (t := 1) rfl (fun hl => ?_)
    refine awc_range (S := (List (Int × Str))) (R := Unit) (List.length p1 : Int) (z9_b0 p1) (fun p => match p with | (i4, s6) => (⟨[(4, .str ([] : Str)), (5, .int .i64 0), (6, .ptr 0 0), (8, .ptr 1 0), (23, .sl Y1 p1), (24, .int .i64 (List.length p1 : Int)), (25, .int .i64 i4)], [(0, .var 25 [.sl Y3 x1.1]), (1, .var 61 [.map 2]), (2, .map (.int .i64) .str s6)], 3⟩ : AS)) (fun o e st => match o with | .inr _ => False | .inl s6 => e = .exit 0 ∧ Wk X st ⟨[(4, .str ([] : Str)), (5, .int .i64 0), (6, .ptr 0 0), (8, .ptr 1 0)], [(0, .var 25 [.sl Y3 x1.1]), (1, .var 61 [.map 2]), (2, .map (.int .i64) .str s6)], 3⟩) (len_ok hl) e10 (wk_of hX [0, 2, 1] 4 rfl rfl ⟨⟨_, rfl, cv0⟩, ⟨_, rfl, cv0⟩, ⟨_, rfl, cv0⟩, ⟨_, rfl, cv0⟩, ⟨_, rfl, cv0⟩, ⟨_, rfl, cv0⟩, ⟨_, rfl, cv0⟩, trivial⟩ ⟨cvo0, cvo0, cvo0, trivial⟩) ?_ ?_
    · intro e st hx
      rcases o9 with s6 | _
      · obtain ⟨rfl, hw⟩ := hx
        refine ablock_here (athen_norm ((awc_wk hw) (awc_seq ?_)))
        refine awc_region ?_
        refine awl_op (aop_alloc zero65 rfl ?_)
        refine awl_wk (wk_bld (i := 3) 5 rfl rfl) ?_
        refine awl_nil (athen_norm (awc_seq ?_))
        refine awc_region ?_
        refine awl_op (aop_alloc zero66 rfl ?_)
        refine awl_nil (athen_norm (awc_seq ?_))
        refine awc_region ?_
        refine awl_v (av_makeFunc (us := []) (vs := [.ptr 0 0, .ptr 3 0, .ptr 1 0, .ptr 4 0]) rfl rfl) ?_
        refine awl_op (aop_store sz66 rfl rfl rfl rfl rfl rfl rfl ?_)
        refine awl_nil (athen_norm (awc_seq ?_))
        refine awc_region ?_
        refine awl_v (av_load_ptr ts66 rfl rfl rfl) ?_
        refine awl_wk (wk_of (st' := ⟨[(4, .str ([] : Str)), (5, .int .i64 0), (6, .rp [.sl Y3 x1.1]), (8, .rp [.dm (.int .i64) .str s6]), (11, .ptr 0 0), (12, .ptr 1 0), (38, .fn 30 [] [.rp [.sl Y3 x1.1], .ptr 0 0, .rp [.dm (.int .i64) .str s6], .ptr 1 0]), (39, .fn 30 [] [.rp [.sl Y3 x1.1], .ptr 0 0, .rp [.dm (.int .i64) .str s6], .ptr 1 0])], [(0, .bld 65 5 ([] : Str)), (1, .var 66 [.fn 30 [] [.rp [.sl Y3 x1.1], .ptr 0 0, .rp [.dm (.int .i64) .str s6], .ptr 1 0]])], 2⟩) hX [3, 4] 4 rfl rfl ⟨⟨_, rfl, cv0⟩, ⟨_, rfl, cv0⟩, ⟨_, rfl, cv0⟩, ⟨_, rfl, cv0⟩, ⟨_, rfl, cv0⟩, ⟨_, rfl, cv0⟩, ⟨_, rfl, cv0⟩, ⟨_, rfl, cv0⟩, trivial⟩ ⟨cvo0, cvo0, trivial⟩) ?_
        obtain ⟨x11, e12, hr⟩ := bnd_some hr
        refine awl_op (aop_callOv (σ := [0, 1]) (as' := [.int .i64 0, .str ([] : Str)]) rfl ((z30_runs e12).t hT) ent30 rfl ⟨cv0, cv0, cv0, cv0, cv0, cv0, trivial⟩ rfl rfl rfl ?_)
        refine awl_nil (athen_norm (awc_seq ?_))
        refine awc_region ?_
        obtain ⟨x13, e14, hr⟩ := bnd_some hr
        refine awl_op (aop_callO (σ := [0]) (as' := [.ptr 0 0]) (fBS_runs e14).x ent33 rfl ⟨cv0, trivial⟩ rfl rfl rfl ?_)
        refine awl_v (av_assign rfl) ?_
        refine awl_v (av_assign rfl) ?_
        have hr := Option.some.inj hr
        subst hr
        exact awl_nil (athen_norm (awc_ret (ret_q (l' := [(4, .str x13), (5, .int .i64 0)]) (wk_of hX [] 4 rfl rfl ⟨⟨_, rfl, cv0⟩, ⟨_, rfl, cv0⟩, trivial⟩ trivial) rfl ⟨rfl, rfl, trivial⟩)))
      · exact hx.elim
    · rintro i4 s6 o ho
      refine awc_seq ?_
      refine awc_region ?_
      refine awl_v (av_lss rfl rfl) ?_
      refine awl_nil (athen_norm (awc_seq ?_))
      refine awc_cond (b := decide (i4 < (List.length p1 : Int))) rfl (fun hc15 => ?_) (fun hc15 => ?_)
      · obtain ⟨q, hr, rfl⟩ := rb_t hc15 ho
        refine awc_skip (athen_norm ?_)
        obtain ⟨o17, e18, hr⟩ := bnd_some hr
        refine awc_join (S := (List (Int × Str))) (R := Unit) (fun s => match s with | s16 => (⟨[(4, .str ([] : Str)), (5, .int .i64 0), (6, .ptr 0 0), (8, .ptr 1 0), (23, .sl Y1 p1), (24, .int .i64 (List.length p1 : Int)), (25, .int .i64 i4)], [(0, .var 25 [.sl Y3 x1.1]), (1, .var 61 [.map 2]), (2, .map (.int .i64) .str s16)], 3⟩ : AS)) (fun _ _ _ => False) e18 (fun hr => ?_) ?_ ?_
        · refine awc_block (awc_seq ?_)
          refine awc_region ?_
          obtain ⟨x19, e20, hr⟩ := bnd_some hr
          refine awl_v (av_ia_sl (t := Y1) (e := x19) und22 sz39 rfl rfl e20) ?_
          refine awl_v (av_load_rpN ts39 rfl rfl rfl) ?_
          refine awl_op (aop_alloc zero39 rfl ?_)
          refine awl_op (aop_store sz39 rfl rfl rfl rfl rfl rfl rfl ?_)
          refine awl_nil (athen_norm (awc_seq ?_))
          refine awc_region ?_
          refine awl_v (av_fa_ptr fa39_1 rfl rfl) ?_
          refine awl_v (av_load_ptr ts3 rfl rfl rfl) ?_
          refine awl_v (av_eql rfl rfl) ?_
          refine awl_nil (athen_norm ?_)
          refine awc_cond (b := decide (x19.2.1 = 4)) rfl (fun hc21 => ?_) (fun hc21 => ?_)
          · have hr := if_t hc21 hr
            refine awc_region ?_
            refine awl_v (av_load_ptr ts61 rfl rfl rfl) ?_
            refine awl_v (av_fa_ptr fa39_3 rfl rfl) ?_
            refine awl_v (av_load_ptr ts3 rfl rfl rfl) ?_
            refine awl_v (av_fa_ptr fa39_4 rfl rfl) ?_
            refine awl_v (av_load_ptr ts9 rfl rfl rfl) ?_
            refine awl_op (aop_mapSet (kx := x19.2.2.2.1) (vx := x19.2.2.2.2) und61 kt3 (.inl rfl) rfl rfl rfl rfl rfl rfl rfl ?_)
            have hr := Option.some.inj hr
            subst hr
            exact awl_nil (ablock_norm ((wk_of hX [0, 1, 2] 4 rfl rfl ⟨⟨_, rfl, cv0⟩, ⟨_, rfl, cv0⟩, ⟨_, rfl, cv0⟩, ⟨_, rfl, cv0⟩, ⟨_, rfl, cv0⟩, ⟨_, rfl, cv0⟩, ⟨_, rfl, cv0⟩, trivial⟩ ⟨cvo0, cvo0, cvo0, trivial⟩)))
          · have hr := if_f hc21 hr
            have hr := Option.some.inj hr
            subst hr
            exact awc_skip (ablock_norm ((wk_of hX [0, 1, 2] 4 rfl rfl ⟨⟨_, rfl, cv0⟩, ⟨_, rfl, cv0⟩, ⟨_, rfl, cv0⟩, ⟨_, rfl, cv0⟩, ⟨_, rfl, cv0⟩, ⟨_, rfl, cv0⟩, ⟨_, rfl, cv0⟩, trivial⟩ ⟨cvo0, cvo0, cvo0, trivial⟩)))
        · rintro s16 rfl
          refine awc_region ?_
          refine awl_v (av_add rfl rfl) ?_
          refine awl_v (av_move rfl) ?_
          have hr := Option.some.inj hr
          subst hr
          exact awl_nil ((wk_of hX [0, 1, 2] 4 rfl rfl ⟨⟨_, rfl, cv0⟩, ⟨_, rfl, cv0⟩, ⟨_, rfl, cv0⟩, ⟨_, rfl, cv0⟩, ⟨_, rfl, cv0⟩, ⟨_, rfl, cv0⟩, ⟨_, rfl, cv0⟩, trivial⟩ ⟨cvo0, cvo0, cvo0, trivial⟩))
        · exact fun r h e st hne hx => hx.elim
      · obtain rfl := rb_f hc15 ho
        exact awc_exit (athen_exit (⟨rfl, (wk_of hX [0, 1, 2] 4 rfl rfl ⟨⟨_, rfl, cv0⟩, ⟨_, rfl, cv0⟩, ⟨_, rfl, cv0⟩, ⟨_, rfl, cv0⟩, trivial⟩ ⟨cvo0, cvo0, cvo0, trivial⟩)⟩))
theorem z34_rec {rec : (List (Int × Int × Int × Int × Str)) → (List (Int × Int)) → Int → Str → Option (Str)} {p0 : List (Int × Int × Int × Int × Str)} {p1 : List (Int × Int)} {p2 : Int} {p3 : Str} {r : Str} (ih : ∀ {p0 : List (Int × Int × Int × Int × Str)} {p1 : List (Int × Int)} {p2 : Int} {p3 : Str} {r : Str}, rec p0 p1 p2 p3 = some r → RunsT (TabM tabsZ) Tryz.prog 34 [.sl Y1 p0, .sl Y3 p1, .int .i64 p2, .str p3] [] (fun q H' => q = [.str r] ∧ H' = [])) (hr : z34_r rec p0 p1 p2 p3 = some r) : RunsT (TabM tabsZ) Tryz.prog 34 [.sl Y1 p0, .sl Y3 p1, .int .i64 p2, .str p3] [] (fun q H' => q = [.str r] ∧ H' = []) := by
  refine runs_wT Tryz.func34 Tryz.ntmps34 rfl (rs := [.tmp 8]) rfl rfl fun w0 X hT hX => ?_
  refine awc_seq ?_
  refine awc_region ?_
  refine awl_v (av_assign rfl) ?_
  refine awl_nil (athen_norm (awc_seq ?_))
  refine awc_region ?_
  refine awl_v (av_assign rfl) ?_
  refine awl_nil (athen_norm (awc_seq (awc_seq ?_)))
  refine awc_region ?_
  refine awl_v (av_move rfl) ?_
  refine awl_v (av_len_sl (t := Y3) rfl rfl und25 rfl) ?_
  refine awl_v (av_move rfl) ?_
  refine awl_nil (athen_norm (awc_block ?_))
  obtain ⟨o6, e7, hr⟩ := bnd_some hr
  refine awc_len (t := 1) rfl (fun hl => ?_)
  refine awc_range (S := Str) (R := Unit) (List.length p1 : Int) (z34_b0 p0 p1 p2 p3 rec) (fun p => match p with | (i1, s2) => (⟨[(0, .sl Y1 p0), (1, .sl Y3 p1), (2, .int .i64 p2), (3, .str p3), (8, .str ([] : Str)), (9, .str s2), (12, .sl Y3 p1), (13, .int .i64 (List.length p1 : Int)), (14, .int .i64 i1)], [], 0⟩ : AS)) (fun o e st => match o with | .inr _ => False | .inl s2 => e = .exit 0 ∧ Wk X st ⟨[(8, .str ([] : Str)), (9, .str s2)], [], 0⟩) (len_ok hl) e7 (wk_of hX [] 4 rfl rfl ⟨⟨_, rfl, cv0⟩, ⟨_, rfl, cv0⟩, ⟨_, rfl, cv0⟩, ⟨_, rfl, cv0⟩, ⟨_, rfl, cv0⟩, ⟨_, rfl, cv0⟩, ⟨_, rfl, cv0⟩, ⟨_, rfl, cv0⟩, ⟨_, rfl, cv0⟩, trivial⟩ trivial) ?_ ?_
  · intro e st hx
    rcases o6 with s2 | _
    · obtain ⟨rfl, hw⟩ := hx
      refine ablock_here (athen_norm ((awc_wk hw) (awc_seq ?_)))
      refine awc_region ?_
      refine awl_v (av_move rfl) ?_
      refine awl_v (av_assign rfl) ?_
      have hr := Option.some.inj hr
      subst hr
      exact awl_nil (athen_norm (awc_ret (ret_q (l' := [(8, .str s2)]) (wk_of hX [] 4 rfl rfl ⟨⟨_, rfl, cv0⟩, trivial⟩ trivial) rfl ⟨rfl, trivial⟩)))
    · exact hx.elim
  · rintro i1 s2 o ho
    refine awc_seq ?_
    refine awc_region ?_
    refine awl_v (av_lss rfl rfl) ?_
    refine awl_nil (athen_norm (awc_seq ?_))
    refine awc_cond (b := decide (i1 < (List.length p1 : Int))) rfl (fun hc8 => ?_) (fun hc8 => ?_)
    · obtain ⟨q, hr, rfl⟩ := rb_t hc8 ho
      refine awc_skip (athen_norm ?_)
      obtain ⟨o10, e11, hr⟩ := bnd_some hr
      refine awc_join (S := Str) (R := Unit) (fun s => match s with | s9 => (⟨[(0, .sl Y1 p0), (1, .sl Y3 p1), (2, .int .i64 p2), (3, .str p3), (8, .str ([] : Str)), (9, .str s9), (12, .sl Y3 p1), (13, .int .i64 (List.length p1 : Int)), (14, .int .i64 i1)], [], 0⟩ : AS)) (fun _ _ _ => False) e11 (fun hr => ?_) ?_ ?_
      · refine awc_block (awc_seq ?_)
        refine awc_region ?_
        obtain ⟨x12, e13, hr⟩ := bnd_some hr
        refine awl_v (av_ia_sl (t := Y3) (e := x12) und25 sz31 rfl rfl e13) ?_
        refine awl_v (av_load_rpN ts31 rfl rfl rfl) ?_
        refine awl_op (aop_alloc zero31 rfl ?_)
        refine awl_op (aop_store sz31 rfl rfl rfl rfl rfl rfl rfl ?_)
        refine awl_nil (athen_norm (awc_seq ?_))
        refine awc_region ?_
        refine awl_v (av_ia_parr und31 sz3 rfl rfl rfl rfl) ?_
        refine awl_v (av_load_ptr ts3 rfl rfl rfl) ?_
        refine awl_v (av_move rfl) ?_
        refine awl_v (av_eql rfl rfl) ?_
        refine awl_nil (athen_norm ?_)
        refine awc_cond (b := decide (x12.2 = p2)) rfl (fun hc14 => ?_) (fun hc14 => ?_)
        · have hr := if_t hc14 hr
          obtain ⟨x15, e16, hr⟩ := bnd_some hr
          obtain ⟨h17, hr⟩ := chk_some hr
          obtain ⟨h18, hr⟩ := chk_some hr
          obtain ⟨x19, e20, hr⟩ := bnd_some hr
          obtain ⟨x21, e22, hr⟩ := bnd_some hr
          obtain ⟨h23, hr⟩ := chk_some hr
          obtain ⟨h24, hr⟩ := chk_some hr
          obtain ⟨h25, hr⟩ := chk_some hr
          obtain ⟨x26, e27, hr⟩ := bnd_some hr
          obtain ⟨h28, hr⟩ := chk_some hr
          obtain ⟨h29, hr⟩ := chk_some hr
          refine awc_draw_tail2 26 [26, 26, 26, 26, 26, 26, 26, 26, 26, 26, 26, 26, 26, 26, 26, 26, 26, 26, 26, 26, 26, 26, 26, 26, 26, 26] mixed [0, 1, 2, 3, 8, 9, 12, 13, 14, 11] [(true, .str s2), (true, .str p3), (true, .ptr 0 0), (true, .int .i64 x12.1), (true, .str x15), (true, .str (p3 ++ x15)), (true, .str ((p3 ++ x15) ++ ([32] : Str))), (true, .sl Y1 p0), (true, .sl Y1 p0), (true, .ptr 0 0), (true, .int .i64 x12.1), (true, .int .i64 x19), (true, .rp [.int .i64 x21.1, .int .i64 x21.2.1, .int .i64 x21.2.2.1, .int .i64 x21.2.2.2.1, .str x21.2.2.2.2]), (true, .rp [.str x21.2.2.2.2]), (true, .str x21.2.2.2.2), (true, .str (((p3 ++ x15) ++ ([32] : Str)) ++ x21.2.2.2.2)), (true, .str ((((p3 ++ x15) ++ ([32] : Str)) ++ x21.2.2.2.2) ++ ([10] : Str))), (true, .sl Y1 p0), (true, .sl Y3 p1), (true, .ptr 0 0), (true, .int .i64 x12.1), (true, .str p3), (true, .str (p3 ++ ([32, 32] : Str))), (true, .str x26), (true, .str (((((p3 ++ x15) ++ ([32] : Str)) ++ x21.2.2.2.2) ++ ([10] : Str)) ++ x26)), (true, .str (s2 ++ (((((p3 ++ x15) ++ ([32] : Str)) ++ x21.2.2.2.2) ++ ([10] : Str)) ++ x26)))] [[], [], [], [2], [3], [1, 4], [5], [], [], [], [9], [8, 10], [7, 11], [12], [13], [6, 14], [15], [], [], [], [19], [], [21], [17, 18, 20, 22], [16, 23], [0, 24]] [25] rfl rfl rfl rfl rfl rfl rfl rfl ⟨?_, ?_, ?_, ?_, ?_, ?_, ?_, ?_, ?_, ?_, ?_, ?_, ?_, ?_, ?_, ?_, ?_, ?_, ?_, ?_, ?_, ?_, ?_, ?_, ?_, ?_, trivial⟩ (allT_of ⟨rfl, trivial⟩) ?_
          · exact ob_v rfl (fun hg => allT_of trivial) (fun hg => av_move rfl)
          · exact ob_v rfl (fun hg => allT_of trivial) (fun hg => av_move rfl)
          · exact ob_v rfl (fun hg => allT_of trivial) (fun hg => av_ia_parr und31 sz3 rfl rfl rfl rfl)
          · exact ob_v rfl (fun hg => allT_of ⟨rfl, trivial⟩) (fun hg => av_load_ptr ts3 rfl rfl rfl)
          · exact ob_v rfl (fun hg => allT_of ⟨rfl, trivial⟩) (fun hg => av_call ((fItoa_runs e16).t hT) ent32 rfl rfl)
          · exact ob_v rfl (fun hg => allT_of ⟨rfl, rfl, trivial⟩) (fun hg => av_adds rfl rfl h17)
          · exact ob_v rfl (fun hg => allT_of ⟨rfl, trivial⟩) (fun hg => av_adds rfl rfl h18)
          · exact ob_v rfl (fun hg => allT_of trivial) (fun hg => av_move rfl)
          · exact ob_v rfl (fun hg => allT_of trivial) (fun hg => av_move rfl)
          · exact ob_v rfl (fun hg => allT_of trivial) (fun hg => av_ia_parr und31 sz3 rfl rfl rfl rfl)
          · exact ob_v rfl (fun hg => allT_of ⟨rfl, trivial⟩) (fun hg => av_load_ptr ts3 rfl rfl rfl)
          · exact ob_v rfl (fun hg => allT_of ⟨rfl, rfl, trivial⟩) (fun hg => av_call (f51_runs e20).x ent55 rfl rfl)
          · exact ob_v rfl (fun hg => allT_of ⟨rfl, rfl, trivial⟩) (fun hg => av_ia_sl (t := Y1) (e := x21) und22 sz39 rfl rfl e22)
          · exact ob_v rfl (fun hg => allT_of ⟨rfl, trivial⟩) (fun hg => av_fa_rp fa39_4 rfl rfl)
          · exact ob_v rfl (fun hg => allT_of ⟨rfl, trivial⟩) (fun hg => av_load_rp ts9 rfl)
          · exact ob_v rfl (fun hg => allT_of ⟨rfl, rfl, trivial⟩) (fun hg => av_adds rfl rfl h23)
          · exact ob_v rfl (fun hg => allT_of ⟨rfl, trivial⟩) (fun hg => av_adds rfl rfl h24)
          · exact ob_v rfl (fun hg => allT_of trivial) (fun hg => av_move rfl)
          · exact ob_v rfl (fun hg => allT_of trivial) (fun hg => av_move rfl)
          · exact ob_v rfl (fun hg => allT_of trivial) (fun hg => av_ia_parr und31 sz3 rfl rfl rfl rfl)
          · exact ob_v rfl (fun hg => allT_of ⟨rfl, trivial⟩) (fun hg => av_load_ptr ts3 rfl rfl rfl)
          · exact ob_v rfl (fun hg => allT_of trivial) (fun hg => av_move rfl)
          · exact ob_v rfl (fun hg => allT_of ⟨rfl, trivial⟩) (fun hg => av_adds rfl rfl h25)
          · exact ob_v rfl (fun hg => allT_of ⟨rfl, rfl, rfl, rfl, trivial⟩) (fun hg => av_call ((ih e27).t hT) ent34 rfl rfl)
          · exact ob_v rfl (fun hg => allT_of ⟨rfl, rfl, trivial⟩) (fun hg => av_adds rfl rfl h28)
          · exact ob_v rfl (fun hg => allT_of ⟨rfl, rfl, trivial⟩) (fun hg => av_adds rfl rfl h29)
          refine awl_v (av_assign rfl) ?_
          have hr := Option.some.inj hr
          subst hr
          exact awl_nil (ablock_norm ((wk_of hX [] 4 rfl rfl ⟨⟨_, rfl, cv0⟩, ⟨_, rfl, cv0⟩, ⟨_, rfl, cv0⟩, ⟨_, rfl, cv0⟩, ⟨_, rfl, cv0⟩, ⟨_, rfl, cv0⟩, ⟨_, rfl, cv0⟩, ⟨_, rfl, cv0⟩, ⟨_, rfl, cv0⟩, trivial⟩ trivial)))
        · have hr := if_f hc14 hr
          have hr := Option.some.inj hr
          subst hr
          exact awc_skip (ablock_norm ((wk_of hX [] 4 rfl rfl ⟨⟨_, rfl, cv0⟩, ⟨_, rfl, cv0⟩, ⟨_, rfl, cv0⟩, ⟨_, rfl, cv0⟩, ⟨_, rfl, cv0⟩, ⟨_, rfl, cv0⟩, ⟨_, rfl, cv0⟩, ⟨_, rfl, cv0⟩, ⟨_, rfl, cv0⟩, trivial⟩ trivial)))
      · rintro s9 rfl
        refine awc_region ?_
        refine awl_v (av_add rfl rfl) ?_
        refine awl_v (av_move rfl) ?_
        have hr := Option.some.inj hr
        subst hr
        exact awl_nil ((wk_of hX [] 4 rfl rfl ⟨⟨_, rfl, cv0⟩, ⟨_, rfl, cv0⟩, ⟨_, rfl, cv0⟩, ⟨_, rfl, cv0⟩, ⟨_, rfl, cv0⟩, ⟨_, rfl, cv0⟩, ⟨_, rfl, cv0⟩, ⟨_, rfl, cv0⟩, ⟨_, rfl, cv0⟩, trivial⟩ trivial))
      · exact fun r h e st hne hx => hx.elim
    · obtain rfl := rb_f hc8 ho
      exact awc_exit (athen_exit (⟨rfl, (wk_of hX [] 4 rfl rfl ⟨⟨_, rfl, cv0⟩, ⟨_, rfl, cv0⟩, trivial⟩ trivial)⟩))
theorem z34_runs : ∀ {n : Nat} {p0 : List (Int × Int × Int × Int × Str)} {p1 : List (Int × Int)} {p2 : Int} {p3 : Str} {r : Str}, z34 n p0 p1 p2 p3 = some r → RunsT (TabM tabsZ) Tryz.prog 34 [.sl Y1 p0, .sl Y3 p1, .int .i64 p2, .str p3] [] (fun q H' => q = [.str r] ∧ H' = []) := by
  intro n
  induction n with
  | zero => intro p0 p1 p2 p3 r hr; exact nomatch (show (none : Option (Str)) = some r from hr)
  | succ n ih => intro p0 p1 p2 p3 r hr; exact z34_rec (rec := z34 n) (fun h => ih h) hr
theorem z10_runs {p0 : Int} {p1 : List (Int × Int × Int × Int × Str)} {r : Str × Int} (hr : z10 p0 p1 = some r) : RunsT (TabM tabsZ) Tryz.prog 10 [.int .i64 p0, .sl Y1 p1] [] (fun q H' => q = [.str r.1, .int .i64 r.2] ∧ H' = []) := by
  refine runs_wT Tryz.func10 Tryz.ntmps10 rfl (rs := [.tmp 4, .tmp 5]) rfl rfl fun w0 X hT hX => ?_
  refine awc_seq ?_
  refine awc_region ?_
  refine awl_v (av_assign rfl) ?_
  refine awl_v (av_assign rfl) ?_
  refine awl_nil (athen_norm (awc_seq ?_))
  refine awc_region ?_
  refine awl_v (av_move rfl) ?_
  refine awl_v (av_move rfl) ?_
  obtain ⟨x1, e2, hr⟩ := bnd_some hr
  refine awl_v (av_call (z8_runs e2).x ent8 rfl rfl) ?_
  refine awl_v (av_move rfl) ?_
  refine awl_v (av_extract rfl rfl) ?_
  refine awl_v (av_extract rfl rfl) ?_
  refine awl_v (av_assign rfl) ?_
  refine awl_v (av_assign rfl) ?_
  refine awl_nil (athen_norm (awc_seq (awc_seq ?_)))
  refine awc_region ?_
  refine awl_v (av_move rfl) ?_
  refine awl_v (av_neq rfl rfl) ?_
  refine awl_nil (athen_norm ?_)
  refine awc_cond (b := !decide (x1.2 = 0)) rfl (fun hc3 => ?_) (fun hc3 => ?_)
  · have hr := if_t hc3 hr
    refine awc_seq ?_
    refine awc_region ?_
    refine awl_v (av_move rfl) ?_
    refine awl_v (av_assign rfl) ?_
    refine awl_v (av_assign rfl) ?_
    have hr := Option.some.inj hr
    subst hr
    exact awl_nil (athen_norm (awc_ret (athen_ret (ret_q (l' := [(4, .str ([] : Str)), (5, .int .i64 x1.2)]) (wk_of hX [] 4 rfl rfl ⟨⟨_, rfl, cv0⟩, ⟨_, rfl, cv0⟩, trivial⟩ trivial) rfl ⟨rfl, rfl, trivial⟩))))
  · have hr := if_f hc3 hr
    refine awc_skip (athen_norm (awc_seq ?_))
    refine awc_region ?_
    refine awl_v (av_move rfl) ?_
    refine awl_v (av_move rfl) ?_
    obtain ⟨x4, e5, hr⟩ := bnd_some hr
    refine awl_v (av_call ((z34_runs e5).t hT) ent34 rfl rfl) ?_
    refine awl_v (av_assign rfl) ?_
    refine awl_v (av_assign rfl) ?_
    have hr := Option.some.inj hr
    subst hr
    exact awl_nil (athen_norm (awc_ret (ret_q (l' := [(4, .str x4), (5, .int .i64 0)]) (wk_of hX [] 4 rfl rfl ⟨⟨_, rfl, cv0⟩, ⟨_, rfl, cv0⟩, trivial⟩ trivial) rfl ⟨rfl, rfl, trivial⟩)))
theorem z3_runs {p0 : Int} {p1 : List (Int × Int × Int × Int × Str)} {r : Bool} (hr : z3 p0 p1 = some r) : RunsT (TabM tabsZ) Tryz.prog 3 [.int .i64 p0, .sl Y1 p1] [] (fun q H' => q = [.bool r] ∧ H' = []) := by
  refine runs_wT Tryz.func3 Tryz.ntmps3 rfl (rs := [.tmp 4]) rfl rfl fun w0 X hT hX => ?_
  refine awc_seq ?_
  refine awc_region ?_
  refine awl_v (av_assign rfl) ?_
  refine awl_nil (athen_norm (awc_seq (awc_seq ?_)))
  refine awc_region ?_
  refine awl_v (av_move rfl) ?_
  obtain ⟨x1, e2, hr⟩ := bnd_some hr
  refine awl_v (av_call (f14_runs e2).x ent5 rfl rfl) ?_
  refine awl_v (av_not rfl) ?_
  refine awl_nil (athen_norm ?_)
  refine awc_cond (b := !x1) rfl (fun hc3 => ?_) (fun hc3 => ?_)
  · have hr := if_t hc3 hr
    refine awc_seq ?_
    refine awc_region ?_
    obtain ⟨x4, e5, hr⟩ := bnd_some hr
    refine awl_v (av_call (f8_runs e5).x ent6 rfl rfl) ?_
    refine awl_v (av_assign rfl) ?_
    have hr := Option.some.inj hr
    subst hr
    exact awl_nil (athen_norm (awc_ret (athen_ret (ret_q (l' := [(4, .bool x4)]) (wk_of hX [] 4 rfl rfl ⟨⟨_, rfl, cv0⟩, trivial⟩ trivial) rfl ⟨rfl, trivial⟩))))
  · have hr := if_f hc3 hr
    refine awc_skip (athen_norm (awc_seq ?_))
    refine awc_region ?_
    refine awl_v (av_move rfl) ?_
    refine awl_v (av_move rfl) ?_
    obtain ⟨x6, e7, hr⟩ := bnd_some hr
    refine awl_v (av_call (f43_runs e7).x ent7 rfl rfl) ?_
    refine awl_v (av_move rfl) ?_
    refine awl_v (av_extract rfl rfl) ?_
    refine awl_v (av_extract rfl rfl) ?_
    refine awl_v (av_assign rfl) ?_
    refine awl_v (av_assign rfl) ?_
    refine awl_nil (athen_norm (awc_seq ?_))
    refine awc_region ?_
    refine awl_v (av_move rfl) ?_
    refine awl_v (av_move rfl) ?_
    obtain ⟨x8, e9, hr⟩ := bnd_some hr
    refine awl_v (av_call (z8_runs e9).x ent8 rfl rfl) ?_
    refine awl_v (av_move rfl) ?_
    refine awl_v (av_extract rfl rfl) ?_
    refine awl_v (av_extract rfl rfl) ?_
    refine awl_v (av_assign rfl) ?_
    refine awl_v (av_assign rfl) ?_
    refine awl_nil (athen_norm (awc_seq ?_))
    refine awc_region ?_
    refine awl_v (av_move rfl) ?_
    refine awl_v (av_move rfl) ?_
    obtain ⟨x10, e11, hr⟩ := bnd_some hr
    refine awl_v (av_call ((z9_runs e11).t hT) ent9 rfl rfl) ?_
    refine awl_v (av_move rfl) ?_
    refine awl_v (av_extract rfl rfl) ?_
    refine awl_v (av_extract rfl rfl) ?_
    refine awl_v (av_assign rfl) ?_
    refine awl_v (av_assign rfl) ?_
    refine awl_nil (athen_norm (awc_seq ?_))
    refine awc_region ?_
    refine awl_v (av_move rfl) ?_
    refine awl_v (av_move rfl) ?_
    obtain ⟨x12, e13, hr⟩ := bnd_some hr
    refine awl_v (av_call ((z10_runs e13).t hT) ent10 rfl rfl) ?_
    refine awl_v (av_move rfl) ?_
    refine awl_v (av_extract rfl rfl) ?_
    refine awl_v (av_extract rfl rfl) ?_
    refine awl_v (av_assign rfl) ?_
    refine awl_v (av_assign rfl) ?_
    refine awl_nil (athen_norm (awc_seq (awc_seq ?_)))
    refine awc_text [4, 5, 6, 7, 8, 9, 10, 11, 12] [(true, .int .i64 x6.2), (true, .int .i64 x8.2), (true, .bool (!decide (x6.2 = x8.2))), (true, .bool (!decide (x6.2 = x8.2))), (!(!decide (x6.2 = x8.2)), .sl Y3 x6.1), (!(!decide (x6.2 = x8.2)), .int .i64 (List.length x6.1 : Int)), (!(!decide (x6.2 = x8.2)), .sl Y3 x8.1), (!(!decide (x6.2 = x8.2)), .int .i64 (List.length x8.1 : Int)), (!(!decide (x6.2 = x8.2)), .bool (!decide ((List.length x6.1 : Int) = (List.length x8.1 : Int)))), (true, .bool ((!decide (x6.2 = x8.2)) || (!decide ((List.length x6.1 : Int) = (List.length x8.1 : Int))))), (true, .bool ((!decide (x6.2 = x8.2)) || (!decide ((List.length x6.1 : Int) = (List.length x8.1 : Int))))), (!((!decide (x6.2 = x8.2)) || (!decide ((List.length x6.1 : Int) = (List.length x8.1 : Int)))), .str x10.1), (!((!decide (x6.2 = x8.2)) || (!decide ((List.length x6.1 : Int) = (List.length x8.1 : Int)))), .str x12.1), (!((!decide (x6.2 = x8.2)) || (!decide ((List.length x6.1 : Int) = (List.length x8.1 : Int)))), .bool (!decide (x10.1 = x12.1))), (true, .bool (((!decide (x6.2 = x8.2)) || (!decide ((List.length x6.1 : Int) = (List.length x8.1 : Int)))) || (!decide (x10.1 = x12.1)))), (true, .bool (((!decide (x6.2 = x8.2)) || (!decide ((List.length x6.1 : Int) = (List.length x8.1 : Int)))) || (!decide (x10.1 = x12.1)))), (!(((!decide (x6.2 = x8.2)) || (!decide ((List.length x6.1 : Int) = (List.length x8.1 : Int)))) || (!decide (x10.1 = x12.1))), .int .i64 x10.2), (!(((!decide (x6.2 = x8.2)) || (!decide ((List.length x6.1 : Int) = (List.length x8.1 : Int)))) || (!decide (x10.1 = x12.1))), .int .i64 x12.2), (!(((!decide (x6.2 = x8.2)) || (!decide ((List.length x6.1 : Int) = (List.length x8.1 : Int)))) || (!decide (x10.1 = x12.1))), .bool (!decide (x10.2 = x12.2))), (true, .bool ((((!decide (x6.2 = x8.2)) || (!decide ((List.length x6.1 : Int) = (List.length x8.1 : Int)))) || (!decide (x10.1 = x12.1))) || (!decide (x10.2 = x12.2))))] [[], [], [0, 1], [2], [3], [4, 3], [3], [6, 3], [5, 7, 3], [8, 3], [9], [10], [10], [11, 12, 10], [13, 10], [14], [15], [15], [16, 17, 15], [18, 15]] [19] rfl rfl rfl rfl rfl ⟨?_, ?_, ?_, ?_, ?_, ?_, ?_, ?_, ?_, ?_, ?_, ?_, ?_, ?_, ?_, ?_, ?_, ?_, ?_, ?_, trivial⟩ (allT_of ⟨rfl, trivial⟩) ?_
    · exact ob_v rfl (fun hg => allT_of trivial) (fun hg => av_move rfl)
    · exact ob_v rfl (fun hg => allT_of trivial) (fun hg => av_move rfl)
    · exact ob_v rfl (fun hg => allT_of ⟨rfl, rfl, trivial⟩) (fun hg => av_neq rfl rfl)
    · exact ob_v rfl (fun hg => allT_of ⟨rfl, trivial⟩) (fun hg => av_move rfl)
    · exact ob_v ⟨rfl, rfl, rfl, _, rfl, rfl⟩ (fun hg => allT_of ⟨rfl, trivial⟩) (fun hg => av_move rfl)
    · exact ob_v ⟨rfl, rfl, rfl, _, rfl, rfl⟩ (fun hg => allT_of ⟨hg, rfl, trivial⟩) (fun hg => av_len_sl (t := Y3) rfl rfl und25 rfl)
    · exact ob_v ⟨rfl, rfl, rfl, _, rfl, rfl⟩ (fun hg => allT_of ⟨rfl, trivial⟩) (fun hg => av_move rfl)
    · exact ob_v ⟨rfl, rfl, rfl, _, rfl, rfl⟩ (fun hg => allT_of ⟨hg, rfl, trivial⟩) (fun hg => av_len_sl (t := Y3) rfl rfl und25 rfl)
    · exact ob_v ⟨rfl, rfl, rfl, _, rfl, rfl⟩ (fun hg => allT_of ⟨hg, hg, rfl, trivial⟩) (fun hg => av_neq rfl rfl)
    · exact ob_pick (b := false) (p := !decide (x6.2 = x8.2)) (q := !decide ((List.length x6.1 : Int) = (List.length x8.1 : Int))) rfl rfl rfl (fun hg => allT_of ⟨rfl, trivial⟩) rfl rfl rfl rfl rfl
    · exact ob_v rfl (fun hg => allT_of ⟨rfl, trivial⟩) (fun hg => av_move rfl)
    · exact ob_v ⟨rfl, rfl, rfl, _, rfl, rfl⟩ (fun hg => allT_of ⟨rfl, trivial⟩) (fun hg => av_move rfl)
    · exact ob_v ⟨rfl, rfl, rfl, _, rfl, rfl⟩ (fun hg => allT_of ⟨rfl, trivial⟩) (fun hg => av_move rfl)
    · exact ob_v ⟨rfl, rfl, rfl, _, rfl, rfl⟩ (fun hg => allT_of ⟨hg, hg, rfl, trivial⟩) (fun hg => av_neqs rfl rfl)
    · exact ob_pick (b := false) (p := (!decide (x6.2 = x8.2)) || (!decide ((List.length x6.1 : Int) = (List.length x8.1 : Int)))) (q := !decide (x10.1 = x12.1)) rfl rfl rfl (fun hg => allT_of ⟨rfl, trivial⟩) rfl rfl rfl rfl rfl
    · exact ob_v rfl (fun hg => allT_of ⟨rfl, trivial⟩) (fun hg => av_move rfl)
    · exact ob_v ⟨rfl, rfl, rfl, _, rfl, rfl⟩ (fun hg => allT_of ⟨rfl, trivial⟩) (fun hg => av_move rfl)
    · exact ob_v ⟨rfl, rfl, rfl, _, rfl, rfl⟩ (fun hg => allT_of ⟨rfl, trivial⟩) (fun hg => av_move rfl)
    · exact ob_v ⟨rfl, rfl, rfl, _, rfl, rfl⟩ (fun hg => allT_of ⟨hg, hg, rfl, trivial⟩) (fun hg => av_neq rfl rfl)
    · exact ob_pick (b := false) (p := ((!decide (x6.2 = x8.2)) || (!decide ((List.length x6.1 : Int) = (List.length x8.1 : Int)))) || (!decide (x10.1 = x12.1))) (q := !decide (x10.2 = x12.2)) rfl rfl rfl (fun hg => allT_of ⟨rfl, trivial⟩) rfl rfl rfl rfl rfl
    refine athen_norm ?_
    refine awc_cond (b := (((!decide (x6.2 = x8.2)) || (!decide ((List.length x6.1 : Int) = (List.length x8.1 : Int)))) || (!decide (x10.1 = x12.1))) || (!decide (x10.2 = x12.2))) rfl (fun hc14 => ?_) (fun hc14 => ?_)
    · have hr := if_t hc14 hr
      refine awc_seq ?_
      refine awc_region ?_
      refine awl_v (av_assign rfl) ?_
      have hr := Option.some.inj hr
      subst hr
      exact awl_nil (athen_norm (awc_ret (athen_ret (ret_q (l' := [(4, .bool false)]) (wk_of hX [] 4 rfl rfl ⟨⟨_, rfl, cv0⟩, trivial⟩ trivial) rfl ⟨rfl, trivial⟩))))
    · have hr := if_f hc14 hr
      refine awc_skip (athen_norm (awc_seq (awc_seq ?_)))
      refine awc_region ?_
      refine awl_v (av_move rfl) ?_
      refine awl_v (av_len_sl (t := Y3) rfl rfl und25 rfl) ?_
      refine awl_v (av_move rfl) ?_
      refine awl_nil (athen_norm (awc_block ?_))
      obtain ⟨o17, e18, hr⟩ := bnd_some hr
      refine awc_len (t := 5) rfl (fun hl => ?_)
      refine awc_range (S := Unit) (R := Unit) (List.length x6.1 : Int) (z3_b0 x6 x8) (fun p => match p with | (i15, ()) => (⟨[(4, .bool false), (5, .sl Y3 x6.1), (7, .sl Y3 x8.1), (63, .int .i64 (List.length x6.1 : Int)), (64, .int .i64 i15)], [], 0⟩ : AS)) (fun o e st => match o with | .inl () => e = .exit 0 ∧ Wk X st ⟨[(4, .bool false)], [], 0⟩ | .inr () => e = .ret ∧ Wk X st ⟨[(4, .bool false)], [], 0⟩) (len_ok hl) e18 (wk_of hX [] 4 rfl rfl ⟨⟨_, rfl, cv0⟩, ⟨_, rfl, cv0⟩, ⟨_, rfl, cv0⟩, ⟨_, rfl, cv0⟩, ⟨_, rfl, cv0⟩, trivial⟩ trivial) ?_ ?_
      · intro e st hx
        rcases o17 with _ | _
        · obtain ⟨rfl, hw⟩ := hx
          refine ablock_here (athen_norm ((awc_wk hw) (awc_seq ?_)))
          refine awc_region ?_
          obtain ⟨x19, e20, hr⟩ := bnd_some hr
          refine awl_v (av_call (f8_runs e20).x ent6 rfl rfl) ?_
          refine awl_v (av_assign rfl) ?_
          have hr := Option.some.inj hr
          subst hr
          exact awl_nil (athen_norm (awc_ret (ret_q (l' := [(4, .bool x19)]) (wk_of hX [] 4 rfl rfl ⟨⟨_, rfl, cv0⟩, trivial⟩ trivial) rfl ⟨rfl, trivial⟩)))
        · obtain ⟨rfl, hw⟩ := hx
          have hr := Option.some.inj hr
          subst hr
          exact ablock_ret (athen_ret (ret_q (l' := [(4, .bool false)]) (Wk.trans hw (wk_of hX [] 4 rfl rfl ⟨⟨_, rfl, cv0⟩, trivial⟩ trivial)) rfl ⟨rfl, trivial⟩))
      · rintro i15 _ o ho
        refine awc_seq ?_
        refine awc_region ?_
        refine awl_v (av_lss rfl rfl) ?_
        refine awl_nil (athen_norm (awc_seq ?_))
        refine awc_cond (b := decide (i15 < (List.length x6.1 : Int))) rfl (fun hc21 => ?_) (fun hc21 => ?_)
        · obtain ⟨q, hr, rfl⟩ := rb_t hc21 ho
          refine awc_skip (athen_norm (awc_seq (awc_block (awc_seq ?_))))
          refine awc_region ?_
          refine awl_v (av_move rfl) ?_
          refine awl_v (av_assign rfl) ?_
          refine awl_nil (athen_norm (awc_seq ?_))
          obtain ⟨x22, e23, hr⟩ := bnd_some hr
          obtain ⟨x24, e25, hr⟩ := bnd_some hr
          refine awc_draw mixed [4, 5, 7, 63, 64, 13] [(true, .sl Y3 x6.1), (true, .int .i64 i15), (true, .rp [.int .i64 x22.1, .int .i64 x22.2]), (true, .agg [.int .i64 x22.1, .int .i64 x22.2]), (true, .sl Y3 x8.1), (true, .int .i64 i15), (true, .rp [.int .i64 x24.1, .int .i64 x24.2]), (true, .agg [.int .i64 x24.1, .int .i64 x24.2]), (true, .bool (!((decide (x22.1 = x24.1)) && (decide (x22.2 = x24.2)))))] [[], [], [0, 1], [2], [], [], [4, 5], [6], [3, 7]] [8] rfl rfl rfl rfl rfl ⟨?_, ?_, ?_, ?_, ?_, ?_, ?_, ?_, ?_, trivial⟩ (allT_of ⟨rfl, trivial⟩) ?_
          · exact ob_v rfl (fun hg => allT_of trivial) (fun hg => av_move rfl)
          · exact ob_v rfl (fun hg => allT_of trivial) (fun hg => av_move rfl)
          · exact ob_v rfl (fun hg => allT_of ⟨rfl, rfl, trivial⟩) (fun hg => av_ia_sl (t := Y3) (e := x22) und25 sz31 rfl rfl e23)
          · exact ob_v rfl (fun hg => allT_of ⟨rfl, trivial⟩) (fun hg => av_load_rpN ts31 rfl rfl rfl)
          · exact ob_v rfl (fun hg => allT_of trivial) (fun hg => av_move rfl)
          · exact ob_v rfl (fun hg => allT_of trivial) (fun hg => av_move rfl)
          · exact ob_v rfl (fun hg => allT_of ⟨rfl, rfl, trivial⟩) (fun hg => av_ia_sl (t := Y3) (e := x24) und25 sz31 rfl rfl e25)
          · exact ob_v rfl (fun hg => allT_of ⟨rfl, trivial⟩) (fun hg => av_load_rpN ts31 rfl rfl rfl)
          · exact ob_v rfl (fun hg => allT_of ⟨rfl, rfl, trivial⟩) (fun hg => av_neqA (r := (decide (x22.1 = x24.1)) && (decide (x22.2 = x24.2))) eq31 rfl rfl rfl rfl rfl rfl)
          refine athen_norm ?_
          refine awc_cond (b := !((decide (x22.1 = x24.1)) && (decide (x22.2 = x24.2)))) rfl (fun hc26 => ?_) (fun hc26 => ?_)
          · have hr := if_t hc26 hr
            refine awc_seq ?_
            refine awc_region ?_
            refine awl_v (av_assign rfl) ?_
            have hr := Option.some.inj hr
            subst hr
            exact awl_nil (athen_norm (awc_ret (ablock_ret (athen_ret (⟨rfl, (wk_of hX [] 4 rfl rfl ⟨⟨_, rfl, cv0⟩, trivial⟩ trivial)⟩)))))
          · have hr := if_f hc26 hr
            refine awc_skip (ablock_norm (athen_norm ?_))
            refine awc_region ?_
            refine awl_v (av_add rfl rfl) ?_
            refine awl_v (av_move rfl) ?_
            have hr := Option.some.inj hr
            subst hr
            exact awl_nil ((wk_of hX [] 4 rfl rfl ⟨⟨_, rfl, cv0⟩, ⟨_, rfl, cv0⟩, ⟨_, rfl, cv0⟩, ⟨_, rfl, cv0⟩, ⟨_, rfl, cv0⟩, trivial⟩ trivial))
        · obtain rfl := rb_f hc21 ho
          exact awc_exit (athen_exit (⟨rfl, (wk_of hX [] 4 rfl rfl ⟨⟨_, rfl, cv0⟩, trivial⟩ trivial)⟩))
end Go.Ab

