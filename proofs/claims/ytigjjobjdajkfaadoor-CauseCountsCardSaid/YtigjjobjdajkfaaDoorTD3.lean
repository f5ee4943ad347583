/- Lemmas for a law of the seat: what functions of the program do, each stated as a contract of its own (TD3). -/
import Derived.Test.YtigjjobjdajkfaaDoorLayD
import Derived.Test.YtigjjobjdajkfaaDoorAb3
import Derived.Test.YtigjjobjdajkfaaDoorChecked
import Derived.Test.YtigjjobjdajkfaaDoorTDd
import Derived.Test.YtigjjobjdajkfaaDoorTD2
set_option linter.unusedVariables false
set_option maxRecDepth 100000
namespace Go.Ab
open Go.RowKit Go.Shelf Go.Proofs Go.Eng
theorem ent22 : Enters Tryd.prog 22 := enters_of Tryd.func22 (by kernel_rfl) rfl
theorem ent23 : Enters Tryd.prog 23 := enters_of Tryd.func23 (by kernel_rfl) rfl
theorem ent9 : Enters Tryd.prog 9 := enters_of Tryd.func9 (by kernel_rfl) rfl
theorem ent8 : Enters Tryd.prog 8 := enters_of Tryd.func8 (by kernel_rfl) rfl
theorem ent10 : Enters Tryd.prog 10 := enters_of Tryd.func10 (by kernel_rfl) rfl
theorem ent11 : Enters Tryd.prog 11 := enters_of Tryd.func11 (by kernel_rfl) rfl
theorem ent12 : Enters Tryd.prog 12 := enters_of Tryd.func12 (by kernel_rfl) rfl
theorem zt38 : ZeroT Tryd.prog 38 (.slice (.int .i64)) 24 := zeroT_of (z := .slice none 0 0) (by kernel_rfl) rfl
theorem zero41 : Eng.Zero Tryd.prog 41 (.agg #[.int .i64 0, .int .i64 0, .int .i64 0, .int .i64 0, .int .i64 0, .int .i64 0, .int .i64 0, .int .i64 0, .int .i64 0, .int .i64 0, .int .i64 0, .int .i64 0, .int .i64 0, .int .i64 0, .int .i64 0, .int .i64 0]) := fun w => by kernel_rfl
theorem bt41 : BuildT Tryd.prog 41 (.agg #[.int .i64 0, .int .i64 0, .int .i64 0, .int .i64 0, .int .i64 0, .int .i64 0, .int .i64 0, .int .i64 0, .int .i64 0, .int .i64 0, .int .i64 0, .int .i64 0, .int .i64 0, .int .i64 0, .int .i64 0, .int .i64 0]) (fun i => some (i * 1, 1)) := buildT_array (n := 16) zero41 (by kernel_rfl) sz3
theorem und42 : Und Tryd.prog 42 (.map 41 4) := by unfold Und; kernel_rfl
theorem kt41 : KeyT Tryd.prog 41 (.arr 16 (.int .i64)) := keyT_arr (E := 3) (by kernel_rfl) (by kernel_rfl) (by kernel_rfl) (by kernel_rfl)
theorem bs43 : BuildS Tryd.prog 43 41 (.arr 16 (.int .i64)) := buildS_of (z := .agg #[.int .i64 0, .int .i64 0, .int .i64 0, .int .i64 0, .int .i64 0, .int .i64 0, .int .i64 0, .int .i64 0, .int .i64 0, .int .i64 0, .int .i64 0, .int .i64 0, .int .i64 0, .int .i64 0, .int .i64 0, .int .i64 0]) (by kernel_rfl) (by kernel_rfl) rfl
theorem und43 : Und Tryd.prog 43 (.slice 41) := by unfold Und; kernel_rfl
theorem sz41 : Sz Tryd.prog 41 16 := fun w => by kernel_rfl
theorem ts41 : TyS Tryd.prog 41 true 16 := ⟨fun w => by kernel_rfl, fun w => by kernel_rfl⟩
theorem und41 : Und Tryd.prog 41 (.array 16 3) := by unfold Und; kernel_rfl
theorem app43 : AppT Tryd.prog 43 41 (Ty.cells (.arr 16 (.int .i64))) 128 := appT_of (z := .agg #[.int .i64 0, .int .i64 0, .int .i64 0, .int .i64 0, .int .i64 0, .int .i64 0, .int .i64 0, .int .i64 0, .int .i64 0, .int .i64 0, .int .i64 0, .int .i64 0, .int .i64 0, .int .i64 0, .int .i64 0, .int .i64 0]) (by kernel_rfl) (by kernel_rfl) rfl rfl
theorem ent40 : Enters Tryd.prog 40 := enters_of Tryd.func40 (by kernel_rfl) rfl
theorem ent41 : Enters Tryd.prog 41 := enters_of Tryd.func41 (by kernel_rfl) rfl
theorem ent27 : Enters Tryd.prog 27 := enters_of Tryd.func27 (by kernel_rfl) rfl
theorem und45 : Und Tryd.prog 45 (.slice 48) := by unfold Und; kernel_rfl
theorem zt48 : ZeroT Tryd.prog 48 (.slice .bool) 24 := zeroT_of (z := .slice none 0 0) (by kernel_rfl) rfl
theorem und48 : Und Tryd.prog 48 (.slice 4) := by unfold Und; kernel_rfl
theorem zt4 : ZeroT Tryd.prog 4 .bool 1 := zeroT_of (z := .bool false) (by kernel_rfl) rfl
theorem sz48 : Sz Tryd.prog 48 1 := fun w => by kernel_rfl
theorem ent28 : Enters Tryd.prog 28 := enters_of Tryd.func28 (by kernel_rfl) rfl
theorem ts48 : TyS Tryd.prog 48 false 1 := ⟨fun w => by kernel_rfl, fun w => by kernel_rfl⟩
theorem sz4 : Sz Tryd.prog 4 1 := fun w => by kernel_rfl
theorem ts4 : TyS Tryd.prog 4 false 1 := ⟨fun w => by kernel_rfl, fun w => by kernel_rfl⟩
theorem f32_runs {p0 : Int} {p1 : List (Int × Int × Int × Int × Str)} {p2 : List Int} {r : Bool × Int} (hr : f32 p0 p1 p2 = some r) : RunsP Tryd.prog 11 [.int .i64 p0, .sl Y1 p1, .sl (.int .i64) p2] [.bool r.1, .int .i64 r.2] := by
  refine runs_w Tryd.func11 Tryd.ntmps11 rfl (rs := [.tmp 6, .tmp 7]) rfl rfl fun w0 X hX => ?_
  refine awc_seq ?_
  refine awc_region ?_
  refine awl_v (av_assign rfl) ?_
  refine awl_v (av_assign rfl) ?_
  refine awl_nil (athen_norm (awc_seq (awc_seq ?_)))
  refine awc_region ?_
  refine awl_v (av_move rfl) ?_
  refine awl_v (av_move rfl) ?_
  refine awl_v (av_move rfl) ?_
  obtain ⟨x1, e2, hr⟩ := bnd_some hr
  refine awl_v (av_call (f63_runs e2).x ent22 rfl rfl) ?_
  refine awl_v (av_assign rfl) ?_
  refine awl_nil (athen_norm (awc_seq ?_))
  refine awc_region ?_
  refine awl_v (av_move rfl) ?_
  refine awl_v (av_neq rfl rfl) ?_
  refine awl_nil (athen_norm ?_)
  refine awc_cond (b := !decide (x1 = 0)) rfl (fun hc3 => ?_) (fun hc3 => ?_)
  · have hr := if_t hc3 hr
    refine awc_seq ?_
    refine awc_region ?_
    refine awl_v (av_move rfl) ?_
    refine awl_v (av_assign rfl) ?_
    refine awl_v (av_assign rfl) ?_
    have hr := Option.some.inj hr
    subst hr
    exact awl_nil (athen_norm (awc_ret (athen_ret (ret_q (l' := [(6, .bool false), (7, .int .i64 x1)]) (wk_of hX [] 4 rfl rfl ⟨⟨_, rfl, cv0⟩, ⟨_, rfl, cv0⟩, trivial⟩ trivial) rfl ⟨rfl, rfl, trivial⟩))))
  · have hr := if_f hc3 hr
    refine awc_skip (athen_norm (awc_seq ?_))
    refine awc_region ?_
    refine awl_v (av_move rfl) ?_
    refine awl_v (av_move rfl) ?_
    refine awl_v (av_move rfl) ?_
    obtain ⟨x4, e5, hr⟩ := bnd_some hr
    refine awl_v (av_call (f52_runs e5).x ent14 rfl rfl) ?_
    refine awl_v (av_move rfl) ?_
    obtain ⟨x6, e7, hr⟩ := bnd_some hr
    refine awl_v (av_call (f64_runs e7).x ent23 rfl rfl) ?_
    refine awl_v (av_assign rfl) ?_
    refine awl_v (av_assign rfl) ?_
    have hr := Option.some.inj hr
    subst hr
    exact awl_nil (athen_norm (awc_ret (ret_q (l' := [(6, .bool x6), (7, .int .i64 0)]) (wk_of hX [] 4 rfl rfl ⟨⟨_, rfl, cv0⟩, ⟨_, rfl, cv0⟩, trivial⟩ trivial) rfl ⟨rfl, rfl, trivial⟩)))
theorem f13_runs {p0 : List Int} {p1 : List Int} {r : Bool} (hr : f13 p0 p1 = some r) : RunsP Tryd.prog 12 [.sl (.int .i64) p0, .sl (.int .i64) p1] [.bool r] := by
  refine runs_w Tryd.func12 Tryd.ntmps12 rfl (rs := [.tmp 4]) rfl rfl fun w0 X hX => ?_
  refine awc_seq ?_
  refine awc_region ?_
  refine awl_v (av_assign rfl) ?_
  refine awl_nil (athen_norm (awc_seq (awc_seq ?_)))
  refine awc_region ?_
  refine awl_v (av_move rfl) ?_
  refine awl_v (av_len_sl (t := (.int .i64)) rfl rfl und38 rfl) ?_
  refine awl_v (av_move rfl) ?_
  refine awl_v (av_len_sl (t := (.int .i64)) rfl rfl und38 rfl) ?_
  refine awl_v (av_neq rfl rfl) ?_
  refine awl_nil (athen_norm ?_)
  refine awc_cond (b := !decide ((List.length p0 : Int) = (List.length p1 : Int))) rfl (fun hc1 => ?_) (fun hc1 => ?_)
  · have hr := if_t hc1 hr
    refine awc_seq ?_
    refine awc_region ?_
    refine awl_v (av_assign rfl) ?_
    have hr := Option.some.inj hr
    subst hr
    exact awl_nil (athen_norm (awc_ret (athen_ret (ret_q (l' := [(4, .bool false)]) (wk_of hX [] 4 rfl rfl ⟨⟨_, rfl, cv0⟩, trivial⟩ trivial) rfl ⟨rfl, trivial⟩))))
  · have hr := if_f hc1 hr
    refine awc_skip (athen_norm (awc_seq (awc_seq ?_)))
    refine awc_region ?_
    refine awl_v (av_move rfl) ?_
    refine awl_v (av_len_sl (t := (.int .i64)) rfl rfl und38 rfl) ?_
    refine awl_v (av_move rfl) ?_
    refine awl_nil (athen_norm (awc_block ?_))
    obtain ⟨o4, e5, hr⟩ := bnd_some hr
    refine awc_len (t := 0) rfl (fun hl => ?_)
    refine awc_range (S := Unit) (R := Unit) (List.length p0 : Int) (f13_b0 p0 p1) (fun p => match p with | (i2, ()) => (⟨[(0, .sl (.int .i64) p0), (1, .sl (.int .i64) p1), (4, .bool false), (12, .int .i64 (List.length p0 : Int)), (13, .int .i64 i2)], [], 0⟩ : AS)) (fun o e st => match o with | .inl () => e = .exit 0 ∧ Wk X st ⟨[(4, .bool false)], [], 0⟩ | .inr () => e = .ret ∧ Wk X st ⟨[(4, .bool false)], [], 0⟩) (len_ok hl) e5 (wk_of hX [] 4 rfl rfl ⟨⟨_, rfl, cv0⟩, ⟨_, rfl, cv0⟩, ⟨_, rfl, cv0⟩, ⟨_, rfl, cv0⟩, ⟨_, rfl, cv0⟩, trivial⟩ trivial) ?_ ?_
    · intro e st hx
      rcases o4 with _ | _
      · obtain ⟨rfl, hw⟩ := hx
        refine ablock_here (athen_norm ((awc_wk hw) (awc_seq ?_)))
        refine awc_region ?_
        refine awl_v (av_assign rfl) ?_
        have hr := Option.some.inj hr
        subst hr
        exact awl_nil (athen_norm (awc_ret (ret_q (l' := [(4, .bool true)]) (wk_of hX [] 4 rfl rfl ⟨⟨_, rfl, cv0⟩, trivial⟩ trivial) rfl ⟨rfl, trivial⟩)))
      · obtain ⟨rfl, hw⟩ := hx
        have hr := Option.some.inj hr
        subst hr
        exact ablock_ret (athen_ret (ret_q (l' := [(4, .bool false)]) (Wk.trans hw (wk_of hX [] 4 rfl rfl ⟨⟨_, rfl, cv0⟩, trivial⟩ trivial)) rfl ⟨rfl, trivial⟩))
    · rintro i2 _ o ho
      refine awc_seq ?_
      refine awc_region ?_
      refine awl_v (av_lss rfl rfl) ?_
      refine awl_nil (athen_norm (awc_seq ?_))
      refine awc_cond (b := decide (i2 < (List.length p0 : Int))) rfl (fun hc6 => ?_) (fun hc6 => ?_)
      · obtain ⟨q, hr, rfl⟩ := rb_t hc6 ho
        refine awc_skip (athen_norm (awc_seq (awc_block (awc_seq ?_))))
        refine awc_region ?_
        refine awl_v (av_move rfl) ?_
        refine awl_v (av_assign rfl) ?_
        refine awl_nil (athen_norm (awc_seq ?_))
        obtain ⟨x7, e8, hr⟩ := bnd_some hr
        obtain ⟨x9, e10, hr⟩ := bnd_some hr
        refine awc_draw mixed [0, 1, 4, 12, 13, 5] [(true, .sl (.int .i64) p0), (true, .int .i64 i2), (true, .rp [.int .i64 x7]), (true, .int .i64 x7), (true, .sl (.int .i64) p1), (true, .int .i64 i2), (true, .rp [.int .i64 x9]), (true, .int .i64 x9), (true, .bool (!decide (x7 = x9)))] [[], [], [0, 1], [2], [], [], [4, 5], [6], [3, 7]] [8] rfl rfl rfl rfl rfl ⟨?_, ?_, ?_, ?_, ?_, ?_, ?_, ?_, ?_, trivial⟩ (allT_of ⟨rfl, trivial⟩) ?_
        · exact ob_v rfl (fun hg => allT_of trivial) (fun hg => av_move rfl)
        · exact ob_v rfl (fun hg => allT_of trivial) (fun hg => av_move rfl)
        · exact ob_v rfl (fun hg => allT_of ⟨rfl, rfl, trivial⟩) (fun hg => av_ia_sl (t := (.int .i64)) (e := x7) und38 sz3 rfl rfl e8)
        · exact ob_v rfl (fun hg => allT_of ⟨rfl, trivial⟩) (fun hg => av_load_rp ts3 rfl)
        · exact ob_v rfl (fun hg => allT_of trivial) (fun hg => av_move rfl)
        · exact ob_v rfl (fun hg => allT_of trivial) (fun hg => av_move rfl)
        · exact ob_v rfl (fun hg => allT_of ⟨rfl, rfl, trivial⟩) (fun hg => av_ia_sl (t := (.int .i64)) (e := x9) und38 sz3 rfl rfl e10)
        · exact ob_v rfl (fun hg => allT_of ⟨rfl, trivial⟩) (fun hg => av_load_rp ts3 rfl)
        · exact ob_v rfl (fun hg => allT_of ⟨rfl, rfl, trivial⟩) (fun hg => av_neq rfl rfl)
        refine athen_norm ?_
        refine awc_cond (b := !decide (x7 = x9)) rfl (fun hc11 => ?_) (fun hc11 => ?_)
        · have hr := if_t hc11 hr
          refine awc_seq ?_
          refine awc_region ?_
          refine awl_v (av_assign rfl) ?_
          have hr := Option.some.inj hr
          subst hr
          exact awl_nil (athen_norm (awc_ret (ablock_ret (athen_ret (⟨rfl, (wk_of hX [] 4 rfl rfl ⟨⟨_, rfl, cv0⟩, trivial⟩ trivial)⟩)))))
        · have hr := if_f hc11 hr
          refine awc_skip (ablock_norm (athen_norm ?_))
          refine awc_region ?_
          refine awl_v (av_add rfl rfl) ?_
          refine awl_v (av_move rfl) ?_
          have hr := Option.some.inj hr
          subst hr
          exact awl_nil ((wk_of hX [] 4 rfl rfl ⟨⟨_, rfl, cv0⟩, ⟨_, rfl, cv0⟩, ⟨_, rfl, cv0⟩, ⟨_, rfl, cv0⟩, ⟨_, rfl, cv0⟩, trivial⟩ trivial))
      · obtain rfl := rb_f hc6 ho
        exact awc_exit (athen_exit (⟨rfl, (wk_of hX [] 4 rfl rfl ⟨⟨_, rfl, cv0⟩, trivial⟩ trivial)⟩))
theorem f8_runs {r : Bool} (hr : f8 = some r) : RunsP Tryd.prog 5 [] [.bool r] := by
  refine runs_w Tryd.func5 Tryd.ntmps5 rfl (rs := [.tmp 0]) rfl rfl fun w0 X hX => ?_
  refine awc_seq ?_
  refine awc_region ?_
  refine awl_v (av_assign rfl) ?_
  refine awl_nil (athen_norm (awc_seq ?_))
  refine awc_region ?_
  obtain ⟨x1, e2, hr⟩ := bnd_some hr
  refine awl_v (av_call (f44_runs e2).x ent9 rfl rfl) ?_
  obtain ⟨x3, e4, hr⟩ := bnd_some hr
  refine awl_v (av_call (f24_runs e4).x ent8 rfl rfl) ?_
  refine awl_v (av_move rfl) ?_
  refine awl_v (av_extract rfl rfl) ?_
  refine awl_v (av_extract rfl rfl) ?_
  refine awl_v (av_assign rfl) ?_
  refine awl_v (av_assign rfl) ?_
  refine awl_nil (athen_norm (awc_seq ?_))
  refine awc_region ?_
  obtain ⟨x5, e6, hr⟩ := bnd_some hr
  refine awl_v (av_call (f44_runs e6).x ent9 rfl rfl) ?_
  obtain ⟨x7, e8, hr⟩ := bnd_some hr
  refine awl_v (av_call (f19_runs e8).x ent10 rfl rfl) ?_
  refine awl_v (av_move rfl) ?_
  refine awl_v (av_extract rfl rfl) ?_
  refine awl_v (av_extract rfl rfl) ?_
  refine awl_v (av_assign rfl) ?_
  refine awl_v (av_assign rfl) ?_
  refine awl_nil (athen_norm (awc_seq ?_))
  refine awc_region ?_
  obtain ⟨x9, e10, hr⟩ := bnd_some hr
  refine awl_v (av_call (f44_runs e10).x ent9 rfl rfl) ?_
  refine awl_v (av_buildSlice (t := (.int .i64)) (qs := [(0, [.int .i64 0]), (1, [.int .i64 2])]) (ys := [0, 2]) bs38 rfl rfl rfl rfl rfl rfl rfl rfl) ?_
  obtain ⟨x11, e12, hr⟩ := bnd_some hr
  refine awl_v (av_call (f32_runs e12).x ent11 rfl rfl) ?_
  refine awl_v (av_move rfl) ?_
  refine awl_v (av_extract rfl rfl) ?_
  refine awl_v (av_extract rfl rfl) ?_
  refine awl_v (av_assign rfl) ?_
  refine awl_v (av_assign rfl) ?_
  refine awl_nil (athen_norm (awc_seq ?_))
  obtain ⟨h13, hr⟩ := chk_some hr
  obtain ⟨h14, hr⟩ := chk_some hr
  refine awc_text [1, 2, 3, 4, 5, 6] [(true, .int .i64 x3.2), (true, .bool (decide (x3.2 = 0))), (true, .bool (decide (x3.2 = 0))), (decide (x3.2 = 0), .bool x3.1), (true, .bool ((decide (x3.2 = 0)) && x3.1)), (true, .bool ((decide (x3.2 = 0)) && x3.1)), ((decide (x3.2 = 0)) && x3.1, .int .i64 x7.2), ((decide (x3.2 = 0)) && x3.1, .bool (decide (x7.2 = 0))), (true, .bool (((decide (x3.2 = 0)) && x3.1) && (decide (x7.2 = 0)))), (true, .bool (((decide (x3.2 = 0)) && x3.1) && (decide (x7.2 = 0)))), (((decide (x3.2 = 0)) && x3.1) && (decide (x7.2 = 0)), .sl (.slice (.int .i64)) x7.1), (((decide (x3.2 = 0)) && x3.1) && (decide (x7.2 = 0)), .int .i64 (List.length x7.1 : Int)), (((decide (x3.2 = 0)) && x3.1) && (decide (x7.2 = 0)), .bool (decide ((List.length x7.1 : Int) = 4))), (true, .bool ((((decide (x3.2 = 0)) && x3.1) && (decide (x7.2 = 0))) && (decide ((List.length x7.1 : Int) = 4)))), (true, .bool ((((decide (x3.2 = 0)) && x3.1) && (decide (x7.2 = 0))) && (decide ((List.length x7.1 : Int) = 4)))), ((((decide (x3.2 = 0)) && x3.1) && (decide (x7.2 = 0))) && (decide ((List.length x7.1 : Int) = 4)), .sl (.slice (.int .i64)) x7.1), ((((decide (x3.2 = 0)) && x3.1) && (decide (x7.2 = 0))) && (decide ((List.length x7.1 : Int) = 4)), .rp [.sl (.int .i64) ((ix x7.1 3).getD default)]), ((((decide (x3.2 = 0)) && x3.1) && (decide (x7.2 = 0))) && (decide ((List.length x7.1 : Int) = 4)), .sl (.int .i64) ((ix x7.1 3).getD default)), ((((decide (x3.2 = 0)) && x3.1) && (decide (x7.2 = 0))) && (decide ((List.length x7.1 : Int) = 4)), .sl (.int .i64) [2, 2]), ((((decide (x3.2 = 0)) && x3.1) && (decide (x7.2 = 0))) && (decide ((List.length x7.1 : Int) = 4)), .bool ((f13 ((ix x7.1 3).getD default) [2, 2]).getD default)), (true, .bool (((((decide (x3.2 = 0)) && x3.1) && (decide (x7.2 = 0))) && (decide ((List.length x7.1 : Int) = 4))) && ((f13 ((ix x7.1 3).getD default) [2, 2]).getD default))), (true, .bool (((((decide (x3.2 = 0)) && x3.1) && (decide (x7.2 = 0))) && (decide ((List.length x7.1 : Int) = 4))) && ((f13 ((ix x7.1 3).getD default) [2, 2]).getD default))), (((((decide (x3.2 = 0)) && x3.1) && (decide (x7.2 = 0))) && (decide ((List.length x7.1 : Int) = 4))) && ((f13 ((ix x7.1 3).getD default) [2, 2]).getD default), .int .i64 x11.2), (((((decide (x3.2 = 0)) && x3.1) && (decide (x7.2 = 0))) && (decide ((List.length x7.1 : Int) = 4))) && ((f13 ((ix x7.1 3).getD default) [2, 2]).getD default), .bool (decide (x11.2 = 0))), (true, .bool ((((((decide (x3.2 = 0)) && x3.1) && (decide (x7.2 = 0))) && (decide ((List.length x7.1 : Int) = 4))) && ((f13 ((ix x7.1 3).getD default) [2, 2]).getD default)) && (decide (x11.2 = 0)))), (true, .bool ((((((decide (x3.2 = 0)) && x3.1) && (decide (x7.2 = 0))) && (decide ((List.length x7.1 : Int) = 4))) && ((f13 ((ix x7.1 3).getD default) [2, 2]).getD default)) && (decide (x11.2 = 0)))), ((((((decide (x3.2 = 0)) && x3.1) && (decide (x7.2 = 0))) && (decide ((List.length x7.1 : Int) = 4))) && ((f13 ((ix x7.1 3).getD default) [2, 2]).getD default)) && (decide (x11.2 = 0)), .bool x11.1), ((((((decide (x3.2 = 0)) && x3.1) && (decide (x7.2 = 0))) && (decide ((List.length x7.1 : Int) = 4))) && ((f13 ((ix x7.1 3).getD default) [2, 2]).getD default)) && (decide (x11.2 = 0)), .bool (!x11.1)), (true, .bool (((((((decide (x3.2 = 0)) && x3.1) && (decide (x7.2 = 0))) && (decide ((List.length x7.1 : Int) = 4))) && ((f13 ((ix x7.1 3).getD default) [2, 2]).getD default)) && (decide (x11.2 = 0))) && (!x11.1))), (true, .bool (((((((decide (x3.2 = 0)) && x3.1) && (decide (x7.2 = 0))) && (decide ((List.length x7.1 : Int) = 4))) && ((f13 ((ix x7.1 3).getD default) [2, 2]).getD default)) && (decide (x11.2 = 0))) && (!x11.1)))] [[], [0], [1], [2], [3, 2], [4], [5], [6, 5], [7, 5], [8], [9], [10, 9], [11, 9], [12, 9], [13], [14], [15, 14], [16, 14], [14], [17, 18, 14], [19, 14], [20], [21], [22, 21], [23, 21], [24], [25], [26, 25], [27, 25], [28]] [29] rfl rfl rfl rfl rfl ⟨?_, ?_, ?_, ?_, ?_, ?_, ?_, ?_, ?_, ?_, ?_, ?_, ?_, ?_, ?_, ?_, ?_, ?_, ?_, ?_, ?_, ?_, ?_, ?_, ?_, ?_, ?_, ?_, ?_, ?_, trivial⟩ (allT_of ⟨rfl, trivial⟩) ?_
  · exact ob_v rfl (fun hg => allT_of trivial) (fun hg => av_move rfl)
  · exact ob_v rfl (fun hg => allT_of ⟨rfl, trivial⟩) (fun hg => av_eql rfl rfl)
  · exact ob_v rfl (fun hg => allT_of ⟨rfl, trivial⟩) (fun hg => av_move rfl)
  · exact ob_v ⟨rfl, rfl, rfl, _, rfl, rfl⟩ (fun hg => allT_of ⟨rfl, trivial⟩) (fun hg => av_move rfl)
  · exact ob_pick (b := true) (p := decide (x3.2 = 0)) (q := x3.1) rfl rfl rfl (fun hg => allT_of ⟨rfl, trivial⟩) rfl rfl rfl rfl rfl
  · exact ob_v rfl (fun hg => allT_of ⟨rfl, trivial⟩) (fun hg => av_move rfl)
  · exact ob_v ⟨rfl, rfl, rfl, _, rfl, rfl⟩ (fun hg => allT_of ⟨rfl, trivial⟩) (fun hg => av_move rfl)
  · exact ob_v ⟨rfl, rfl, rfl, _, rfl, rfl⟩ (fun hg => allT_of ⟨hg, rfl, trivial⟩) (fun hg => av_eql rfl rfl)
  · exact ob_pick (b := true) (p := (decide (x3.2 = 0)) && x3.1) (q := decide (x7.2 = 0)) rfl rfl rfl (fun hg => allT_of ⟨rfl, trivial⟩) rfl rfl rfl rfl rfl
  · exact ob_v rfl (fun hg => allT_of ⟨rfl, trivial⟩) (fun hg => av_move rfl)
  · exact ob_v ⟨rfl, rfl, rfl, _, rfl, rfl⟩ (fun hg => allT_of ⟨rfl, trivial⟩) (fun hg => av_move rfl)
  · exact ob_v ⟨rfl, rfl, rfl, _, rfl, rfl⟩ (fun hg => allT_of ⟨hg, rfl, trivial⟩) (fun hg => av_len_sl (t := (.slice (.int .i64))) rfl rfl und34 rfl)
  · exact ob_v ⟨rfl, rfl, rfl, _, rfl, rfl⟩ (fun hg => allT_of ⟨hg, rfl, trivial⟩) (fun hg => av_eql rfl rfl)
  · exact ob_pick (b := true) (p := ((decide (x3.2 = 0)) && x3.1) && (decide (x7.2 = 0))) (q := decide ((List.length x7.1 : Int) = 4)) rfl rfl rfl (fun hg => allT_of ⟨rfl, trivial⟩) rfl rfl rfl rfl rfl
  · exact ob_v rfl (fun hg => allT_of ⟨rfl, trivial⟩) (fun hg => av_move rfl)
  · exact ob_v ⟨rfl, rfl, rfl, _, rfl, rfl⟩ (fun hg => allT_of ⟨rfl, trivial⟩) (fun hg => av_move rfl)
  · exact ob_v ⟨rfl, rfl, rfl, _, rfl, rfl⟩ (fun hg => allT_of ⟨hg, rfl, trivial⟩) (fun hg => av_ia_sl (t := (.slice (.int .i64))) (e := ((ix x7.1 3).getD default)) und34 sz38 rfl rfl (get_g h13 hg))
  · exact ob_v ⟨rfl, rfl, rfl, _, rfl, rfl⟩ (fun hg => allT_of ⟨hg, rfl, trivial⟩) (fun hg => av_load_rp ts38 rfl)
  · exact ob_v ⟨rfl, rfl, rfl, _, rfl, rfl⟩ (fun hg => allT_of ⟨rfl, trivial⟩) (fun hg => av_buildSlice (t := (.int .i64)) (qs := [(0, [.int .i64 2]), (1, [.int .i64 2])]) (ys := [2, 2]) bs38 rfl rfl rfl rfl rfl rfl rfl rfl)
  · exact ob_v ⟨rfl, rfl, rfl, _, rfl, rfl⟩ (fun hg => allT_of ⟨hg, hg, rfl, trivial⟩) (fun hg => av_call (f13_runs (get_g h14 hg)).x ent12 rfl rfl)
  · exact ob_pick (b := true) (p := (((decide (x3.2 = 0)) && x3.1) && (decide (x7.2 = 0))) && (decide ((List.length x7.1 : Int) = 4))) (q := ((f13 ((ix x7.1 3).getD default) [2, 2]).getD default)) rfl rfl rfl (fun hg => allT_of ⟨rfl, trivial⟩) rfl rfl rfl rfl rfl
  · exact ob_v rfl (fun hg => allT_of ⟨rfl, trivial⟩) (fun hg => av_move rfl)
  · exact ob_v ⟨rfl, rfl, rfl, _, rfl, rfl⟩ (fun hg => allT_of ⟨rfl, trivial⟩) (fun hg => av_move rfl)
  · exact ob_v ⟨rfl, rfl, rfl, _, rfl, rfl⟩ (fun hg => allT_of ⟨hg, rfl, trivial⟩) (fun hg => av_eql rfl rfl)
  · exact ob_pick (b := true) (p := ((((decide (x3.2 = 0)) && x3.1) && (decide (x7.2 = 0))) && (decide ((List.length x7.1 : Int) = 4))) && ((f13 ((ix x7.1 3).getD default) [2, 2]).getD default)) (q := decide (x11.2 = 0)) rfl rfl rfl (fun hg => allT_of ⟨rfl, trivial⟩) rfl rfl rfl rfl rfl
  · exact ob_v rfl (fun hg => allT_of ⟨rfl, trivial⟩) (fun hg => av_move rfl)
  · exact ob_v ⟨rfl, rfl, rfl, _, rfl, rfl⟩ (fun hg => allT_of ⟨rfl, trivial⟩) (fun hg => av_move rfl)
  · exact ob_v ⟨rfl, rfl, rfl, _, rfl, rfl⟩ (fun hg => allT_of ⟨hg, rfl, trivial⟩) (fun hg => av_not rfl)
  · exact ob_pick (b := true) (p := (((((decide (x3.2 = 0)) && x3.1) && (decide (x7.2 = 0))) && (decide ((List.length x7.1 : Int) = 4))) && ((f13 ((ix x7.1 3).getD default) [2, 2]).getD default)) && (decide (x11.2 = 0))) (q := !x11.1) rfl rfl rfl (fun hg => allT_of ⟨rfl, trivial⟩) rfl rfl rfl rfl rfl
  · exact ob_v rfl (fun hg => allT_of ⟨rfl, trivial⟩) (fun hg => av_assign rfl)
  have hr := Option.some.inj hr
  subst hr
  exact athen_norm (awc_ret (ret_q (l' := [(0, .bool (((((((decide (x3.2 = 0)) && x3.1) && (decide (x7.2 = 0))) && (decide ((List.length x7.1 : Int) = 4))) && ((f13 ((ix x7.1 3).getD default) [2, 2]).getD default)) && (decide (x11.2 = 0))) && (!x11.1)))]) (wk_of hX [] 4 rfl rfl ⟨⟨_, rfl, cv0⟩, trivial⟩ trivial) rfl ⟨rfl, trivial⟩))
theorem d6_runs {p0 : Int} {p1 : List (Int × Int × Int × Int × Str)} {r : Int × Int} (hr : d6 p0 p1 = some r) : RunsP Tryd.prog 6 [.int .i64 p0, .sl Y1 p1] [.int .i64 r.1, .int .i64 r.2] := by
  refine runs_w Tryd.func6 Tryd.ntmps6 rfl (rs := [.tmp 4, .tmp 5]) rfl rfl fun w0 X hX => ?_
  refine awc_seq ?_
  refine awc_region ?_
  refine awl_v (av_assign rfl) ?_
  refine awl_v (av_assign rfl) ?_
  refine awl_nil (athen_norm (awc_seq (awc_seq ?_)))
  refine awc_region ?_
  refine awl_v (av_move rfl) ?_
  refine awl_v (av_move rfl) ?_
  obtain ⟨x1, e2, hr⟩ := bnd_some hr
  refine awl_v (av_call (f17_runs e2).x ent13 rfl rfl) ?_
  refine awl_v (av_not rfl) ?_
  refine awl_nil (athen_norm ?_)
  refine awc_cond (b := !x1) rfl (fun hc3 => ?_) (fun hc3 => ?_)
  · have hr := if_t hc3 hr
    refine awc_seq ?_
    refine awc_region ?_
    refine awl_v (av_assign rfl) ?_
    refine awl_v (av_assign rfl) ?_
    have hr := Option.some.inj hr
    subst hr
    exact awl_nil (athen_norm (awc_ret (athen_ret (ret_q (l' := [(4, .int .i64 0), (5, .int .i64 1)]) (wk_of hX [] 4 rfl rfl ⟨⟨_, rfl, cv0⟩, ⟨_, rfl, cv0⟩, trivial⟩ trivial) rfl ⟨rfl, rfl, trivial⟩))))
  · have hr := if_f hc3 hr
    refine awc_skip (athen_norm (awc_seq (awc_seq ?_)))
    refine awc_region ?_
    refine awl_v (av_move rfl) ?_
    refine awl_v (av_len_sl (t := Y1) rfl rfl und22 rfl) ?_
    refine awl_v (av_gtr rfl rfl) ?_
    refine awl_nil (athen_norm ?_)
    refine awc_cond (b := decide (60 < (List.length p1 : Int))) rfl (fun hc4 => ?_) (fun hc4 => ?_)
    · have hr := if_t hc4 hr
      refine awc_seq ?_
      refine awc_region ?_
      refine awl_v (av_assign rfl) ?_
      refine awl_v (av_assign rfl) ?_
      have hr := Option.some.inj hr
      subst hr
      exact awl_nil (athen_norm (awc_ret (athen_ret (ret_q (l' := [(4, .int .i64 0), (5, .int .i64 4)]) (wk_of hX [] 4 rfl rfl ⟨⟨_, rfl, cv0⟩, ⟨_, rfl, cv0⟩, trivial⟩ trivial) rfl ⟨rfl, rfl, trivial⟩))))
    · have hr := if_f hc4 hr
      refine awc_skip (athen_norm (awc_seq ?_))
      refine awc_region ?_
      refine awl_v (av_move rfl) ?_
      refine awl_v (av_move rfl) ?_
      obtain ⟨x5, e6, hr⟩ := bnd_some hr
      refine awl_v (av_call (f52_runs e6).x ent14 rfl rfl) ?_
      refine awl_v (av_assign rfl) ?_
      refine awl_nil (athen_norm (awc_seq ?_))
      refine awc_region ?_
      refine awl_v (av_move rfl) ?_
      obtain ⟨h7, hr⟩ := chk_some hr
      refine awl_op (aop_makeO (t := (.int .i64)) 3 und34 zt38 rfl rfl h7 rfl ?_)
      refine awl_v (av_assign rfl) ?_
      refine awl_nil (athen_norm (awc_seq (awc_seq ?_)))
      refine awc_region ?_
      refine awl_v (av_move rfl) ?_
      refine awl_v (av_len_sl (t := Y1) rfl rfl und22 rfl) ?_
      refine awl_v (av_move rfl) ?_
      refine awl_nil (athen_norm (awc_block ?_))
      obtain ⟨o13, e14, hr⟩ := bnd_some hr
      refine awc_len (t := 1) rfl (fun hl => ?_)
      refine awc_range (S := List (List Int)) (R := Unit) (List.length p1 : Int) (d6_b0 p1) (fun p => match p with | (i8, s10) => (⟨[(0, .int .i64 p0), (4, .int .i64 0), (5, .int .i64 0), (6, .sl (.slice (.int .i64)) x5), (7, .sog 0), (27, .sl Y1 p1), (28, .int .i64 (List.length p1 : Int)), (29, .int .i64 i8)], [(0, .slo 38 3 (.int .i64) s10)], 1⟩ : AS)) (fun o e st => match o with | .inr _ => False | .inl s10 => e = .exit 0 ∧ Wk X st ⟨[(0, .int .i64 p0), (4, .int .i64 0), (5, .int .i64 0), (6, .sl (.slice (.int .i64)) x5), (7, .sog 0)], [(0, .slo 38 3 (.int .i64) s10)], 1⟩) (len_ok hl) e14 (wk_of hX [0] 4 rfl rfl ⟨⟨_, rfl, cv0⟩, ⟨_, rfl, cv0⟩, ⟨_, rfl, cv0⟩, ⟨_, rfl, cv0⟩, ⟨_, rfl, cv0⟩, ⟨_, rfl, cv0⟩, ⟨_, rfl, cv0⟩, ⟨_, rfl, cv0⟩, trivial⟩ ⟨cvo0, trivial⟩) ?_ ?_
      · intro e st hx
        rcases o13 with s10 | _
        · obtain ⟨rfl, hw⟩ := hx
          refine ablock_here (athen_norm ((awc_wk hw) (awc_seq ?_)))
          refine awc_region ?_
          refine awl_op (aop_makeMap (.arr 16 (.int .i64)) .bool rfl ?_)
          refine awl_v (av_build (qs := []) (cs := expl (.arr 16 (.int .i64)) (List.replicate 16 0)) bt41 rfl rfl rfl) ?_
          obtain ⟨h15, hr⟩ := chk_some hr
          refine awl_op (aop_mapSet (kx := (List.replicate 16 0)) (vx := true) und42 kt41 (.inr rfl) rfl rfl rfl rfl rfl (fit_arr h15) rfl ?_)
          refine awl_v (av_move rfl) ?_
          refine awl_v (av_assign rfl) ?_
          refine awl_nil (athen_norm (awc_seq ?_))
          refine awc_region ?_
          refine awl_v (av_build (qs := []) (cs := expl (.arr 16 (.int .i64)) (List.replicate 16 0)) bt41 rfl rfl rfl) ?_
          obtain ⟨h16, hr⟩ := chk_some hr
          refine awl_op (aop_buildSlice (t := (.arr 16 (.int .i64))) (qs := [(0, expl (.arr 16 (.int .i64)) (List.replicate 16 0))]) (ys := [(List.replicate 16 0)]) bs43 rfl rfl lay_arr1 lay_y1 rfl rfl rfl (fit_arr1 h16) ?_)
          refine awl_v (av_assign rfl) ?_
          refine awl_nil (athen_norm (awc_seq (awc_block ?_)))
          obtain ⟨o23, e24, hr⟩ := bnd_some hr
          refine awc_loop (S := (List ((List Int) × Bool)) × List (List Int)) (R := Unit ⊕ ((List ((List Int) × Bool)))) (fun p => match p with | (s17, s18) => (⟨[(0, .int .i64 p0), (4, .int .i64 0), (5, .int .i64 0), (6, .sl (.slice (.int .i64)) x5), (7, .sog 0), (10, .map 1), (11, .osl 2)], [(0, .slo 38 3 (.int .i64) s10), (1, .map (.arr 16 (.int .i64)) .bool s17), (2, .sl 41 (.arr 16 (.int .i64)) s18)], 3⟩ : AS)) (d6_b1 p0 x5 s10) (fun r e st => match r with | .inl () => e = .ret ∧ Wk X st ⟨[(4, .int .i64 0), (5, .int .i64 4)], [], 0⟩ | .inr s21 => e = .exit 2 ∧ Wk X st ⟨[(4, .int .i64 0), (5, .int .i64 0), (10, .map 0)], [(0, .map (.arr 16 (.int .i64)) .bool s21)], 1⟩) e24 (wk_of hX [0, 1, 2] 4 rfl rfl ⟨⟨_, rfl, cv0⟩, ⟨_, rfl, cv0⟩, ⟨_, rfl, cv0⟩, ⟨_, rfl, cv0⟩, ⟨_, rfl, cv0⟩, ⟨_, rfl, cv0⟩, ⟨_, rfl, cv0⟩, trivial⟩ ⟨cvo0, cvo0, cvo0, trivial⟩) ?_ ?_
          · intro e st hx
            rcases o23 with _ | s21
            · obtain ⟨rfl, hw⟩ := hx
              have hr := Option.some.inj hr
              subst hr
              exact ablock_ret (athen_ret (ret_q (l' := [(4, .int .i64 0), (5, .int .i64 4)]) (Wk.trans hw (wk_of hX [] 4 rfl rfl ⟨⟨_, rfl, cv0⟩, ⟨_, rfl, cv0⟩, trivial⟩ trivial)) rfl ⟨rfl, rfl, trivial⟩))
            · obtain ⟨rfl, hw⟩ := hx
              refine ablock_here (athen_norm ((awc_wk hw) (awc_seq ?_)))
              refine awc_region ?_
              refine awl_v (av_move rfl) ?_
              refine awl_v (av_len_map (tk := (.arr 16 (.int .i64))) (tv := .bool) rfl rfl und42 rfl rfl) ?_
              refine awl_v (av_assign rfl) ?_
              refine awl_v (av_assign rfl) ?_
              have hr := Option.some.inj hr
              subst hr
              exact awl_nil (athen_norm (awc_ret (ret_q (l' := [(4, .int .i64 (List.length s21 : Int)), (5, .int .i64 0)]) (wk_of hX [] 4 rfl rfl ⟨⟨_, rfl, cv0⟩, ⟨_, rfl, cv0⟩, trivial⟩ trivial) rfl ⟨rfl, rfl, trivial⟩)))
          · rintro ⟨s17, s18⟩ o hr
            refine awc_seq (awc_seq ?_)
            refine awc_region ?_
            refine awl_v (av_move rfl) ?_
            refine awl_v (av_len_osl (t := (.arr 16 (.int .i64))) rfl rfl und43 rfl rfl) ?_
            refine awl_v (av_gtr rfl rfl) ?_
            refine awl_nil (athen_norm ?_)
            refine awc_cond (b := decide (0 < (List.length s18 : Int))) rfl (fun hc25 => ?_) (fun hc25 => ?_)
            · have hr := if_t hc25 hr
              refine awc_skip (athen_norm (awc_block (awc_seq ?_)))
              refine awc_region ?_
              refine awl_v (av_move rfl) ?_
              refine awl_v (av_move rfl) ?_
              refine awl_v (av_len_osl (t := (.arr 16 (.int .i64))) rfl rfl und43 rfl rfl) ?_
              refine awl_v (av_sub rfl rfl) ?_
              obtain ⟨x26, e27, hr⟩ := bnd_some hr
              refine awl_v (av_ia_osl (t := (.arr 16 (.int .i64))) und43 sz41 rfl rfl rfl e27) ?_
              refine awl_v (av_load_epN (ds := expl (.arr 16 (.int .i64)) x26) ts41 rfl rfl rfl (ix_at e27) expl_take0 expl_beq) ?_
              refine awl_op (aop_alloc (cs := expl (.arr 16 (.int .i64)) (List.replicate 16 0)) zero41 rfl ?_)
              refine awl_op (aop_store (cs' := expl (.arr 16 (.int .i64)) x26) sz41 rfl rfl rfl rfl expl_beq expl_ble over_all ?_)
              refine awl_nil (athen_norm (awc_seq ?_))
              refine awc_region ?_
              refine awl_v (av_move rfl) ?_
              refine awl_v (av_move rfl) ?_
              refine awl_v (av_len_osl (t := (.arr 16 (.int .i64))) rfl rfl und43 rfl rfl) ?_
              refine awl_v (av_sub rfl rfl) ?_
              obtain ⟨h28, hr⟩ := chk_some hr
              refine awl_op (aop_slice_osl (t := (.arr 16 (.int .i64))) (h := (w64 ((List.length s18 : Int) - 1))) und43 sz41 rfl rfl (by exact ⟨_, rfl⟩) h28 rfl ?_)
              refine awl_v (av_assign rfl) ?_
              refine awl_nil (athen_norm (awc_seq ?_))
              refine awc_region ?_
              refine awl_v (av_move rfl) ?_
              refine awl_v (av_move rfl) ?_
              refine awl_nil (athen_norm (awc_block ?_))
              obtain ⟨h36, hr⟩ := chk_some hr
              obtain ⟨o37, e38, hr⟩ := bnd_some hr
              refine awc_range (S := (List ((List Int) × Bool)) × List (List Int)) (R := Unit) p0 (d6_b2 p0 x5 s10 x26) (fun p => match p with | (i29, s31, s32) => (⟨[(0, .int .i64 p0), (4, .int .i64 0), (5, .int .i64 0), (6, .sl (.slice (.int .i64)) x5), (7, .sog 0), (10, .map 1), (11, .osl 2), (12, .ptr 3 0), (66, .int .i64 p0), (67, .int .i64 i29)], [(0, .slo 38 3 (.int .i64) s10), (1, .map (.arr 16 (.int .i64)) .bool s31), (2, .sl 41 (.arr 16 (.int .i64)) s32), (3, .var 41 (expl (.arr 16 (.int .i64)) x26))], 4⟩ : AS)) (fun o e st => match o with | .inl (s31, s32) => e = .exit 4 ∧ Wk X st ⟨[(0, .int .i64 p0), (4, .int .i64 0), (5, .int .i64 0), (6, .sl (.slice (.int .i64)) x5), (7, .sog 0), (10, .map 1), (11, .osl 2)], [(0, .slo 38 3 (.int .i64) s10), (1, .map (.arr 16 (.int .i64)) .bool s31), (2, .sl 41 (.arr 16 (.int .i64)) s32)], 3⟩ | .inr () => e = .ret ∧ Wk X st ⟨[(4, .int .i64 0), (5, .int .i64 4)], [], 0⟩) (of_decide_eq_true h36) e38 (wk_of hX [0, 1, 4, 3] 4 rfl rfl ⟨⟨_, rfl, cv0⟩, ⟨_, rfl, cv0⟩, ⟨_, rfl, cv0⟩, ⟨_, rfl, cv0⟩, ⟨_, rfl, cv0⟩, ⟨_, rfl, cv0⟩, ⟨_, rfl, cv0⟩, ⟨_, rfl, cv0⟩, ⟨_, rfl, cv0⟩, ⟨_, rfl, cv0⟩, trivial⟩ ⟨cvo0, cvo0, cvo0, cvo0, trivial⟩) ?_ ?_
              · intro e st hx
                rcases o37 with ⟨s31, s32⟩ | _
                · obtain ⟨rfl, hw⟩ := hx
                  have hr := Option.some.inj hr
                  subst hr
                  exact ablock_here (ablock_norm ((Wk.trans hw (wk_of hX [0, 1, 2] 4 rfl rfl ⟨⟨_, rfl, cv0⟩, ⟨_, rfl, cv0⟩, ⟨_, rfl, cv0⟩, ⟨_, rfl, cv0⟩, ⟨_, rfl, cv0⟩, ⟨_, rfl, cv0⟩, ⟨_, rfl, cv0⟩, trivial⟩ ⟨cvo0, cvo0, cvo0, trivial⟩))))
                · obtain ⟨rfl, hw⟩ := hx
                  have hr := Option.some.inj hr
                  subst hr
                  exact ablock_ret (ablock_ret (⟨rfl, (Wk.trans hw (wk_of hX [] 4 rfl rfl ⟨⟨_, rfl, cv0⟩, ⟨_, rfl, cv0⟩, trivial⟩ trivial))⟩))
              · rintro i29 ⟨s31, s32⟩ o ho
                refine awc_seq ?_
                refine awc_region ?_
                refine awl_v (av_lss rfl rfl) ?_
                refine awl_nil (athen_norm (awc_seq ?_))
                refine awc_cond (b := decide (i29 < p0)) rfl (fun hc39 => ?_) (fun hc39 => ?_)
                · obtain ⟨q, hr, rfl⟩ := rb_t hc39 ho
                  refine awc_skip (athen_norm ?_)
                  obtain ⟨o42, e43, hr⟩ := bnd_some hr
                  refine awc_join (S := (List ((List Int) × Bool)) × List (List Int)) (R := Unit) (fun s => match s with | (s40, s41) => (⟨[(0, .int .i64 p0), (4, .int .i64 0), (5, .int .i64 0), (6, .sl (.slice (.int .i64)) x5), (7, .sog 0), (10, .map 1), (11, .osl 2), (12, .ptr 3 0), (66, .int .i64 p0), (67, .int .i64 i29)], [(0, .slo 38 3 (.int .i64) s10), (1, .map (.arr 16 (.int .i64)) .bool s40), (2, .sl 41 (.arr 16 (.int .i64)) s41), (3, .var 41 (expl (.arr 16 (.int .i64)) x26))], 4⟩ : AS)) (fun r e st => match r with | () => e = .ret ∧ Wk X st ⟨[(4, .int .i64 0), (5, .int .i64 4)], [], 0⟩) e43 (fun hr => ?_) ?_ ?_
                  · refine awc_block (awc_seq ?_)
                    refine awc_region ?_
                    refine awl_v (av_move rfl) ?_
                    refine awl_v (av_assign rfl) ?_
                    refine awl_nil (athen_norm (awc_seq (awc_seq ?_)))
                    obtain ⟨x44, e45, hr⟩ := bnd_some hr
                    obtain ⟨x46, e47, hr⟩ := bnd_some hr
                    refine awc_draw mixed [0, 4, 5, 6, 7, 10, 11, 12, 66, 67, 13] [(true, .int .i64 i29), (true, .ptr 3 (Int.toNat i29)), (true, .int .i64 x44), (true, .sog 0), (true, .int .i64 i29), (true, .epg 0 (Int.toNat i29)), (true, .row 0 (Int.toNat i29)), (true, .int .i64 (List.length x46 : Int)), (true, .bool (decide (x44 = (List.length x46 : Int))))] [[], [0], [1], [], [], [3, 4], [5], [6], [2, 7]] [8] rfl rfl rfl rfl rfl ⟨?_, ?_, ?_, ?_, ?_, ?_, ?_, ?_, ?_, trivial⟩ (allT_of ⟨rfl, trivial⟩) ?_
                    · exact ob_v rfl (fun hg => allT_of trivial) (fun hg => av_move rfl)
                    · exact ob_v rfl (fun hg => allT_of ⟨rfl, trivial⟩) (fun hg => av_ia_parr und41 sz3 rfl rfl (aix_b e45) aix_o)
                    · exact ob_v rfl (fun hg => allT_of ⟨rfl, trivial⟩) (fun hg => av_load_ptr ts3 rfl rfl (aix_ld e45))
                    · exact ob_v rfl (fun hg => allT_of trivial) (fun hg => av_move rfl)
                    · exact ob_v rfl (fun hg => allT_of trivial) (fun hg => av_move rfl)
                    · exact ob_v rfl (fun hg => allT_of ⟨rfl, rfl, trivial⟩) (fun hg => av_ia_sog (t := (.int .i64)) und34 sz38 rfl rfl rfl e47)
                    · exact ob_v rfl (fun hg => allT_of ⟨rfl, trivial⟩) (fun hg => av_load_epg (t := (.int .i64)) ts38 rfl rfl (ix_at e47))
                    · exact ob_v rfl (fun hg => allT_of ⟨rfl, trivial⟩) (fun hg => av_len_row (t := (.int .i64)) rfl rfl und38 rfl rfl (ix_at e47))
                    · exact ob_v rfl (fun hg => allT_of ⟨rfl, rfl, trivial⟩) (fun hg => av_eql rfl rfl)
                    refine athen_norm ?_
                    refine awc_cond (b := decide (x44 = (List.length x46 : Int))) rfl (fun hc48 => ?_) (fun hc48 => ?_)
                    · have hr := if_t hc48 hr
                      have hr := Option.some.inj hr
                      subst hr
                      exact awc_exit (athen_exit (ablock_here ((wk_of hX [0, 1, 2, 3] 4 rfl rfl ⟨⟨_, rfl, cv0⟩, ⟨_, rfl, cv0⟩, ⟨_, rfl, cv0⟩, ⟨_, rfl, cv0⟩, ⟨_, rfl, cv0⟩, ⟨_, rfl, cv0⟩, ⟨_, rfl, cv0⟩, ⟨_, rfl, cv0⟩, ⟨_, rfl, cv0⟩, ⟨_, rfl, cv0⟩, trivial⟩ ⟨cvo0, cvo0, cvo0, cvo0, trivial⟩))))
                    · have hr := if_f hc48 hr
                      refine awc_skip (athen_norm (awc_seq ?_))
                      refine awc_region ?_
                      refine awl_v (av_load_ptrN (ds := expl (.arr 16 (.int .i64)) x26) ts41 rfl rfl expl_take0 expl_beq) ?_
                      refine awl_op (aop_alloc (cs := expl (.arr 16 (.int .i64)) (List.replicate 16 0)) zero41 rfl ?_)
                      refine awl_op (aop_store (cs' := expl (.arr 16 (.int .i64)) x26) sz41 rfl rfl rfl rfl expl_beq expl_ble over_all ?_)
                      refine awl_nil (athen_norm (awc_seq ?_))
                      refine awc_region ?_
                      refine awl_v (av_move rfl) ?_
                      refine awl_v (av_ia_parr und41 sz3 rfl rfl (aix_b e45) aix_o) ?_
                      refine awl_v (av_load_ptr ts3 rfl rfl (aix_ld e45)) ?_
                      refine awl_v (av_add rfl rfl) ?_
                      refine awl_v (av_ia_parr und41 sz3 rfl rfl (aix_b e45) aix_o) ?_
                      refine awl_op (aop_store (cs' := expl (.arr 16 (.int .i64)) (x26.set (Int.toNat i29) (w64 (x44 + 1)))) sz3 rfl rfl rfl rfl rfl (aix_le e45) (aix_st e45) ?_)
                      refine awl_nil (athen_norm (awc_seq (awc_seq ?_)))
                      refine awc_wk (wk_of (st' := ⟨[(0, .int .i64 p0), (4, .int .i64 0), (5, .int .i64 0), (6, .sl (.slice (.int .i64)) x5), (7, .sog 0), (10, .map 1), (11, .osl 2), (12, .ptr 3 0), (66, .int .i64 p0), (67, .int .i64 i29), (13, .int .i64 i29), (78, .bool (decide (x44 = (List.length x46 : Int)))), (79, .agg (expl (.arr 16 (.int .i64)) x26)), (14, .rp (expl (.arr 16 (.int .i64)) (x26.set (Int.toNat i29) (w64 (x44 + 1))))), (80, .int .i64 i29), (82, .int .i64 x44), (83, .int .i64 (w64 (x44 + 1)))], [(0, .slo 38 3 (.int .i64) s10), (1, .map (.arr 16 (.int .i64)) .bool s31), (2, .sl 41 (.arr 16 (.int .i64)) s32), (3, .var 41 (expl (.arr 16 (.int .i64)) x26))], 4⟩) hX [0, 1, 2, 3] 4 rfl rfl ⟨⟨_, rfl, cv0⟩, ⟨_, rfl, cv0⟩, ⟨_, rfl, cv0⟩, ⟨_, rfl, cv0⟩, ⟨_, rfl, cv0⟩, ⟨_, rfl, cv0⟩, ⟨_, rfl, cv0⟩, ⟨_, rfl, cv0⟩, ⟨_, rfl, cv0⟩, ⟨_, rfl, cv0⟩, ⟨_, rfl, cv0⟩, ⟨_, rfl, cv0⟩, ⟨_, rfl, cv0⟩, ⟨_, rfl, cv0⟩, ⟨_, rfl, cv0⟩, ⟨_, rfl, cv0⟩, ⟨_, rfl, cv0⟩, trivial⟩ ⟨cvo0, cvo0, cvo0, cvo0, trivial⟩) ?_
                      obtain ⟨x49, e50, hr⟩ := bnd_some hr
                      obtain ⟨x51, e52, hr⟩ := bnd_some hr
                      obtain ⟨h53, hr⟩ := chk_some hr
                      obtain ⟨h54, hr⟩ := chk_some hr
                      obtain ⟨x55, e56, hr⟩ := bnd_some hr
                      obtain ⟨h57, hr⟩ := chk_some hr
                      refine awc_draw mixed [0, 4, 5, 6, 7, 10, 11, 12, 66, 67, 13, 14] [(true, .sl (.slice (.int .i64)) x5), (true, .sog 0), (true, .int .i64 i29), (true, .epg 0 (Int.toNat i29)), (true, .row 0 (Int.toNat i29)), (true, .int .i64 i29), (true, .ptr 3 (Int.toNat i29)), (true, .int .i64 x44), (true, .epr 0 (Int.toNat i29) 1 (Int.toNat x44) 0), (true, .int .i64 x49), (true, .rp [.sl (.int .i64) x51]), (true, .sl (.int .i64) x51), (true, .int .i64 p0), (true, .sl (.int .i64) ((x26.set (Int.toNat i29) (w64 (x44 + 1))).take (Int.toNat p0))), (true, .bool x55), (true, .bool (!x55)), (true, .bool (!x55)), (!(!x55), .map 1), (!(!x55), .agg (expl (.arr 16 (.int .i64)) (x26.set (Int.toNat i29) (w64 (x44 + 1))))), (!(!x55), .bool ((mget s31 (x26.set (Int.toNat i29) (w64 (x44 + 1)))).getD false)), (true, .bool ((!x55) || ((mget s31 (x26.set (Int.toNat i29) (w64 (x44 + 1)))).getD false)))] [[], [], [], [1, 2], [3], [], [5], [6], [4, 7], [8], [0, 9], [10], [], [12], [11, 13], [14], [15], [16], [16], [17, 18, 16], [19, 16]] [20] rfl rfl rfl rfl rfl ⟨?_, ?_, ?_, ?_, ?_, ?_, ?_, ?_, ?_, ?_, ?_, ?_, ?_, ?_, ?_, ?_, ?_, ?_, ?_, ?_, ?_, trivial⟩ (allT_of ⟨rfl, trivial⟩) ?_
                      · exact ob_v rfl (fun hg => allT_of trivial) (fun hg => av_move rfl)
                      · exact ob_v rfl (fun hg => allT_of trivial) (fun hg => av_move rfl)
                      · exact ob_v rfl (fun hg => allT_of trivial) (fun hg => av_move rfl)
                      · exact ob_v rfl (fun hg => allT_of ⟨rfl, rfl, trivial⟩) (fun hg => av_ia_sog (t := (.int .i64)) und34 sz38 rfl rfl rfl e47)
                      · exact ob_v rfl (fun hg => allT_of ⟨rfl, trivial⟩) (fun hg => av_load_epg (t := (.int .i64)) ts38 rfl rfl (ix_at e47))
                      · exact ob_v rfl (fun hg => allT_of trivial) (fun hg => av_move rfl)
                      · exact ob_v rfl (fun hg => allT_of ⟨rfl, trivial⟩) (fun hg => av_ia_parr und41 sz3 rfl rfl (aix_b e45) aix_o)
                      · exact ob_v rfl (fun hg => allT_of ⟨rfl, trivial⟩) (fun hg => av_load_ptr ts3 rfl rfl (aix_ld e45))
                      · exact ob_v rfl (fun hg => allT_of ⟨rfl, rfl, trivial⟩) (fun hg => av_ia_row (t := (.int .i64)) und38 sz3 rfl rfl rfl (ix_at e47) e50)
                      · exact ob_v rfl (fun hg => allT_of ⟨rfl, trivial⟩) (fun hg => av_load_epr (t := (.int .i64)) ts3 rfl rfl rfl (ix_at e47) (ix_at e50) rfl)
                      · exact ob_v rfl (fun hg => allT_of ⟨rfl, rfl, trivial⟩) (fun hg => av_ia_sl (t := (.slice (.int .i64))) (e := x51) und34 sz38 rfl rfl e52)
                      · exact ob_v rfl (fun hg => allT_of ⟨rfl, trivial⟩) (fun hg => av_load_rp ts38 rfl)
                      · exact ob_v rfl (fun hg => allT_of trivial) (fun hg => av_move rfl)
                      · exact ob_v rfl (fun hg => allT_of ⟨rfl, trivial⟩) (fun hg => av_slice_rarr (n := 16) (h := p0) und41 sz3 rfl h53 ⟨_, rfl⟩ h54 rfl)
                      · exact ob_v rfl (fun hg => allT_of ⟨rfl, rfl, trivial⟩) (fun hg => av_call (f70_runs e56).x ent15 rfl rfl)
                      · exact ob_v rfl (fun hg => allT_of ⟨rfl, trivial⟩) (fun hg => av_not rfl)
                      · exact ob_v rfl (fun hg => allT_of ⟨rfl, trivial⟩) (fun hg => av_move rfl)
                      · exact ob_v ⟨rfl, rfl, rfl, _, rfl, rfl⟩ (fun hg => allT_of ⟨rfl, trivial⟩) (fun hg => av_move rfl)
                      · exact ob_v ⟨rfl, rfl, rfl, _, rfl, rfl⟩ (fun hg => allT_of ⟨rfl, trivial⟩) (fun hg => av_load_rpN (ds := expl (.arr 16 (.int .i64)) (x26.set (Int.toNat i29) (w64 (x44 + 1)))) ts41 rfl expl_take expl_beq)
                      · exact ob_v ⟨rfl, rfl, rfl, _, rfl, rfl⟩ (fun hg => allT_of ⟨hg, hg, rfl, trivial⟩) (fun hg => av_lookup (kx := (x26.set (Int.toNat i29) (w64 (x44 + 1)))) (r := .bool ((mget s31 (x26.set (Int.toNat i29) (w64 (x44 + 1)))).getD false)) und42 kt41 zw4 rfl rfl rfl (fit_arr (imp_g h57 hg)) rfl)
                      · exact ob_pick (b := false) (p := !x55) (q := ((mget s31 (x26.set (Int.toNat i29) (w64 (x44 + 1)))).getD false)) rfl rfl rfl (fun hg => allT_of ⟨rfl, trivial⟩) rfl rfl rfl rfl rfl
                      refine athen_norm ?_
                      refine awc_cond (b := (!x55) || ((mget s31 (x26.set (Int.toNat i29) (w64 (x44 + 1)))).getD false)) rfl (fun hc58 => ?_) (fun hc58 => ?_)
                      · have hr := if_t hc58 hr
                        have hr := Option.some.inj hr
                        subst hr
                        exact awc_exit (athen_exit (ablock_here ((wk_of hX [0, 1, 2, 3] 4 rfl rfl ⟨⟨_, rfl, cv0⟩, ⟨_, rfl, cv0⟩, ⟨_, rfl, cv0⟩, ⟨_, rfl, cv0⟩, ⟨_, rfl, cv0⟩, ⟨_, rfl, cv0⟩, ⟨_, rfl, cv0⟩, ⟨_, rfl, cv0⟩, ⟨_, rfl, cv0⟩, ⟨_, rfl, cv0⟩, trivial⟩ ⟨cvo0, cvo0, cvo0, cvo0, trivial⟩))))
                      · have hr := if_f hc58 hr
                        refine awc_skip (athen_norm (awc_seq ?_))
                        refine awc_region ?_
                        refine awl_v (av_move rfl) ?_
                        refine awl_v (av_load_rpN (ds := expl (.arr 16 (.int .i64)) (x26.set (Int.toNat i29) (w64 (x44 + 1)))) ts41 rfl expl_take expl_beq) ?_
                        obtain ⟨h59, hr⟩ := chk_some hr
                        refine awl_op (aop_mapSet (kx := (x26.set (Int.toNat i29) (w64 (x44 + 1)))) (vx := true) und42 kt41 (.inl rfl) rfl rfl rfl rfl rfl (fit_arr h59) rfl ?_)
                        refine awl_nil (athen_norm (awc_seq (awc_seq ?_)))
                        refine awc_region ?_
                        refine awl_v (av_move rfl) ?_
                        refine awl_v (av_len_map (tk := (.arr 16 (.int .i64))) (tv := .bool) rfl rfl und42 rfl rfl) ?_
                        refine awl_v (av_gtr rfl rfl) ?_
                        refine awl_nil (athen_norm ?_)
                        refine awc_cond (b := decide (100000 < (List.length (mset s31 (x26.set (Int.toNat i29) (w64 (x44 + 1))) true) : Int))) rfl (fun hc60 => ?_) (fun hc60 => ?_)
                        · have hr := if_t hc60 hr
                          refine awc_seq ?_
                          refine awc_region ?_
                          refine awl_v (av_assign rfl) ?_
                          refine awl_v (av_assign rfl) ?_
                          have hr := Option.some.inj hr
                          subst hr
                          exact awl_nil (athen_norm (awc_ret (athen_ret (ablock_ret (⟨rfl, (wk_of hX [] 4 rfl rfl ⟨⟨_, rfl, cv0⟩, ⟨_, rfl, cv0⟩, trivial⟩ trivial)⟩)))))
                        · have hr := if_f hc60 hr
                          refine awc_skip (athen_norm ?_)
                          refine awc_region ?_
                          refine awl_v (av_move rfl) ?_
                          refine awl_v (av_load_rpN (ds := expl (.arr 16 (.int .i64)) (x26.set (Int.toNat i29) (w64 (x44 + 1)))) ts41 rfl expl_take expl_beq) ?_
                          obtain ⟨h61, hr⟩ := chk_some hr
                          refine awl_v (av_buildSlice (t := (.arr 16 (.int .i64))) (qs := [(0, expl (.arr 16 (.int .i64)) (x26.set (Int.toNat i29) (w64 (x44 + 1))))]) (ys := [(x26.set (Int.toNat i29) (w64 (x44 + 1)))]) bs43 rfl rfl lay_arr1 lay_y1 rfl rfl rfl (fit_arr1 h61)) ?_
                          obtain ⟨h62, hr⟩ := chk_some hr
                          refine awl_op (aop_append rfl rfl app43 rfl rfl rfl h62 rfl ?_)
                          refine awl_v (av_assign rfl) ?_
                          have hr := Option.some.inj hr
                          subst hr
                          exact awl_nil (ablock_norm ((wk_of hX [0, 1, 4, 3] 4 rfl rfl ⟨⟨_, rfl, cv0⟩, ⟨_, rfl, cv0⟩, ⟨_, rfl, cv0⟩, ⟨_, rfl, cv0⟩, ⟨_, rfl, cv0⟩, ⟨_, rfl, cv0⟩, ⟨_, rfl, cv0⟩, ⟨_, rfl, cv0⟩, ⟨_, rfl, cv0⟩, ⟨_, rfl, cv0⟩, trivial⟩ ⟨cvo0, cvo0, cvo0, cvo0, trivial⟩)))
                  · rintro ⟨s40, s41⟩ rfl
                    refine awc_region ?_
                    refine awl_v (av_add rfl rfl) ?_
                    refine awl_v (av_move rfl) ?_
                    have hr := Option.some.inj hr
                    subst hr
                    exact awl_nil ((wk_of hX [0, 1, 2, 3] 4 rfl rfl ⟨⟨_, rfl, cv0⟩, ⟨_, rfl, cv0⟩, ⟨_, rfl, cv0⟩, ⟨_, rfl, cv0⟩, ⟨_, rfl, cv0⟩, ⟨_, rfl, cv0⟩, ⟨_, rfl, cv0⟩, ⟨_, rfl, cv0⟩, ⟨_, rfl, cv0⟩, ⟨_, rfl, cv0⟩, trivial⟩ ⟨cvo0, cvo0, cvo0, cvo0, trivial⟩))
                  · rintro r rfl e st hne hx
                    obtain ⟨rfl, hw⟩ := hx
                    have hr := Option.some.inj hr
                    subst hr
                    exact ⟨rfl, (Wk.trans hw (wk_of hX [] 4 rfl rfl ⟨⟨_, rfl, cv0⟩, ⟨_, rfl, cv0⟩, trivial⟩ trivial))⟩
                · obtain rfl := rb_f hc39 ho
                  exact awc_exit (athen_exit (⟨rfl, (wk_of hX [0, 1, 2] 4 rfl rfl ⟨⟨_, rfl, cv0⟩, ⟨_, rfl, cv0⟩, ⟨_, rfl, cv0⟩, ⟨_, rfl, cv0⟩, ⟨_, rfl, cv0⟩, ⟨_, rfl, cv0⟩, ⟨_, rfl, cv0⟩, trivial⟩ ⟨cvo0, cvo0, cvo0, trivial⟩)⟩))
            · have hr := if_f hc25 hr
              have hr := Option.some.inj hr
              subst hr
              exact awc_exit (athen_exit (⟨rfl, (wk_of hX [1] 4 rfl rfl ⟨⟨_, rfl, cv0⟩, ⟨_, rfl, cv0⟩, ⟨_, rfl, cv0⟩, trivial⟩ ⟨cvo0, trivial⟩)⟩))
        · exact hx.elim
      · rintro i8 s10 o ho
        refine awc_seq ?_
        refine awc_region ?_
        refine awl_v (av_lss rfl rfl) ?_
        refine awl_nil (athen_norm (awc_seq ?_))
        refine awc_cond (b := decide (i8 < (List.length p1 : Int))) rfl (fun hc63 => ?_) (fun hc63 => ?_)
        · obtain ⟨q, hr, rfl⟩ := rb_t hc63 ho
          refine awc_skip (athen_norm (awc_seq (awc_block (awc_seq ?_))))
          refine awc_region ?_
          refine awl_v (av_move rfl) ?_
          obtain ⟨x64, e65, hr⟩ := bnd_some hr
          refine awl_v (av_ia_sl (t := Y1) (e := x64) und22 sz30 rfl rfl e65) ?_
          refine awl_v (av_load_rpN ts30 rfl rfl rfl) ?_
          refine awl_op (aop_alloc zero30 rfl ?_)
          refine awl_v (av_assign rfl) ?_
          refine awl_op (aop_store sz30 rfl rfl rfl rfl rfl rfl rfl ?_)
          refine awl_nil (athen_norm ?_)
          obtain ⟨x66, e67, hr⟩ := bnd_some hr
          refine awc_wk (wk_open_row (i := 0) (z := (Int.toNat x64.1)) rfl rfl (ix_at e67)) ?_
          obtain ⟨h68, hr⟩ := chk_some hr
          refine awc_draw_late (st2 := ⟨[(0, .int .i64 p0), (4, .int .i64 0), (5, .int .i64 0), (6, .sl (.slice (.int .i64)) x5), (7, .sog 0), (27, .sl Y1 p1), (28, .int .i64 (List.length p1 : Int)), (29, .int .i64 i8), (9, .ptr 1 0), (44, .osl 3)], [(0, .sloh 38 3 (.int .i64) s10 (Int.toNat x64.1) 2), (1, .var 30 [.int .i64 x64.1, .int .i64 x64.2.1, .int .i64 x64.2.2.1, .int .i64 x64.2.2.2.1, .str x64.2.2.2.2]), (2, .dead), (3, .sl 3 (.int .i64) (x66 ++ [i8]))], 4⟩) 10 [0, 1, 2] [0, 0, 0, 6, 5, 6, 7, 10, 9, 10] [[], [], [1], [], [], [], [], [], [], []] mixed [0, 4, 5, 6, 7, 27, 28, 29, 9, 8] [(true, .sog 0), (true, .ptr 1 0), (true, .int .i64 x64.1), (true, .sog 0), (true, .ptr 1 0), (true, .int .i64 x64.1), (true, .epg 0 (Int.toNat x64.1)), (true, .osl 2), (true, .int .i64 i8), (true, .sl (.int .i64) [i8])] [[], [], [1], [], [], [4], [3, 5], [6], [], [8]] [7, 9] [0, 4, 5, 6, 7, 27, 28, 29, 9, 44] rfl rfl rfl rfl rfl rfl rfl rfl rfl rfl rfl rfl ⟨?_, ?_, ?_, ?_, ?_, ?_, ?_, ?_, ?_, ?_, trivial⟩ (allT_of ⟨rfl, rfl, trivial⟩) rfl ⟨(fun X' o ho => by obtain rfl := Option.some.inj ho; exact av_move rfl), (fun X' o ho => by obtain rfl := Option.some.inj ho; exact av_fa_ptr fa30_0 rfl rfl), (fun X' o ho => by obtain rfl := Option.some.inj ho; exact av_load_ptr ts3 rfl rfl rfl), trivial⟩ rfl (fun X' => aop_append rfl rfl app38 rfl rfl rfl h68 rfl ⟨⟨rfl, rfl, rfl, rfl, rfl, rfl, rfl, rfl, rfl, rfl, trivial⟩, ⟨rfl, rfl, rfl, rfl, trivial⟩, rfl⟩) ?_
          · exact ob_v rfl (fun hg => allT_of trivial) (fun hg => av_move rfl)
          · exact ob_v rfl (fun hg => allT_of trivial) (fun hg => av_fa_ptr fa30_0 rfl rfl)
          · exact ob_v rfl (fun hg => allT_of ⟨rfl, trivial⟩) (fun hg => av_load_ptr ts3 rfl rfl rfl)
          · exact ob_v rfl (fun hg => allT_of trivial) (fun hg => av_move rfl)
          · exact ob_v rfl (fun hg => allT_of trivial) (fun hg => av_fa_ptr fa30_0 rfl rfl)
          · exact ob_v rfl (fun hg => allT_of ⟨rfl, trivial⟩) (fun hg => av_load_ptr ts3 rfl rfl rfl)
          · exact ob_v rfl (fun hg => allT_of ⟨rfl, rfl, trivial⟩) (fun hg => av_ia_sogh (t := (.int .i64)) und34 sz38 rfl rfl rfl e67)
          · exact ob_v rfl (fun hg => allT_of ⟨rfl, trivial⟩) (fun hg => av_load_epgh (t := (.int .i64)) ts38 rfl rfl)
          · exact ob_v rfl (fun hg => allT_of trivial) (fun hg => av_move rfl)
          · exact ob_v rfl (fun hg => allT_of ⟨rfl, trivial⟩) (fun hg => av_buildSlice (t := (.int .i64)) (qs := [(0, [.int .i64 i8])]) (ys := [i8]) bs38 rfl rfl rfl rfl rfl rfl rfl rfl)
          refine awl_v (av_ia_sogh (t := (.int .i64)) und34 sz38 rfl rfl rfl e67) ?_
          refine awl_op (aop_store_epgh (l' := [(0, .int .i64 p0), (4, .int .i64 0), (5, .int .i64 0), (6, .sl (.slice (.int .i64)) x5), (7, .sog 0), (27, .sl Y1 p1), (28, .int .i64 (List.length p1 : Int)), (29, .int .i64 i8), (9, .ptr 1 0), (44, .osl 3), (34, .sog 0), (35, .ptr 1 0), (36, .int .i64 x64.1), (45, .epg 0 (Int.toNat x64.1))]) sz38 rfl rfl rfl rfl (by rw [hX]; rfl) rfl ⟨⟨rfl, rfl⟩, ⟨rfl, rfl⟩, ⟨rfl, rfl⟩, ⟨rfl, rfl⟩, ⟨rfl, rfl⟩, ⟨rfl, rfl⟩, ⟨rfl, rfl⟩, ⟨rfl, rfl⟩, ⟨rfl, rfl⟩, ⟨rfl, rfl⟩, ⟨rfl, rfl⟩, ⟨rfl, rfl⟩, ⟨rfl, rfl⟩, ⟨rfl, rfl⟩, trivial⟩ rfl ?_)
          refine awl_nil (ablock_norm (athen_norm ?_))
          refine awc_region ?_
          refine awl_v (av_add rfl rfl) ?_
          refine awl_v (av_move rfl) ?_
          have hr := Option.some.inj hr
          subst hr
          exact awl_nil ((wk_of hX [0] 4 rfl rfl ⟨⟨_, rfl, cv0⟩, ⟨_, rfl, cv0⟩, ⟨_, rfl, cv0⟩, ⟨_, rfl, cv0⟩, ⟨_, rfl, cv0⟩, ⟨_, rfl, cv0⟩, ⟨_, rfl, cv0⟩, ⟨_, rfl, cv0⟩, trivial⟩ ⟨cvo0, trivial⟩))
        · obtain rfl := rb_f hc63 ho
          exact awc_exit (athen_exit (⟨rfl, (wk_of hX [0] 4 rfl rfl ⟨⟨_, rfl, cv0⟩, ⟨_, rfl, cv0⟩, ⟨_, rfl, cv0⟩, ⟨_, rfl, cv0⟩, ⟨_, rfl, cv0⟩, trivial⟩ ⟨cvo0, trivial⟩)⟩))
theorem f50_runs {p0 : Int × Int × Int × Int × Str} {r : Bool} (hr : f50 p0 = some r) : RunsP Tryd.prog 40 [.agg [.int .i64 p0.1, .int .i64 p0.2.1, .int .i64 p0.2.2.1, .int .i64 p0.2.2.2.1, .str p0.2.2.2.2]] [.bool r] := by
  refine runs_w Tryd.func40 Tryd.ntmps40 rfl (rs := [.tmp 2]) rfl rfl fun w0 X hX => ?_
  refine awc_seq ?_
  refine awc_region ?_
  refine awl_op (aop_box rfl rfl ?_)
  refine awl_v (av_assign rfl) ?_
  refine awl_nil (athen_norm (awc_seq ?_))
  refine awc_draw mixed [1, 2] [(true, .ptr 0 1), (true, .int .i64 p0.2.1), (true, .bool (decide (p0.2.1 = 2))), (true, .bool (decide (p0.2.1 = 2))), (!(decide (p0.2.1 = 2)), .ptr 0 1), (!(decide (p0.2.1 = 2)), .int .i64 p0.2.1), (!(decide (p0.2.1 = 2)), .bool (decide (p0.2.1 = 3))), (true, .bool ((decide (p0.2.1 = 2)) || (decide (p0.2.1 = 3)))), (true, .ptr 0 1), (true, .int .i64 p0.2.1), (true, .bool (decide (p0.2.1 = 4))), (true, .bool (decide (p0.2.1 = 4))), (!(decide (p0.2.1 = 4)), .ptr 0 1), (!(decide (p0.2.1 = 4)), .int .i64 p0.2.1), (!(decide (p0.2.1 = 4)), .bool (decide (p0.2.1 = 5))), (true, .bool ((decide (p0.2.1 = 4)) || (decide (p0.2.1 = 5)))), (true, .bool ((decide (p0.2.1 = 2)) || (decide (p0.2.1 = 3)))), (true, .bool ((decide (p0.2.1 = 4)) || (decide (p0.2.1 = 5))))] [[], [0], [1], [2], [3], [4, 3], [5, 3], [6, 3], [], [8], [9], [10], [11], [12, 11], [13, 11], [14, 11], [7], [15]] [16, 17] rfl rfl rfl rfl rfl ⟨?_, ?_, ?_, ?_, ?_, ?_, ?_, ?_, ?_, ?_, ?_, ?_, ?_, ?_, ?_, ?_, ?_, ?_, trivial⟩ (allT_of ⟨rfl, rfl, trivial⟩) ?_
  · exact ob_v rfl (fun hg => allT_of trivial) (fun hg => av_fa_ptr fa30_1 rfl rfl)
  · exact ob_v rfl (fun hg => allT_of ⟨rfl, trivial⟩) (fun hg => av_load_ptr ts3 rfl rfl rfl)
  · exact ob_v rfl (fun hg => allT_of ⟨rfl, trivial⟩) (fun hg => av_eql rfl rfl)
  · exact ob_v rfl (fun hg => allT_of ⟨rfl, trivial⟩) (fun hg => av_move rfl)
  · exact ob_v ⟨rfl, rfl, rfl, _, rfl, rfl⟩ (fun hg => allT_of ⟨rfl, trivial⟩) (fun hg => av_fa_ptr fa30_1 rfl rfl)
  · exact ob_v ⟨rfl, rfl, rfl, _, rfl, rfl⟩ (fun hg => allT_of ⟨hg, rfl, trivial⟩) (fun hg => av_load_ptr ts3 rfl rfl rfl)
  · exact ob_v ⟨rfl, rfl, rfl, _, rfl, rfl⟩ (fun hg => allT_of ⟨hg, rfl, trivial⟩) (fun hg => av_eql rfl rfl)
  · exact ob_pick (b := false) (p := decide (p0.2.1 = 2)) (q := decide (p0.2.1 = 3)) rfl rfl rfl (fun hg => allT_of ⟨rfl, trivial⟩) rfl rfl rfl rfl rfl
  · exact ob_v rfl (fun hg => allT_of trivial) (fun hg => av_fa_ptr fa30_1 rfl rfl)
  · exact ob_v rfl (fun hg => allT_of ⟨rfl, trivial⟩) (fun hg => av_load_ptr ts3 rfl rfl rfl)
  · exact ob_v rfl (fun hg => allT_of ⟨rfl, trivial⟩) (fun hg => av_eql rfl rfl)
  · exact ob_v rfl (fun hg => allT_of ⟨rfl, trivial⟩) (fun hg => av_move rfl)
  · exact ob_v ⟨rfl, rfl, rfl, _, rfl, rfl⟩ (fun hg => allT_of ⟨rfl, trivial⟩) (fun hg => av_fa_ptr fa30_1 rfl rfl)
  · exact ob_v ⟨rfl, rfl, rfl, _, rfl, rfl⟩ (fun hg => allT_of ⟨hg, rfl, trivial⟩) (fun hg => av_load_ptr ts3 rfl rfl rfl)
  · exact ob_v ⟨rfl, rfl, rfl, _, rfl, rfl⟩ (fun hg => allT_of ⟨hg, rfl, trivial⟩) (fun hg => av_eql rfl rfl)
  · exact ob_pick (b := false) (p := decide (p0.2.1 = 4)) (q := decide (p0.2.1 = 5)) rfl rfl rfl (fun hg => allT_of ⟨rfl, trivial⟩) rfl rfl rfl rfl rfl
  · exact ob_v rfl (fun hg => allT_of ⟨rfl, trivial⟩) (fun hg => av_assign rfl)
  · exact ob_v rfl (fun hg => allT_of ⟨rfl, trivial⟩) (fun hg => av_assign rfl)
  refine athen_norm (awc_seq ?_)
  refine awc_text [1, 3, 4] [(true, .ptr 0 1), (true, .int .i64 p0.2.1), (true, .bool (decide (1 ≤ p0.2.1))), (true, .bool (decide (1 ≤ p0.2.1))), (decide (1 ≤ p0.2.1), .ptr 0 1), (decide (1 ≤ p0.2.1), .int .i64 p0.2.1), (decide (1 ≤ p0.2.1), .bool (decide (p0.2.1 ≤ 5))), (true, .bool ((decide (1 ≤ p0.2.1)) && (decide (p0.2.1 ≤ 5)))), (true, .bool ((decide (1 ≤ p0.2.1)) && (decide (p0.2.1 ≤ 5)))), ((decide (1 ≤ p0.2.1)) && (decide (p0.2.1 ≤ 5)), .bool ((decide (p0.2.1 = 2)) || (decide (p0.2.1 = 3)))), ((decide (1 ≤ p0.2.1)) && (decide (p0.2.1 ≤ 5)), .bool ((decide (p0.2.1 = 2)) || (decide (p0.2.1 = 3)))), (((decide (1 ≤ p0.2.1)) && (decide (p0.2.1 ≤ 5))) && (!((decide (p0.2.1 = 2)) || (decide (p0.2.1 = 3)))), .ptr 0 2), (((decide (1 ≤ p0.2.1)) && (decide (p0.2.1 ≤ 5))) && (!((decide (p0.2.1 = 2)) || (decide (p0.2.1 = 3)))), .int .i64 p0.2.2.1), (((decide (1 ≤ p0.2.1)) && (decide (p0.2.1 ≤ 5))) && (!((decide (p0.2.1 = 2)) || (decide (p0.2.1 = 3)))), .bool (decide (p0.2.2.1 = 0))), ((decide (1 ≤ p0.2.1)) && (decide (p0.2.1 ≤ 5)), .bool (((decide (p0.2.1 = 2)) || (decide (p0.2.1 = 3))) || (decide (p0.2.2.1 = 0)))), (true, .bool (((decide (1 ≤ p0.2.1)) && (decide (p0.2.1 ≤ 5))) && (((decide (p0.2.1 = 2)) || (decide (p0.2.1 = 3))) || (decide (p0.2.2.1 = 0))))), (true, .bool (((decide (1 ≤ p0.2.1)) && (decide (p0.2.1 ≤ 5))) && (((decide (p0.2.1 = 2)) || (decide (p0.2.1 = 3))) || (decide (p0.2.2.1 = 0))))), (((decide (1 ≤ p0.2.1)) && (decide (p0.2.1 ≤ 5))) && (((decide (p0.2.1 = 2)) || (decide (p0.2.1 = 3))) || (decide (p0.2.2.1 = 0))), .bool ((decide (p0.2.1 = 4)) || (decide (p0.2.1 = 5)))), (((decide (1 ≤ p0.2.1)) && (decide (p0.2.1 ≤ 5))) && (((decide (p0.2.1 = 2)) || (decide (p0.2.1 = 3))) || (decide (p0.2.2.1 = 0))), .bool ((decide (p0.2.1 = 4)) || (decide (p0.2.1 = 5)))), ((((decide (1 ≤ p0.2.1)) && (decide (p0.2.1 ≤ 5))) && (((decide (p0.2.1 = 2)) || (decide (p0.2.1 = 3))) || (decide (p0.2.2.1 = 0)))) && (!((decide (p0.2.1 = 4)) || (decide (p0.2.1 = 5)))), .ptr 0 3), ((((decide (1 ≤ p0.2.1)) && (decide (p0.2.1 ≤ 5))) && (((decide (p0.2.1 = 2)) || (decide (p0.2.1 = 3))) || (decide (p0.2.2.1 = 0)))) && (!((decide (p0.2.1 = 4)) || (decide (p0.2.1 = 5)))), .int .i64 p0.2.2.2.1), ((((decide (1 ≤ p0.2.1)) && (decide (p0.2.1 ≤ 5))) && (((decide (p0.2.1 = 2)) || (decide (p0.2.1 = 3))) || (decide (p0.2.2.1 = 0)))) && (!((decide (p0.2.1 = 4)) || (decide (p0.2.1 = 5)))), .bool (decide (p0.2.2.2.1 = 0))), (((decide (1 ≤ p0.2.1)) && (decide (p0.2.1 ≤ 5))) && (((decide (p0.2.1 = 2)) || (decide (p0.2.1 = 3))) || (decide (p0.2.2.1 = 0))), .bool (((decide (p0.2.1 = 4)) || (decide (p0.2.1 = 5))) || (decide (p0.2.2.2.1 = 0)))), (true, .bool ((((decide (1 ≤ p0.2.1)) && (decide (p0.2.1 ≤ 5))) && (((decide (p0.2.1 = 2)) || (decide (p0.2.1 = 3))) || (decide (p0.2.2.1 = 0)))) && (((decide (p0.2.1 = 4)) || (decide (p0.2.1 = 5))) || (decide (p0.2.2.2.1 = 0))))), (true, .bool ((((decide (1 ≤ p0.2.1)) && (decide (p0.2.1 ≤ 5))) && (((decide (p0.2.1 = 2)) || (decide (p0.2.1 = 3))) || (decide (p0.2.2.1 = 0)))) && (((decide (p0.2.1 = 4)) || (decide (p0.2.1 = 5))) || (decide (p0.2.2.2.1 = 0))))), ((((decide (1 ≤ p0.2.1)) && (decide (p0.2.1 ≤ 5))) && (((decide (p0.2.1 = 2)) || (decide (p0.2.1 = 3))) || (decide (p0.2.2.1 = 0)))) && (((decide (p0.2.1 = 4)) || (decide (p0.2.1 = 5))) || (decide (p0.2.2.2.1 = 0))), .ptr 0 4), ((((decide (1 ≤ p0.2.1)) && (decide (p0.2.1 ≤ 5))) && (((decide (p0.2.1 = 2)) || (decide (p0.2.1 = 3))) || (decide (p0.2.2.1 = 0)))) && (((decide (p0.2.1 = 4)) || (decide (p0.2.1 = 5))) || (decide (p0.2.2.2.1 = 0))), .str p0.2.2.2.2), ((((decide (1 ≤ p0.2.1)) && (decide (p0.2.1 ≤ 5))) && (((decide (p0.2.1 = 2)) || (decide (p0.2.1 = 3))) || (decide (p0.2.2.1 = 0)))) && (((decide (p0.2.1 = 4)) || (decide (p0.2.1 = 5))) || (decide (p0.2.2.2.1 = 0))), .int .i64 (List.length p0.2.2.2.2 : Int)), ((((decide (1 ≤ p0.2.1)) && (decide (p0.2.1 ≤ 5))) && (((decide (p0.2.1 = 2)) || (decide (p0.2.1 = 3))) || (decide (p0.2.2.1 = 0)))) && (((decide (p0.2.1 = 4)) || (decide (p0.2.1 = 5))) || (decide (p0.2.2.2.1 = 0))), .bool (decide ((List.length p0.2.2.2.2 : Int) ≤ 32))), (true, .bool (((((decide (1 ≤ p0.2.1)) && (decide (p0.2.1 ≤ 5))) && (((decide (p0.2.1 = 2)) || (decide (p0.2.1 = 3))) || (decide (p0.2.2.1 = 0)))) && (((decide (p0.2.1 = 4)) || (decide (p0.2.1 = 5))) || (decide (p0.2.2.2.1 = 0)))) && (decide ((List.length p0.2.2.2.2 : Int) ≤ 32)))), (true, .bool (((((decide (1 ≤ p0.2.1)) && (decide (p0.2.1 ≤ 5))) && (((decide (p0.2.1 = 2)) || (decide (p0.2.1 = 3))) || (decide (p0.2.2.1 = 0)))) && (((decide (p0.2.1 = 4)) || (decide (p0.2.1 = 5))) || (decide (p0.2.2.2.1 = 0)))) && (decide ((List.length p0.2.2.2.2 : Int) ≤ 32))))] [[], [0], [1], [2], [3], [4, 3], [5, 3], [6, 3], [7], [8], [9, 8], [10], [11, 10], [12, 10], [13, 10, 8], [14, 8], [15], [16], [17, 16], [18], [19, 18], [20, 18], [21, 18, 16], [22, 16], [23], [24], [25, 24], [26, 24], [27, 24], [28, 24], [29]] [30] rfl rfl rfl rfl rfl ⟨?_, ?_, ?_, ?_, ?_, ?_, ?_, ?_, ?_, ?_, ?_, ?_, ?_, ?_, ?_, ?_, ?_, ?_, ?_, ?_, ?_, ?_, ?_, ?_, ?_, ?_, ?_, ?_, ?_, ?_, ?_, trivial⟩ (allT_of ⟨rfl, trivial⟩) ?_
  · exact ob_v rfl (fun hg => allT_of trivial) (fun hg => av_fa_ptr fa30_1 rfl rfl)
  · exact ob_v rfl (fun hg => allT_of ⟨rfl, trivial⟩) (fun hg => av_load_ptr ts3 rfl rfl rfl)
  · exact ob_v rfl (fun hg => allT_of ⟨rfl, trivial⟩) (fun hg => av_geq rfl rfl)
  · exact ob_v rfl (fun hg => allT_of ⟨rfl, trivial⟩) (fun hg => av_move rfl)
  · exact ob_v ⟨rfl, rfl, rfl, _, rfl, rfl⟩ (fun hg => allT_of ⟨rfl, trivial⟩) (fun hg => av_fa_ptr fa30_1 rfl rfl)
  · exact ob_v ⟨rfl, rfl, rfl, _, rfl, rfl⟩ (fun hg => allT_of ⟨hg, rfl, trivial⟩) (fun hg => av_load_ptr ts3 rfl rfl rfl)
  · exact ob_v ⟨rfl, rfl, rfl, _, rfl, rfl⟩ (fun hg => allT_of ⟨hg, rfl, trivial⟩) (fun hg => av_leq rfl rfl)
  · exact ob_pick (b := true) (p := decide (1 ≤ p0.2.1)) (q := decide (p0.2.1 ≤ 5)) rfl rfl rfl (fun hg => allT_of ⟨rfl, trivial⟩) rfl rfl rfl rfl rfl
  · exact ob_v rfl (fun hg => allT_of ⟨rfl, trivial⟩) (fun hg => av_move rfl)
  · exact ob_v ⟨rfl, rfl, rfl, _, rfl, rfl⟩ (fun hg => allT_of ⟨rfl, trivial⟩) (fun hg => av_move rfl)
  · exact ob_v ⟨rfl, rfl, rfl, _, rfl, rfl⟩ (fun hg => allT_of ⟨hg, rfl, trivial⟩) (fun hg => av_move rfl)
  · exact ob_v ⟨rfl, rfl, rfl, _, rfl, rfl⟩ (fun hg => allT_of ⟨(and_l hg), trivial⟩) (fun hg => av_fa_ptr fa30_2 rfl rfl)
  · exact ob_v ⟨rfl, rfl, rfl, _, rfl, rfl⟩ (fun hg => allT_of ⟨hg, (and_l hg), trivial⟩) (fun hg => av_load_ptr ts3 rfl rfl rfl)
  · exact ob_v ⟨rfl, rfl, rfl, _, rfl, rfl⟩ (fun hg => allT_of ⟨hg, (and_l hg), trivial⟩) (fun hg => av_eql rfl rfl)
  · exact ob_pick (b := false) (p := (decide (p0.2.1 = 2)) || (decide (p0.2.1 = 3))) (q := decide (p0.2.2.1 = 0)) ⟨rfl, rfl, rfl, _, rfl, rfl⟩ rfl rfl (fun hg => allT_of ⟨hg, rfl, trivial⟩) rfl rfl rfl rfl rfl
  · exact ob_pick (b := true) (p := (decide (1 ≤ p0.2.1)) && (decide (p0.2.1 ≤ 5))) (q := ((decide (p0.2.1 = 2)) || (decide (p0.2.1 = 3))) || (decide (p0.2.2.1 = 0))) rfl rfl rfl (fun hg => allT_of ⟨rfl, trivial⟩) rfl rfl rfl rfl rfl
  · exact ob_v rfl (fun hg => allT_of ⟨rfl, trivial⟩) (fun hg => av_move rfl)
  · exact ob_v ⟨rfl, rfl, rfl, _, rfl, rfl⟩ (fun hg => allT_of ⟨rfl, trivial⟩) (fun hg => av_move rfl)
  · exact ob_v ⟨rfl, rfl, rfl, _, rfl, rfl⟩ (fun hg => allT_of ⟨hg, rfl, trivial⟩) (fun hg => av_move rfl)
  · exact ob_v ⟨rfl, rfl, rfl, _, rfl, rfl⟩ (fun hg => allT_of ⟨(and_l hg), trivial⟩) (fun hg => av_fa_ptr fa30_3 rfl rfl)
  · exact ob_v ⟨rfl, rfl, rfl, _, rfl, rfl⟩ (fun hg => allT_of ⟨hg, (and_l hg), trivial⟩) (fun hg => av_load_ptr ts3 rfl rfl rfl)
  · exact ob_v ⟨rfl, rfl, rfl, _, rfl, rfl⟩ (fun hg => allT_of ⟨hg, (and_l hg), trivial⟩) (fun hg => av_eql rfl rfl)
  · exact ob_pick (b := false) (p := (decide (p0.2.1 = 4)) || (decide (p0.2.1 = 5))) (q := decide (p0.2.2.2.1 = 0)) ⟨rfl, rfl, rfl, _, rfl, rfl⟩ rfl rfl (fun hg => allT_of ⟨hg, rfl, trivial⟩) rfl rfl rfl rfl rfl
  · exact ob_pick (b := true) (p := ((decide (1 ≤ p0.2.1)) && (decide (p0.2.1 ≤ 5))) && (((decide (p0.2.1 = 2)) || (decide (p0.2.1 = 3))) || (decide (p0.2.2.1 = 0)))) (q := ((decide (p0.2.1 = 4)) || (decide (p0.2.1 = 5))) || (decide (p0.2.2.2.1 = 0))) rfl rfl rfl (fun hg => allT_of ⟨rfl, trivial⟩) rfl rfl rfl rfl rfl
  · exact ob_v rfl (fun hg => allT_of ⟨rfl, trivial⟩) (fun hg => av_move rfl)
  · exact ob_v ⟨rfl, rfl, rfl, _, rfl, rfl⟩ (fun hg => allT_of ⟨rfl, trivial⟩) (fun hg => av_fa_ptr fa30_4 rfl rfl)
  · exact ob_v ⟨rfl, rfl, rfl, _, rfl, rfl⟩ (fun hg => allT_of ⟨hg, rfl, trivial⟩) (fun hg => av_load_ptr ts9 rfl rfl rfl)
  · exact ob_v ⟨rfl, rfl, rfl, _, rfl, rfl⟩ (fun hg => allT_of ⟨hg, rfl, trivial⟩) (fun hg => av_len_str rfl rfl und9 rfl)
  · exact ob_v ⟨rfl, rfl, rfl, _, rfl, rfl⟩ (fun hg => allT_of ⟨hg, rfl, trivial⟩) (fun hg => av_leq rfl rfl)
  · exact ob_pick (b := true) (p := (((decide (1 ≤ p0.2.1)) && (decide (p0.2.1 ≤ 5))) && (((decide (p0.2.1 = 2)) || (decide (p0.2.1 = 3))) || (decide (p0.2.2.1 = 0)))) && (((decide (p0.2.1 = 4)) || (decide (p0.2.1 = 5))) || (decide (p0.2.2.2.1 = 0)))) (q := decide ((List.length p0.2.2.2.2 : Int) ≤ 32)) rfl rfl rfl (fun hg => allT_of ⟨rfl, trivial⟩) rfl rfl rfl rfl rfl
  · exact ob_v rfl (fun hg => allT_of ⟨rfl, trivial⟩) (fun hg => av_assign rfl)
  have hr := Option.some.inj hr
  subst hr
  exact athen_norm (awc_ret (ret_q (l' := [(2, .bool (((((decide (1 ≤ p0.2.1)) && (decide (p0.2.1 ≤ 5))) && (((decide (p0.2.1 = 2)) || (decide (p0.2.1 = 3))) || (decide (p0.2.2.1 = 0)))) && (((decide (p0.2.1 = 4)) || (decide (p0.2.1 = 5))) || (decide (p0.2.2.2.1 = 0)))) && (decide ((List.length p0.2.2.2.2 : Int) ≤ 32))))]) (wk_of hX [] 4 rfl rfl ⟨⟨_, rfl, cv0⟩, trivial⟩ trivial) rfl ⟨rfl, trivial⟩))
theorem f51_runs {p0 : List (Int × Int × Int × Int × Str)} {p1 : Int} {p2 : Int} {r : Int} (hr : f51 p0 p1 p2 = some r) : RunsP Tryd.prog 41 [.sl Y1 p0, .int .i64 p1, .int .i64 p2] [.int .i64 r] := by
  refine runs_w Tryd.func41 Tryd.ntmps41 rfl (rs := [.tmp 6]) rfl rfl fun w0 X hX => ?_
  refine awc_seq ?_
  refine awc_region ?_
  refine awl_v (av_assign rfl) ?_
  refine awl_nil (athen_norm (awc_seq (awc_seq ?_)))
  refine awc_region ?_
  refine awl_v (av_move rfl) ?_
  refine awl_v (av_len_sl (t := Y1) rfl rfl und22 rfl) ?_
  refine awl_v (av_move rfl) ?_
  refine awl_nil (athen_norm (awc_block ?_))
  obtain ⟨o4, e5, hr⟩ := bnd_some hr
  refine awc_len (t := 0) rfl (fun hl => ?_)
  refine awc_range (S := Unit) (R := Int) (List.length p0 : Int) (f51_b0 p0 p1 p2) (fun p => match p with | (i1, ()) => (⟨[(1, .int .i64 p1), (2, .int .i64 p2), (6, .int .i64 0), (9, .sl Y1 p0), (10, .int .i64 (List.length p0 : Int)), (11, .int .i64 i1)], [], 0⟩ : AS)) (fun o e st => match o with | .inl () => e = .exit 0 ∧ Wk X st ⟨[(6, .int .i64 0)], [], 0⟩ | .inr s3 => e = .ret ∧ Wk X st ⟨[(6, .int .i64 s3)], [], 0⟩) (len_ok hl) e5 (wk_of hX [] 4 rfl rfl ⟨⟨_, rfl, cv0⟩, ⟨_, rfl, cv0⟩, ⟨_, rfl, cv0⟩, ⟨_, rfl, cv0⟩, ⟨_, rfl, cv0⟩, ⟨_, rfl, cv0⟩, trivial⟩ trivial) ?_ ?_
  · intro e st hx
    rcases o4 with _ | s3
    · obtain ⟨rfl, hw⟩ := hx
      refine ablock_here (athen_norm ((awc_wk hw) (awc_seq ?_)))
      refine awc_region ?_
      refine awl_v (av_assign rfl) ?_
      have hr := Option.some.inj hr
      subst hr
      exact awl_nil (athen_norm (awc_ret (ret_q (l' := [(6, .int .i64 (-1))]) (wk_of hX [] 4 rfl rfl ⟨⟨_, rfl, cv0⟩, trivial⟩ trivial) rfl ⟨rfl, trivial⟩)))
    · obtain ⟨rfl, hw⟩ := hx
      have hr := Option.some.inj hr
      subst hr
      exact ablock_ret (athen_ret (ret_q (l' := [(6, .int .i64 s3)]) (Wk.trans hw (wk_of hX [] 4 rfl rfl ⟨⟨_, rfl, cv0⟩, trivial⟩ trivial)) rfl ⟨rfl, trivial⟩))
  · rintro i1 _ o ho
    refine awc_seq ?_
    refine awc_region ?_
    refine awl_v (av_lss rfl rfl) ?_
    refine awl_nil (athen_norm (awc_seq ?_))
    refine awc_cond (b := decide (i1 < (List.length p0 : Int))) rfl (fun hc6 => ?_) (fun hc6 => ?_)
    · obtain ⟨q, hr, rfl⟩ := rb_t hc6 ho
      refine awc_skip (athen_norm (awc_seq (awc_block (awc_seq ?_))))
      refine awc_region ?_
      refine awl_v (av_move rfl) ?_
      obtain ⟨x7, e8, hr⟩ := bnd_some hr
      refine awl_v (av_ia_sl (t := Y1) (e := x7) und22 sz30 rfl rfl e8) ?_
      refine awl_v (av_load_rpN ts30 rfl rfl rfl) ?_
      refine awl_op (aop_alloc zero30 rfl ?_)
      refine awl_v (av_assign rfl) ?_
      refine awl_op (aop_store sz30 rfl rfl rfl rfl rfl rfl rfl ?_)
      refine awl_nil (athen_norm (awc_seq ?_))
      refine awc_text [1, 2, 6, 9, 10, 11, 8, 7] [(true, .ptr 0 1), (true, .int .i64 x7.2.1), (true, .int .i64 p1), (true, .bool (decide (x7.2.1 = p1))), (true, .bool (decide (x7.2.1 = p1))), (decide (x7.2.1 = p1), .ptr 0 2), (decide (x7.2.1 = p1), .int .i64 x7.2.2.1), (decide (x7.2.1 = p1), .ptr 0 3), (decide (x7.2.1 = p1), .int .i64 x7.2.2.2.1), (decide (x7.2.1 = p1), .int .i64 (w64 (x7.2.2.1 + x7.2.2.2.1))), (decide (x7.2.1 = p1), .int .i64 p2), (decide (x7.2.1 = p1), .bool (decide ((w64 (x7.2.2.1 + x7.2.2.2.1)) = p2))), (true, .bool ((decide (x7.2.1 = p1)) && (decide ((w64 (x7.2.2.1 + x7.2.2.2.1)) = p2))))] [[], [0], [], [1, 2], [3], [4], [5, 4], [4], [7, 4], [6, 8, 4], [4], [9, 10, 4], [11, 4]] [12] rfl rfl rfl rfl rfl ⟨?_, ?_, ?_, ?_, ?_, ?_, ?_, ?_, ?_, ?_, ?_, ?_, ?_, trivial⟩ (allT_of ⟨rfl, trivial⟩) ?_
      · exact ob_v rfl (fun hg => allT_of trivial) (fun hg => av_fa_ptr fa30_1 rfl rfl)
      · exact ob_v rfl (fun hg => allT_of ⟨rfl, trivial⟩) (fun hg => av_load_ptr ts3 rfl rfl rfl)
      · exact ob_v rfl (fun hg => allT_of trivial) (fun hg => av_move rfl)
      · exact ob_v rfl (fun hg => allT_of ⟨rfl, rfl, trivial⟩) (fun hg => av_eql rfl rfl)
      · exact ob_v rfl (fun hg => allT_of ⟨rfl, trivial⟩) (fun hg => av_move rfl)
      · exact ob_v ⟨rfl, rfl, rfl, _, rfl, rfl⟩ (fun hg => allT_of ⟨rfl, trivial⟩) (fun hg => av_fa_ptr fa30_2 rfl rfl)
      · exact ob_v ⟨rfl, rfl, rfl, _, rfl, rfl⟩ (fun hg => allT_of ⟨hg, rfl, trivial⟩) (fun hg => av_load_ptr ts3 rfl rfl rfl)
      · exact ob_v ⟨rfl, rfl, rfl, _, rfl, rfl⟩ (fun hg => allT_of ⟨rfl, trivial⟩) (fun hg => av_fa_ptr fa30_3 rfl rfl)
      · exact ob_v ⟨rfl, rfl, rfl, _, rfl, rfl⟩ (fun hg => allT_of ⟨hg, rfl, trivial⟩) (fun hg => av_load_ptr ts3 rfl rfl rfl)
      · exact ob_v ⟨rfl, rfl, rfl, _, rfl, rfl⟩ (fun hg => allT_of ⟨hg, hg, rfl, trivial⟩) (fun hg => av_add rfl rfl)
      · exact ob_v ⟨rfl, rfl, rfl, _, rfl, rfl⟩ (fun hg => allT_of ⟨rfl, trivial⟩) (fun hg => av_move rfl)
      · exact ob_v ⟨rfl, rfl, rfl, _, rfl, rfl⟩ (fun hg => allT_of ⟨hg, hg, rfl, trivial⟩) (fun hg => av_eql rfl rfl)
      · exact ob_pick (b := true) (p := decide (x7.2.1 = p1)) (q := decide ((w64 (x7.2.2.1 + x7.2.2.2.1)) = p2)) rfl rfl rfl (fun hg => allT_of ⟨rfl, trivial⟩) rfl rfl rfl rfl rfl
      refine athen_norm ?_
      refine awc_cond (b := (decide (x7.2.1 = p1)) && (decide ((w64 (x7.2.2.1 + x7.2.2.2.1)) = p2))) rfl (fun hc9 => ?_) (fun hc9 => ?_)
      · have hr := if_t hc9 hr
        refine awc_seq ?_
        refine awc_region ?_
        refine awl_v (av_move rfl) ?_
        refine awl_v (av_assign rfl) ?_
        have hr := Option.some.inj hr
        subst hr
        exact awl_nil (athen_norm (awc_ret (ablock_ret (athen_ret (⟨rfl, (wk_of hX [] 4 rfl rfl ⟨⟨_, rfl, cv0⟩, trivial⟩ trivial)⟩)))))
      · have hr := if_f hc9 hr
        refine awc_skip (ablock_norm (athen_norm ?_))
        refine awc_region ?_
        refine awl_v (av_add rfl rfl) ?_
        refine awl_v (av_move rfl) ?_
        have hr := Option.some.inj hr
        subst hr
        exact awl_nil ((wk_of hX [] 4 rfl rfl ⟨⟨_, rfl, cv0⟩, ⟨_, rfl, cv0⟩, ⟨_, rfl, cv0⟩, ⟨_, rfl, cv0⟩, ⟨_, rfl, cv0⟩, ⟨_, rfl, cv0⟩, trivial⟩ trivial))
    · obtain rfl := rb_f hc6 ho
      exact awc_exit (athen_exit (⟨rfl, (wk_of hX [] 4 rfl rfl ⟨⟨_, rfl, cv0⟩, trivial⟩ trivial)⟩))
theorem f16_runs {p0 : Int} {p1 : List (Int × Int × Int × Int × Str)} {r : Int × Int} (hr : f16 p0 p1 = some r) : RunsP Tryd.prog 27 [.int .i64 p0, .sl Y1 p1] [.int .i64 r.1, .int .i64 r.2] := by
  refine runs_w Tryd.func27 Tryd.ntmps27 rfl (rs := [.tmp 4, .tmp 5]) rfl rfl fun w0 X hX => ?_
  refine awc_seq ?_
  refine awc_region ?_
  refine awl_v (av_assign rfl) ?_
  refine awl_v (av_assign rfl) ?_
  refine awl_nil (athen_norm (awc_seq (awc_seq ?_)))
  refine awc_text [0, 1, 4, 5] [(true, .int .i64 p0), (true, .bool (decide (p0 < 1))), (true, .bool (decide (p0 < 1))), (!(decide (p0 < 1)), .int .i64 p0), (!(decide (p0 < 1)), .bool (decide (16 < p0))), (true, .bool ((decide (p0 < 1)) || (decide (16 < p0))))] [[], [0], [1], [2], [3, 2], [4, 2]] [5] rfl rfl rfl rfl rfl ⟨?_, ?_, ?_, ?_, ?_, ?_, trivial⟩ (allT_of ⟨rfl, trivial⟩) ?_
  · exact ob_v rfl (fun hg => allT_of trivial) (fun hg => av_move rfl)
  · exact ob_v rfl (fun hg => allT_of ⟨rfl, trivial⟩) (fun hg => av_lss rfl rfl)
  · exact ob_v rfl (fun hg => allT_of ⟨rfl, trivial⟩) (fun hg => av_move rfl)
  · exact ob_v ⟨rfl, rfl, rfl, _, rfl, rfl⟩ (fun hg => allT_of ⟨rfl, trivial⟩) (fun hg => av_move rfl)
  · exact ob_v ⟨rfl, rfl, rfl, _, rfl, rfl⟩ (fun hg => allT_of ⟨hg, rfl, trivial⟩) (fun hg => av_gtr rfl rfl)
  · exact ob_pick (b := false) (p := decide (p0 < 1)) (q := decide (16 < p0)) rfl rfl rfl (fun hg => allT_of ⟨rfl, trivial⟩) rfl rfl rfl rfl rfl
  refine athen_norm ?_
  refine awc_cond (b := (decide (p0 < 1)) || (decide (16 < p0))) rfl (fun hc1 => ?_) (fun hc1 => ?_)
  · have hr := if_t hc1 hr
    refine awc_seq ?_
    refine awc_region ?_
    refine awl_v (av_assign rfl) ?_
    refine awl_v (av_assign rfl) ?_
    have hr := Option.some.inj hr
    subst hr
    exact awl_nil (athen_norm (awc_ret (athen_ret (ret_q (l' := [(4, .int .i64 0), (5, .int .i64 7)]) (wk_of hX [] 4 rfl rfl ⟨⟨_, rfl, cv0⟩, ⟨_, rfl, cv0⟩, trivial⟩ trivial) rfl ⟨rfl, rfl, trivial⟩))))
  · have hr := if_f hc1 hr
    refine awc_skip (athen_norm (awc_seq (awc_seq ?_)))
    refine awc_region ?_
    refine awl_v (av_move rfl) ?_
    refine awl_v (av_len_sl (t := Y1) rfl rfl und22 rfl) ?_
    refine awl_v (av_move rfl) ?_
    refine awl_nil (athen_norm (awc_block ?_))
    obtain ⟨o6, e7, hr⟩ := bnd_some hr
    refine awc_len (t := 1) rfl (fun hl => ?_)
    refine awc_range (S := Unit) (R := Int × Int) (List.length p1 : Int) (f16_b0 p0 p1) (fun p => match p with | (i2, ()) => (⟨[(0, .int .i64 p0), (1, .sl Y1 p1), (4, .int .i64 0), (5, .int .i64 0), (17, .sl Y1 p1), (18, .int .i64 (List.length p1 : Int)), (19, .int .i64 i2)], [], 0⟩ : AS)) (fun o e st => match o with | .inl () => e = .exit 0 ∧ Wk X st ⟨[(4, .int .i64 0), (5, .int .i64 0)], [], 0⟩ | .inr (s4, s5) => e = .ret ∧ Wk X st ⟨[(4, .int .i64 s4), (5, .int .i64 s5)], [], 0⟩) (len_ok hl) e7 (wk_of hX [] 4 rfl rfl ⟨⟨_, rfl, cv0⟩, ⟨_, rfl, cv0⟩, ⟨_, rfl, cv0⟩, ⟨_, rfl, cv0⟩, ⟨_, rfl, cv0⟩, ⟨_, rfl, cv0⟩, ⟨_, rfl, cv0⟩, trivial⟩ trivial) ?_ ?_
    · intro e st hx
      rcases o6 with _ | ⟨s4, s5⟩
      · obtain ⟨rfl, hw⟩ := hx
        refine ablock_here (athen_norm ((awc_wk hw) (awc_seq ?_)))
        refine awc_region ?_
        refine awl_v (av_assign rfl) ?_
        refine awl_v (av_assign rfl) ?_
        have hr := Option.some.inj hr
        subst hr
        exact awl_nil (athen_norm (awc_ret (ret_q (l' := [(4, .int .i64 (-1)), (5, .int .i64 0)]) (wk_of hX [] 4 rfl rfl ⟨⟨_, rfl, cv0⟩, ⟨_, rfl, cv0⟩, trivial⟩ trivial) rfl ⟨rfl, rfl, trivial⟩)))
      · obtain ⟨rfl, hw⟩ := hx
        have hr := Option.some.inj hr
        subst hr
        exact ablock_ret (athen_ret (ret_q (l' := [(4, .int .i64 s4), (5, .int .i64 s5)]) (Wk.trans hw (wk_of hX [] 4 rfl rfl ⟨⟨_, rfl, cv0⟩, ⟨_, rfl, cv0⟩, trivial⟩ trivial)) rfl ⟨rfl, rfl, trivial⟩))
    · rintro i2 _ o ho
      refine awc_seq ?_
      refine awc_region ?_
      refine awl_v (av_lss rfl rfl) ?_
      refine awl_nil (athen_norm (awc_seq ?_))
      refine awc_cond (b := decide (i2 < (List.length p1 : Int))) rfl (fun hc8 => ?_) (fun hc8 => ?_)
      · obtain ⟨q, hr, rfl⟩ := rb_t hc8 ho
        refine awc_skip (athen_norm ?_)
        obtain ⟨o10, e11, hr⟩ := bnd_some hr
        refine awc_join (S := Unit) (R := Int) (fun s => match s with | () => (⟨[(0, .int .i64 p0), (1, .sl Y1 p1), (4, .int .i64 0), (5, .int .i64 0), (17, .sl Y1 p1), (18, .int .i64 (List.length p1 : Int)), (19, .int .i64 i2)], [], 0⟩ : AS)) (fun r e st => match r with | s9 => e = .ret ∧ Wk X st ⟨[(4, .int .i64 i2), (5, .int .i64 s9)], [], 0⟩) e11 (fun hr => ?_) ?_ ?_
        · refine awc_block (awc_seq ?_)
          refine awc_region ?_
          refine awl_v (av_move rfl) ?_
          obtain ⟨x12, e13, hr⟩ := bnd_some hr
          refine awl_v (av_ia_sl (t := Y1) (e := x12) und22 sz30 rfl rfl e13) ?_
          refine awl_v (av_load_rpN ts30 rfl rfl rfl) ?_
          refine awl_op (aop_alloc zero30 rfl ?_)
          refine awl_v (av_assign rfl) ?_
          refine awl_op (aop_store sz30 rfl rfl rfl rfl rfl rfl rfl ?_)
          refine awl_nil (athen_norm (awc_seq (awc_seq ?_)))
          refine awc_region ?_
          refine awl_v (av_move rfl) ?_
          refine awl_v (av_eql rfl rfl) ?_
          refine awl_nil (athen_norm ?_)
          refine awc_cond (b := decide (i2 = 1000)) rfl (fun hc14 => ?_) (fun hc14 => ?_)
          · have hr := if_t hc14 hr
            refine awc_seq ?_
            refine awc_region ?_
            refine awl_v (av_move rfl) ?_
            refine awl_v (av_assign rfl) ?_
            refine awl_v (av_assign rfl) ?_
            have hr := Option.some.inj hr
            subst hr
            exact awl_nil (athen_norm (awc_ret (athen_ret (ablock_ret (⟨rfl, (wk_of hX [] 4 rfl rfl ⟨⟨_, rfl, cv0⟩, ⟨_, rfl, cv0⟩, trivial⟩ trivial)⟩)))))
          · have hr := if_f hc14 hr
            refine awc_skip (athen_norm (awc_seq ?_))
            refine awc_draw mixed [0, 1, 4, 5, 17, 18, 19, 7, 6] [(true, .ptr 0 1), (true, .int .i64 x12.2.1), (true, .bool (decide (x12.2.1 = 2))), (true, .bool (decide (x12.2.1 = 2))), (!(decide (x12.2.1 = 2)), .ptr 0 1), (!(decide (x12.2.1 = 2)), .int .i64 x12.2.1), (!(decide (x12.2.1 = 2)), .bool (decide (x12.2.1 = 3))), (true, .bool ((decide (x12.2.1 = 2)) || (decide (x12.2.1 = 3)))), (true, .ptr 0 1), (true, .int .i64 x12.2.1), (true, .bool (decide (x12.2.1 = 4))), (true, .bool (decide (x12.2.1 = 4))), (!(decide (x12.2.1 = 4)), .ptr 0 1), (!(decide (x12.2.1 = 4)), .int .i64 x12.2.1), (!(decide (x12.2.1 = 4)), .bool (decide (x12.2.1 = 5))), (true, .bool ((decide (x12.2.1 = 4)) || (decide (x12.2.1 = 5)))), (true, .bool ((decide (x12.2.1 = 2)) || (decide (x12.2.1 = 3)))), (true, .bool ((decide (x12.2.1 = 4)) || (decide (x12.2.1 = 5))))] [[], [0], [1], [2], [3], [4, 3], [5, 3], [6, 3], [], [8], [9], [10], [11], [12, 11], [13, 11], [14, 11], [7], [15]] [16, 17] rfl rfl rfl rfl rfl ⟨?_, ?_, ?_, ?_, ?_, ?_, ?_, ?_, ?_, ?_, ?_, ?_, ?_, ?_, ?_, ?_, ?_, ?_, trivial⟩ (allT_of ⟨rfl, rfl, trivial⟩) ?_
            · exact ob_v rfl (fun hg => allT_of trivial) (fun hg => av_fa_ptr fa30_1 rfl rfl)
            · exact ob_v rfl (fun hg => allT_of ⟨rfl, trivial⟩) (fun hg => av_load_ptr ts3 rfl rfl rfl)
            · exact ob_v rfl (fun hg => allT_of ⟨rfl, trivial⟩) (fun hg => av_eql rfl rfl)
            · exact ob_v rfl (fun hg => allT_of ⟨rfl, trivial⟩) (fun hg => av_move rfl)
            · exact ob_v ⟨rfl, rfl, rfl, _, rfl, rfl⟩ (fun hg => allT_of ⟨rfl, trivial⟩) (fun hg => av_fa_ptr fa30_1 rfl rfl)
            · exact ob_v ⟨rfl, rfl, rfl, _, rfl, rfl⟩ (fun hg => allT_of ⟨hg, rfl, trivial⟩) (fun hg => av_load_ptr ts3 rfl rfl rfl)
            · exact ob_v ⟨rfl, rfl, rfl, _, rfl, rfl⟩ (fun hg => allT_of ⟨hg, rfl, trivial⟩) (fun hg => av_eql rfl rfl)
            · exact ob_pick (b := false) (p := decide (x12.2.1 = 2)) (q := decide (x12.2.1 = 3)) rfl rfl rfl (fun hg => allT_of ⟨rfl, trivial⟩) rfl rfl rfl rfl rfl
            · exact ob_v rfl (fun hg => allT_of trivial) (fun hg => av_fa_ptr fa30_1 rfl rfl)
            · exact ob_v rfl (fun hg => allT_of ⟨rfl, trivial⟩) (fun hg => av_load_ptr ts3 rfl rfl rfl)
            · exact ob_v rfl (fun hg => allT_of ⟨rfl, trivial⟩) (fun hg => av_eql rfl rfl)
            · exact ob_v rfl (fun hg => allT_of ⟨rfl, trivial⟩) (fun hg => av_move rfl)
            · exact ob_v ⟨rfl, rfl, rfl, _, rfl, rfl⟩ (fun hg => allT_of ⟨rfl, trivial⟩) (fun hg => av_fa_ptr fa30_1 rfl rfl)
            · exact ob_v ⟨rfl, rfl, rfl, _, rfl, rfl⟩ (fun hg => allT_of ⟨hg, rfl, trivial⟩) (fun hg => av_load_ptr ts3 rfl rfl rfl)
            · exact ob_v ⟨rfl, rfl, rfl, _, rfl, rfl⟩ (fun hg => allT_of ⟨hg, rfl, trivial⟩) (fun hg => av_eql rfl rfl)
            · exact ob_pick (b := false) (p := decide (x12.2.1 = 4)) (q := decide (x12.2.1 = 5)) rfl rfl rfl (fun hg => allT_of ⟨rfl, trivial⟩) rfl rfl rfl rfl rfl
            · exact ob_v rfl (fun hg => allT_of ⟨rfl, trivial⟩) (fun hg => av_assign rfl)
            · exact ob_v rfl (fun hg => allT_of ⟨rfl, trivial⟩) (fun hg => av_assign rfl)
            refine athen_norm (awc_seq (awc_seq ?_))
            refine awc_text [0, 1, 4, 5, 17, 18, 19, 7, 6, 8, 9] [(true, .ptr 0 0), (true, .int .i64 x12.1), (true, .bool (decide (x12.1 < 0))), (true, .bool (decide (x12.1 < 0))), (!(decide (x12.1 < 0)), .ptr 0 0), (!(decide (x12.1 < 0)), .int .i64 x12.1), (!(decide (x12.1 < 0)), .int .i64 p0), (!(decide (x12.1 < 0)), .bool (decide (p0 ≤ x12.1))), (true, .bool ((decide (x12.1 < 0)) || (decide (p0 ≤ x12.1)))), (true, .bool ((decide (x12.1 < 0)) || (decide (p0 ≤ x12.1)))), (!((decide (x12.1 < 0)) || (decide (p0 ≤ x12.1))), .bool ((decide (x12.2.1 = 2)) || (decide (x12.2.1 = 3)))), (!((decide (x12.1 < 0)) || (decide (p0 ≤ x12.1))), .bool ((decide (x12.2.1 = 2)) || (decide (x12.2.1 = 3)))), ((!((decide (x12.1 < 0)) || (decide (p0 ≤ x12.1)))) && ((decide (x12.2.1 = 2)) || (decide (x12.2.1 = 3))), .ptr 0 2), ((!((decide (x12.1 < 0)) || (decide (p0 ≤ x12.1)))) && ((decide (x12.2.1 = 2)) || (decide (x12.2.1 = 3))), .int .i64 x12.2.2.1), ((!((decide (x12.1 < 0)) || (decide (p0 ≤ x12.1)))) && ((decide (x12.2.1 = 2)) || (decide (x12.2.1 = 3))), .bool (decide (x12.2.2.1 < 1))), (!((decide (x12.1 < 0)) || (decide (p0 ≤ x12.1))), .bool (((decide (x12.2.1 = 2)) || (decide (x12.2.1 = 3))) && (decide (x12.2.2.1 < 1)))), (true, .bool (((decide (x12.1 < 0)) || (decide (p0 ≤ x12.1))) || (((decide (x12.2.1 = 2)) || (decide (x12.2.1 = 3))) && (decide (x12.2.2.1 < 1))))), (true, .bool (((decide (x12.1 < 0)) || (decide (p0 ≤ x12.1))) || (((decide (x12.2.1 = 2)) || (decide (x12.2.1 = 3))) && (decide (x12.2.2.1 < 1))))), (!(((decide (x12.1 < 0)) || (decide (p0 ≤ x12.1))) || (((decide (x12.2.1 = 2)) || (decide (x12.2.1 = 3))) && (decide (x12.2.2.1 < 1)))), .bool ((decide (x12.2.1 = 4)) || (decide (x12.2.1 = 5)))), (!(((decide (x12.1 < 0)) || (decide (p0 ≤ x12.1))) || (((decide (x12.2.1 = 2)) || (decide (x12.2.1 = 3))) && (decide (x12.2.2.1 < 1)))), .bool ((decide (x12.2.1 = 4)) || (decide (x12.2.1 = 5)))), ((!(((decide (x12.1 < 0)) || (decide (p0 ≤ x12.1))) || (((decide (x12.2.1 = 2)) || (decide (x12.2.1 = 3))) && (decide (x12.2.2.1 < 1))))) && ((decide (x12.2.1 = 4)) || (decide (x12.2.1 = 5))), .ptr 0 3), ((!(((decide (x12.1 < 0)) || (decide (p0 ≤ x12.1))) || (((decide (x12.2.1 = 2)) || (decide (x12.2.1 = 3))) && (decide (x12.2.2.1 < 1))))) && ((decide (x12.2.1 = 4)) || (decide (x12.2.1 = 5))), .int .i64 x12.2.2.2.1), ((!(((decide (x12.1 < 0)) || (decide (p0 ≤ x12.1))) || (((decide (x12.2.1 = 2)) || (decide (x12.2.1 = 3))) && (decide (x12.2.2.1 < 1))))) && ((decide (x12.2.1 = 4)) || (decide (x12.2.1 = 5))), .bool (decide (x12.2.2.2.1 < 1))), (!(((decide (x12.1 < 0)) || (decide (p0 ≤ x12.1))) || (((decide (x12.2.1 = 2)) || (decide (x12.2.1 = 3))) && (decide (x12.2.2.1 < 1)))), .bool (((decide (x12.2.1 = 4)) || (decide (x12.2.1 = 5))) && (decide (x12.2.2.2.1 < 1)))), (true, .bool ((((decide (x12.1 < 0)) || (decide (p0 ≤ x12.1))) || (((decide (x12.2.1 = 2)) || (decide (x12.2.1 = 3))) && (decide (x12.2.2.1 < 1)))) || (((decide (x12.2.1 = 4)) || (decide (x12.2.1 = 5))) && (decide (x12.2.2.2.1 < 1)))))] [[], [0], [1], [2], [3], [4, 3], [3], [5, 6, 3], [7, 3], [8], [9], [10, 9], [11], [12, 11], [13, 11], [14, 11, 9], [15, 9], [16], [17], [18, 17], [19], [20, 19], [21, 19], [22, 19, 17], [23, 17]] [24] rfl rfl rfl rfl rfl ⟨?_, ?_, ?_, ?_, ?_, ?_, ?_, ?_, ?_, ?_, ?_, ?_, ?_, ?_, ?_, ?_, ?_, ?_, ?_, ?_, ?_, ?_, ?_, ?_, ?_, trivial⟩ (allT_of ⟨rfl, trivial⟩) ?_
            · exact ob_v rfl (fun hg => allT_of trivial) (fun hg => av_fa_ptr fa30_0 rfl rfl)
            · exact ob_v rfl (fun hg => allT_of ⟨rfl, trivial⟩) (fun hg => av_load_ptr ts3 rfl rfl rfl)
            · exact ob_v rfl (fun hg => allT_of ⟨rfl, trivial⟩) (fun hg => av_lss rfl rfl)
            · exact ob_v rfl (fun hg => allT_of ⟨rfl, trivial⟩) (fun hg => av_move rfl)
            · exact ob_v ⟨rfl, rfl, rfl, _, rfl, rfl⟩ (fun hg => allT_of ⟨rfl, trivial⟩) (fun hg => av_fa_ptr fa30_0 rfl rfl)
            · exact ob_v ⟨rfl, rfl, rfl, _, rfl, rfl⟩ (fun hg => allT_of ⟨hg, rfl, trivial⟩) (fun hg => av_load_ptr ts3 rfl rfl rfl)
            · exact ob_v ⟨rfl, rfl, rfl, _, rfl, rfl⟩ (fun hg => allT_of ⟨rfl, trivial⟩) (fun hg => av_move rfl)
            · exact ob_v ⟨rfl, rfl, rfl, _, rfl, rfl⟩ (fun hg => allT_of ⟨hg, hg, rfl, trivial⟩) (fun hg => av_geq rfl rfl)
            · exact ob_pick (b := false) (p := decide (x12.1 < 0)) (q := decide (p0 ≤ x12.1)) rfl rfl rfl (fun hg => allT_of ⟨rfl, trivial⟩) rfl rfl rfl rfl rfl
            · exact ob_v rfl (fun hg => allT_of ⟨rfl, trivial⟩) (fun hg => av_move rfl)
            · exact ob_v ⟨rfl, rfl, rfl, _, rfl, rfl⟩ (fun hg => allT_of ⟨rfl, trivial⟩) (fun hg => av_move rfl)
            · exact ob_v ⟨rfl, rfl, rfl, _, rfl, rfl⟩ (fun hg => allT_of ⟨hg, rfl, trivial⟩) (fun hg => av_move rfl)
            · exact ob_v ⟨rfl, rfl, rfl, _, rfl, rfl⟩ (fun hg => allT_of ⟨(and_l hg), trivial⟩) (fun hg => av_fa_ptr fa30_2 rfl rfl)
            · exact ob_v ⟨rfl, rfl, rfl, _, rfl, rfl⟩ (fun hg => allT_of ⟨hg, (and_l hg), trivial⟩) (fun hg => av_load_ptr ts3 rfl rfl rfl)
            · exact ob_v ⟨rfl, rfl, rfl, _, rfl, rfl⟩ (fun hg => allT_of ⟨hg, (and_l hg), trivial⟩) (fun hg => av_lss rfl rfl)
            · exact ob_pick (b := true) (p := (decide (x12.2.1 = 2)) || (decide (x12.2.1 = 3))) (q := decide (x12.2.2.1 < 1)) ⟨rfl, rfl, rfl, _, rfl, rfl⟩ rfl rfl (fun hg => allT_of ⟨hg, rfl, trivial⟩) rfl rfl rfl rfl rfl
            · exact ob_pick (b := false) (p := (decide (x12.1 < 0)) || (decide (p0 ≤ x12.1))) (q := ((decide (x12.2.1 = 2)) || (decide (x12.2.1 = 3))) && (decide (x12.2.2.1 < 1))) rfl rfl rfl (fun hg => allT_of ⟨rfl, trivial⟩) rfl rfl rfl rfl rfl
            · exact ob_v rfl (fun hg => allT_of ⟨rfl, trivial⟩) (fun hg => av_move rfl)
            · exact ob_v ⟨rfl, rfl, rfl, _, rfl, rfl⟩ (fun hg => allT_of ⟨rfl, trivial⟩) (fun hg => av_move rfl)
            · exact ob_v ⟨rfl, rfl, rfl, _, rfl, rfl⟩ (fun hg => allT_of ⟨hg, rfl, trivial⟩) (fun hg => av_move rfl)
            · exact ob_v ⟨rfl, rfl, rfl, _, rfl, rfl⟩ (fun hg => allT_of ⟨(and_l hg), trivial⟩) (fun hg => av_fa_ptr fa30_3 rfl rfl)
            · exact ob_v ⟨rfl, rfl, rfl, _, rfl, rfl⟩ (fun hg => allT_of ⟨hg, (and_l hg), trivial⟩) (fun hg => av_load_ptr ts3 rfl rfl rfl)
            · exact ob_v ⟨rfl, rfl, rfl, _, rfl, rfl⟩ (fun hg => allT_of ⟨hg, (and_l hg), trivial⟩) (fun hg => av_lss rfl rfl)
            · exact ob_pick (b := true) (p := (decide (x12.2.1 = 4)) || (decide (x12.2.1 = 5))) (q := decide (x12.2.2.2.1 < 1)) ⟨rfl, rfl, rfl, _, rfl, rfl⟩ rfl rfl (fun hg => allT_of ⟨hg, rfl, trivial⟩) rfl rfl rfl rfl rfl
            · exact ob_pick (b := false) (p := ((decide (x12.1 < 0)) || (decide (p0 ≤ x12.1))) || (((decide (x12.2.1 = 2)) || (decide (x12.2.1 = 3))) && (decide (x12.2.2.1 < 1)))) (q := ((decide (x12.2.1 = 4)) || (decide (x12.2.1 = 5))) && (decide (x12.2.2.2.1 < 1))) rfl rfl rfl (fun hg => allT_of ⟨rfl, trivial⟩) rfl rfl rfl rfl rfl
            refine athen_norm ?_
            refine awc_cond (b := (((decide (x12.1 < 0)) || (decide (p0 ≤ x12.1))) || (((decide (x12.2.1 = 2)) || (decide (x12.2.1 = 3))) && (decide (x12.2.2.1 < 1)))) || (((decide (x12.2.1 = 4)) || (decide (x12.2.1 = 5))) && (decide (x12.2.2.2.1 < 1)))) rfl (fun hc15 => ?_) (fun hc15 => ?_)
            · have hr := if_t hc15 hr
              refine awc_seq ?_
              refine awc_region ?_
              refine awl_v (av_move rfl) ?_
              refine awl_v (av_assign rfl) ?_
              refine awl_v (av_assign rfl) ?_
              have hr := Option.some.inj hr
              subst hr
              exact awl_nil (athen_norm (awc_ret (athen_ret (ablock_ret (⟨rfl, (wk_of hX [] 4 rfl rfl ⟨⟨_, rfl, cv0⟩, ⟨_, rfl, cv0⟩, trivial⟩ trivial)⟩)))))
            · have hr := if_f hc15 hr
              refine awc_skip (athen_norm (awc_seq (awc_seq ?_)))
              refine awc_region ?_
              refine awl_v (av_load_ptrN ts30 rfl rfl rfl rfl) ?_
              obtain ⟨x16, e17, hr⟩ := bnd_some hr
              refine awl_v (av_call (f50_runs e17).x ent40 rfl rfl) ?_
              refine awl_v (av_not rfl) ?_
              refine awl_nil (athen_norm ?_)
              refine awc_cond (b := !x16) rfl (fun hc18 => ?_) (fun hc18 => ?_)
              · have hr := if_t hc18 hr
                refine awc_seq ?_
                refine awc_region ?_
                refine awl_v (av_move rfl) ?_
                refine awl_v (av_assign rfl) ?_
                refine awl_v (av_assign rfl) ?_
                have hr := Option.some.inj hr
                subst hr
                exact awl_nil (athen_norm (awc_ret (athen_ret (ablock_ret (⟨rfl, (wk_of hX [] 4 rfl rfl ⟨⟨_, rfl, cv0⟩, ⟨_, rfl, cv0⟩, trivial⟩ trivial)⟩)))))
              · have hr := if_f hc18 hr
                refine awc_skip (athen_norm (awc_seq (awc_seq ?_)))
                obtain ⟨h19, hr⟩ := chk_some hr
                obtain ⟨h20, hr⟩ := chk_some hr
                refine awc_draw mixed [0, 1, 4, 5, 17, 18, 19, 7, 6] [(true, .ptr 0 1), (true, .int .i64 x12.2.1), (true, .bool (!decide (x12.2.1 = 1))), (true, .bool (!decide (x12.2.1 = 1))), (!decide (x12.2.1 = 1), .ptr 0 1), (!decide (x12.2.1 = 1), .int .i64 x12.2.1), (!decide (x12.2.1 = 1), .bool (!decide (x12.2.1 = 3))), (true, .bool ((!decide (x12.2.1 = 1)) && (!decide (x12.2.1 = 3)))), (true, .bool ((!decide (x12.2.1 = 1)) && (!decide (x12.2.1 = 3)))), ((!decide (x12.2.1 = 1)) && (!decide (x12.2.1 = 3)), .sl Y1 p1), ((!decide (x12.2.1 = 1)) && (!decide (x12.2.1 = 3)), .int .i64 i2), ((!decide (x12.2.1 = 1)) && (!decide (x12.2.1 = 3)), .sl Y1 ((p1.take (Int.toNat i2)).drop (Int.toNat 0))), ((!decide (x12.2.1 = 1)) && (!decide (x12.2.1 = 3)), .ptr 0 1), ((!decide (x12.2.1 = 1)) && (!decide (x12.2.1 = 3)), .int .i64 x12.2.1), ((!decide (x12.2.1 = 1)) && (!decide (x12.2.1 = 3)), .ptr 0 2), ((!decide (x12.2.1 = 1)) && (!decide (x12.2.1 = 3)), .int .i64 x12.2.2.1), ((!decide (x12.2.1 = 1)) && (!decide (x12.2.1 = 3)), .ptr 0 3), ((!decide (x12.2.1 = 1)) && (!decide (x12.2.1 = 3)), .int .i64 x12.2.2.2.1), ((!decide (x12.2.1 = 1)) && (!decide (x12.2.1 = 3)), .int .i64 (w64 (x12.2.2.1 + x12.2.2.2.1))), ((!decide (x12.2.1 = 1)) && (!decide (x12.2.1 = 3)), .int .i64 ((f51 ((p1.take (Int.toNat i2)).drop (Int.toNat 0)) x12.2.1 (w64 (x12.2.2.1 + x12.2.2.2.1))).getD default)), ((!decide (x12.2.1 = 1)) && (!decide (x12.2.1 = 3)), .bool (decide (0 ≤ ((f51 ((p1.take (Int.toNat i2)).drop (Int.toNat 0)) x12.2.1 (w64 (x12.2.2.1 + x12.2.2.2.1))).getD default)))), (true, .bool (((!decide (x12.2.1 = 1)) && (!decide (x12.2.1 = 3))) && (decide (0 ≤ ((f51 ((p1.take (Int.toNat i2)).drop (Int.toNat 0)) x12.2.1 (w64 (x12.2.2.1 + x12.2.2.2.1))).getD default)))))] [[], [0], [1], [2], [3], [4, 3], [5, 3], [6, 3], [7], [8], [8], [9, 10, 8], [8], [12, 8], [8], [14, 8], [8], [16, 8], [15, 17, 8], [11, 13, 18, 8], [19, 8], [20, 8]] [21] rfl rfl rfl rfl rfl ⟨?_, ?_, ?_, ?_, ?_, ?_, ?_, ?_, ?_, ?_, ?_, ?_, ?_, ?_, ?_, ?_, ?_, ?_, ?_, ?_, ?_, ?_, trivial⟩ (allT_of ⟨rfl, trivial⟩) ?_
                · exact ob_v rfl (fun hg => allT_of trivial) (fun hg => av_fa_ptr fa30_1 rfl rfl)
                · exact ob_v rfl (fun hg => allT_of ⟨rfl, trivial⟩) (fun hg => av_load_ptr ts3 rfl rfl rfl)
                · exact ob_v rfl (fun hg => allT_of ⟨rfl, trivial⟩) (fun hg => av_neq rfl rfl)
                · exact ob_v rfl (fun hg => allT_of ⟨rfl, trivial⟩) (fun hg => av_move rfl)
                · exact ob_v ⟨rfl, rfl, rfl, _, rfl, rfl⟩ (fun hg => allT_of ⟨rfl, trivial⟩) (fun hg => av_fa_ptr fa30_1 rfl rfl)
                · exact ob_v ⟨rfl, rfl, rfl, _, rfl, rfl⟩ (fun hg => allT_of ⟨hg, rfl, trivial⟩) (fun hg => av_load_ptr ts3 rfl rfl rfl)
                · exact ob_v ⟨rfl, rfl, rfl, _, rfl, rfl⟩ (fun hg => allT_of ⟨hg, rfl, trivial⟩) (fun hg => av_neq rfl rfl)
                · exact ob_pick (b := true) (p := !decide (x12.2.1 = 1)) (q := !decide (x12.2.1 = 3)) rfl rfl rfl (fun hg => allT_of ⟨rfl, trivial⟩) rfl rfl rfl rfl rfl
                · exact ob_v rfl (fun hg => allT_of ⟨rfl, trivial⟩) (fun hg => av_move rfl)
                · exact ob_v ⟨rfl, rfl, rfl, _, rfl, rfl⟩ (fun hg => allT_of ⟨rfl, trivial⟩) (fun hg => av_move rfl)
                · exact ob_v ⟨rfl, rfl, rfl, _, rfl, rfl⟩ (fun hg => allT_of ⟨rfl, trivial⟩) (fun hg => av_move rfl)
                · exact ob_v ⟨rfl, rfl, rfl, _, rfl, rfl⟩ (fun hg => allT_of ⟨hg, hg, rfl, trivial⟩) (fun hg => av_slice_sl (t := Y1) (l := 0) (h := i2) und22 sz30 rfl rfl ⟨_, rfl⟩ (imp_g h19 hg))
                · exact ob_v ⟨rfl, rfl, rfl, _, rfl, rfl⟩ (fun hg => allT_of ⟨rfl, trivial⟩) (fun hg => av_fa_ptr fa30_1 rfl rfl)
                · exact ob_v ⟨rfl, rfl, rfl, _, rfl, rfl⟩ (fun hg => allT_of ⟨hg, rfl, trivial⟩) (fun hg => av_load_ptr ts3 rfl rfl rfl)
                · exact ob_v ⟨rfl, rfl, rfl, _, rfl, rfl⟩ (fun hg => allT_of ⟨rfl, trivial⟩) (fun hg => av_fa_ptr fa30_2 rfl rfl)
                · exact ob_v ⟨rfl, rfl, rfl, _, rfl, rfl⟩ (fun hg => allT_of ⟨hg, rfl, trivial⟩) (fun hg => av_load_ptr ts3 rfl rfl rfl)
                · exact ob_v ⟨rfl, rfl, rfl, _, rfl, rfl⟩ (fun hg => allT_of ⟨rfl, trivial⟩) (fun hg => av_fa_ptr fa30_3 rfl rfl)
                · exact ob_v ⟨rfl, rfl, rfl, _, rfl, rfl⟩ (fun hg => allT_of ⟨hg, rfl, trivial⟩) (fun hg => av_load_ptr ts3 rfl rfl rfl)
                · exact ob_v ⟨rfl, rfl, rfl, _, rfl, rfl⟩ (fun hg => allT_of ⟨hg, hg, rfl, trivial⟩) (fun hg => av_add rfl rfl)
                · exact ob_v ⟨rfl, rfl, rfl, _, rfl, rfl⟩ (fun hg => allT_of ⟨hg, hg, hg, rfl, trivial⟩) (fun hg => av_call (f51_runs (get_g h20 hg)).x ent41 rfl rfl)
                · exact ob_v ⟨rfl, rfl, rfl, _, rfl, rfl⟩ (fun hg => allT_of ⟨hg, rfl, trivial⟩) (fun hg => av_geq rfl rfl)
                · exact ob_pick (b := true) (p := (!decide (x12.2.1 = 1)) && (!decide (x12.2.1 = 3))) (q := decide (0 ≤ ((f51 ((p1.take (Int.toNat i2)).drop (Int.toNat 0)) x12.2.1 (w64 (x12.2.2.1 + x12.2.2.2.1))).getD default))) rfl rfl rfl (fun hg => allT_of ⟨rfl, trivial⟩) rfl rfl rfl rfl rfl
                refine athen_norm ?_
                refine awc_cond (b := ((!decide (x12.2.1 = 1)) && (!decide (x12.2.1 = 3))) && (decide (0 ≤ ((f51 ((p1.take (Int.toNat i2)).drop (Int.toNat 0)) x12.2.1 (w64 (x12.2.2.1 + x12.2.2.2.1))).getD default)))) rfl (fun hc21 => ?_) (fun hc21 => ?_)
                · have hr := if_t hc21 hr
                  refine awc_seq ?_
                  refine awc_region ?_
                  refine awl_v (av_move rfl) ?_
                  refine awl_v (av_assign rfl) ?_
                  refine awl_v (av_assign rfl) ?_
                  have hr := Option.some.inj hr
                  subst hr
                  exact awl_nil (athen_norm (awc_ret (athen_ret (ablock_ret (⟨rfl, (wk_of hX [] 4 rfl rfl ⟨⟨_, rfl, cv0⟩, ⟨_, rfl, cv0⟩, trivial⟩ trivial)⟩)))))
                · have hr := if_f hc21 hr
                  refine awc_skip (athen_norm (awc_seq (awc_seq ?_)))
                  obtain ⟨h22, hr⟩ := chk_some hr
                  obtain ⟨h23, hr⟩ := chk_some hr
                  refine awc_draw mixed [0, 1, 4, 5, 17, 18, 19, 7, 6] [(true, .ptr 0 1), (true, .int .i64 x12.2.1), (true, .bool (decide (x12.2.1 = 3))), (true, .bool (decide (x12.2.1 = 3))), (decide (x12.2.1 = 3), .sl Y1 p1), (decide (x12.2.1 = 3), .int .i64 i2), (decide (x12.2.1 = 3), .sl Y1 ((p1.take (Int.toNat i2)).drop (Int.toNat 0))), (decide (x12.2.1 = 3), .ptr 0 2), (decide (x12.2.1 = 3), .int .i64 x12.2.2.1), (decide (x12.2.1 = 3), .int .i64 ((f51 ((p1.take (Int.toNat i2)).drop (Int.toNat 0)) 2 x12.2.2.1).getD default)), (decide (x12.2.1 = 3), .bool (decide (((f51 ((p1.take (Int.toNat i2)).drop (Int.toNat 0)) 2 x12.2.2.1).getD default) < 0))), (true, .bool ((decide (x12.2.1 = 3)) && (decide (((f51 ((p1.take (Int.toNat i2)).drop (Int.toNat 0)) 2 x12.2.2.1).getD default) < 0))))] [[], [0], [1], [2], [3], [3], [4, 5, 3], [3], [7, 3], [6, 8, 3], [9, 3], [10, 3]] [11] rfl rfl rfl rfl rfl ⟨?_, ?_, ?_, ?_, ?_, ?_, ?_, ?_, ?_, ?_, ?_, ?_, trivial⟩ (allT_of ⟨rfl, trivial⟩) ?_
                  · exact ob_v rfl (fun hg => allT_of trivial) (fun hg => av_fa_ptr fa30_1 rfl rfl)
                  · exact ob_v rfl (fun hg => allT_of ⟨rfl, trivial⟩) (fun hg => av_load_ptr ts3 rfl rfl rfl)
                  · exact ob_v rfl (fun hg => allT_of ⟨rfl, trivial⟩) (fun hg => av_eql rfl rfl)
                  · exact ob_v rfl (fun hg => allT_of ⟨rfl, trivial⟩) (fun hg => av_move rfl)
                  · exact ob_v ⟨rfl, rfl, rfl, _, rfl, rfl⟩ (fun hg => allT_of ⟨rfl, trivial⟩) (fun hg => av_move rfl)
                  · exact ob_v ⟨rfl, rfl, rfl, _, rfl, rfl⟩ (fun hg => allT_of ⟨rfl, trivial⟩) (fun hg => av_move rfl)
                  · exact ob_v ⟨rfl, rfl, rfl, _, rfl, rfl⟩ (fun hg => allT_of ⟨hg, hg, rfl, trivial⟩) (fun hg => av_slice_sl (t := Y1) (l := 0) (h := i2) und22 sz30 rfl rfl ⟨_, rfl⟩ (imp_g h22 hg))
                  · exact ob_v ⟨rfl, rfl, rfl, _, rfl, rfl⟩ (fun hg => allT_of ⟨rfl, trivial⟩) (fun hg => av_fa_ptr fa30_2 rfl rfl)
                  · exact ob_v ⟨rfl, rfl, rfl, _, rfl, rfl⟩ (fun hg => allT_of ⟨hg, rfl, trivial⟩) (fun hg => av_load_ptr ts3 rfl rfl rfl)
                  · exact ob_v ⟨rfl, rfl, rfl, _, rfl, rfl⟩ (fun hg => allT_of ⟨hg, hg, rfl, trivial⟩) (fun hg => av_call (f51_runs (get_g h23 hg)).x ent41 rfl rfl)
                  · exact ob_v ⟨rfl, rfl, rfl, _, rfl, rfl⟩ (fun hg => allT_of ⟨hg, rfl, trivial⟩) (fun hg => av_lss rfl rfl)
                  · exact ob_pick (b := true) (p := decide (x12.2.1 = 3)) (q := decide (((f51 ((p1.take (Int.toNat i2)).drop (Int.toNat 0)) 2 x12.2.2.1).getD default) < 0)) rfl rfl rfl (fun hg => allT_of ⟨rfl, trivial⟩) rfl rfl rfl rfl rfl
                  refine athen_norm ?_
                  refine awc_cond (b := (decide (x12.2.1 = 3)) && (decide (((f51 ((p1.take (Int.toNat i2)).drop (Int.toNat 0)) 2 x12.2.2.1).getD default) < 0))) rfl (fun hc24 => ?_) (fun hc24 => ?_)
                  · have hr := if_t hc24 hr
                    refine awc_seq ?_
                    refine awc_region ?_
                    refine awl_v (av_move rfl) ?_
                    refine awl_v (av_assign rfl) ?_
                    refine awl_v (av_assign rfl) ?_
                    have hr := Option.some.inj hr
                    subst hr
                    exact awl_nil (athen_norm (awc_ret (athen_ret (ablock_ret (⟨rfl, (wk_of hX [] 4 rfl rfl ⟨⟨_, rfl, cv0⟩, ⟨_, rfl, cv0⟩, trivial⟩ trivial)⟩)))))
                  · have hr := if_f hc24 hr
                    refine awc_skip (athen_norm (awc_seq ?_))
                    refine awc_region ?_
                    refine awl_v (av_fa_ptr fa30_1 rfl rfl) ?_
                    refine awl_v (av_load_ptr ts3 rfl rfl rfl) ?_
                    refine awl_v (av_eql rfl rfl) ?_
                    refine awl_nil (athen_norm ?_)
                    refine awc_cond (b := decide (x12.2.1 = 5)) rfl (fun hc25 => ?_) (fun hc25 => ?_)
                    · have hr := if_t hc25 hr
                      refine awc_seq ?_
                      obtain ⟨h26, hr⟩ := chk_some hr
                      obtain ⟨x27, e28, hr⟩ := bnd_some hr
                      refine awc_draw mixed [0, 1, 4, 5, 17, 18, 19, 7, 6] [(true, .sl Y1 p1), (true, .int .i64 i2), (true, .sl Y1 ((p1.take (Int.toNat i2)).drop (Int.toNat 0))), (true, .ptr 0 3), (true, .int .i64 x12.2.2.2.1), (true, .int .i64 x27), (true, .int .i64 x27)] [[], [], [0, 1], [], [3], [2, 4], [5]] [6] rfl rfl rfl rfl rfl ⟨?_, ?_, ?_, ?_, ?_, ?_, ?_, trivial⟩ (allT_of ⟨rfl, trivial⟩) ?_
                      · exact ob_v rfl (fun hg => allT_of trivial) (fun hg => av_move rfl)
                      · exact ob_v rfl (fun hg => allT_of trivial) (fun hg => av_move rfl)
                      · exact ob_v rfl (fun hg => allT_of ⟨rfl, rfl, trivial⟩) (fun hg => av_slice_sl (t := Y1) (l := 0) (h := i2) und22 sz30 rfl rfl ⟨_, rfl⟩ h26)
                      · exact ob_v rfl (fun hg => allT_of trivial) (fun hg => av_fa_ptr fa30_3 rfl rfl)
                      · exact ob_v rfl (fun hg => allT_of ⟨rfl, trivial⟩) (fun hg => av_load_ptr ts3 rfl rfl rfl)
                      · exact ob_v rfl (fun hg => allT_of ⟨rfl, rfl, trivial⟩) (fun hg => av_call (f51_runs e28).x ent41 rfl rfl)
                      · exact ob_v rfl (fun hg => allT_of ⟨rfl, trivial⟩) (fun hg => av_assign rfl)
                      refine athen_norm (awc_seq (awc_seq ?_))
                      refine awc_region ?_
                      refine awl_v (av_move rfl) ?_
                      refine awl_v (av_lss rfl rfl) ?_
                      refine awl_nil (athen_norm ?_)
                      refine awc_cond (b := decide (x27 < 0)) rfl (fun hc29 => ?_) (fun hc29 => ?_)
                      · have hr := if_t hc29 hr
                        refine awc_seq ?_
                        refine awc_region ?_
                        refine awl_v (av_move rfl) ?_
                        refine awl_v (av_assign rfl) ?_
                        refine awl_v (av_assign rfl) ?_
                        have hr := Option.some.inj hr
                        subst hr
                        exact awl_nil (athen_norm (awc_ret (athen_ret (ablock_ret (⟨rfl, (wk_of hX [] 4 rfl rfl ⟨⟨_, rfl, cv0⟩, ⟨_, rfl, cv0⟩, trivial⟩ trivial)⟩)))))
                      · have hr := if_f hc29 hr
                        refine awc_skip (athen_norm (awc_seq ?_))
                        obtain ⟨x30, e31, hr⟩ := bnd_some hr
                        refine awc_draw mixed [0, 1, 4, 5, 17, 18, 19, 7, 6, 10] [(true, .sl Y1 p1), (true, .int .i64 x27), (true, .rp [.int .i64 x30.1, .int .i64 x30.2.1, .int .i64 x30.2.2.1, .int .i64 x30.2.2.2.1, .str x30.2.2.2.2]), (true, .rp [.int .i64 x30.1, .int .i64 x30.2.1, .int .i64 x30.2.2.1, .int .i64 x30.2.2.2.1, .str x30.2.2.2.2]), (true, .int .i64 x30.1), (true, .ptr 0 0), (true, .int .i64 x12.1), (true, .bool (!decide (x30.1 = x12.1)))] [[], [], [0, 1], [2], [3], [], [5], [4, 6]] [7] rfl rfl rfl rfl rfl ⟨?_, ?_, ?_, ?_, ?_, ?_, ?_, ?_, trivial⟩ (allT_of ⟨rfl, trivial⟩) ?_
                        · exact ob_v rfl (fun hg => allT_of trivial) (fun hg => av_move rfl)
                        · exact ob_v rfl (fun hg => allT_of trivial) (fun hg => av_move rfl)
                        · exact ob_v rfl (fun hg => allT_of ⟨rfl, rfl, trivial⟩) (fun hg => av_ia_sl (t := Y1) (e := x30) und22 sz30 rfl rfl e31)
                        · exact ob_v rfl (fun hg => allT_of ⟨rfl, trivial⟩) (fun hg => av_fa_rp fa30_0 rfl rfl)
                        · exact ob_v rfl (fun hg => allT_of ⟨rfl, trivial⟩) (fun hg => av_load_rp ts3 rfl)
                        · exact ob_v rfl (fun hg => allT_of trivial) (fun hg => av_fa_ptr fa30_0 rfl rfl)
                        · exact ob_v rfl (fun hg => allT_of ⟨rfl, trivial⟩) (fun hg => av_load_ptr ts3 rfl rfl rfl)
                        · exact ob_v rfl (fun hg => allT_of ⟨rfl, rfl, trivial⟩) (fun hg => av_neq rfl rfl)
                        refine athen_norm ?_
                        refine awc_cond (b := !decide (x30.1 = x12.1)) rfl (fun hc32 => ?_) (fun hc32 => ?_)
                        · have hr := if_t hc32 hr
                          refine awc_seq ?_
                          refine awc_region ?_
                          refine awl_v (av_move rfl) ?_
                          refine awl_v (av_assign rfl) ?_
                          refine awl_v (av_assign rfl) ?_
                          have hr := Option.some.inj hr
                          subst hr
                          exact awl_nil (athen_norm (awc_ret (ablock_ret (⟨rfl, (wk_of hX [] 4 rfl rfl ⟨⟨_, rfl, cv0⟩, ⟨_, rfl, cv0⟩, trivial⟩ trivial)⟩))))
                        · have hr := if_f hc32 hr
                          have hr := Option.some.inj hr
                          subst hr
                          exact awc_skip (ablock_norm ((wk_of hX [] 4 rfl rfl ⟨⟨_, rfl, cv0⟩, ⟨_, rfl, cv0⟩, ⟨_, rfl, cv0⟩, ⟨_, rfl, cv0⟩, ⟨_, rfl, cv0⟩, ⟨_, rfl, cv0⟩, ⟨_, rfl, cv0⟩, trivial⟩ trivial)))
                    · have hr := if_f hc25 hr
                      have hr := Option.some.inj hr
                      subst hr
                      exact awc_skip (ablock_norm ((wk_of hX [] 4 rfl rfl ⟨⟨_, rfl, cv0⟩, ⟨_, rfl, cv0⟩, ⟨_, rfl, cv0⟩, ⟨_, rfl, cv0⟩, ⟨_, rfl, cv0⟩, ⟨_, rfl, cv0⟩, ⟨_, rfl, cv0⟩, trivial⟩ trivial)))
        · rintro _ rfl
          refine awc_region ?_
          refine awl_v (av_add rfl rfl) ?_
          refine awl_v (av_move rfl) ?_
          have hr := Option.some.inj hr
          subst hr
          exact awl_nil ((wk_of hX [] 4 rfl rfl ⟨⟨_, rfl, cv0⟩, ⟨_, rfl, cv0⟩, ⟨_, rfl, cv0⟩, ⟨_, rfl, cv0⟩, ⟨_, rfl, cv0⟩, ⟨_, rfl, cv0⟩, ⟨_, rfl, cv0⟩, trivial⟩ trivial))
        · rintro r rfl e st hne hx
          obtain s9 := r
          obtain ⟨rfl, hw⟩ := hx
          have hr := Option.some.inj hr
          subst hr
          exact ⟨rfl, (Wk.trans hw (wk_of hX [] 4 rfl rfl ⟨⟨_, rfl, cv0⟩, ⟨_, rfl, cv0⟩, trivial⟩ trivial))⟩
      · obtain rfl := rb_f hc8 ho
        exact awc_exit (athen_exit (⟨rfl, (wk_of hX [] 4 rfl rfl ⟨⟨_, rfl, cv0⟩, ⟨_, rfl, cv0⟩, trivial⟩ trivial)⟩))
theorem f18_runs {p0 : Int} {p1 : List (Int × Int × Int × Int × Str)} {r : Bool} (hr : f18 p0 p1 = some r) : RunsP Tryd.prog 16 [.int .i64 p0, .sl Y1 p1] [.bool r] := by
  refine runs_w Tryd.func16 Tryd.ntmps16 rfl (rs := [.tmp 4]) rfl rfl fun w0 X hX => ?_
  refine awc_seq ?_
  refine awc_region ?_
  refine awl_v (av_assign rfl) ?_
  refine awl_nil (athen_norm (awc_seq ?_))
  refine awc_region ?_
  refine awl_v (av_move rfl) ?_
  refine awl_v (av_move rfl) ?_
  obtain ⟨x1, e2, hr⟩ := bnd_some hr
  refine awl_v (av_call (f16_runs e2).x ent27 rfl rfl) ?_
  refine awl_v (av_move rfl) ?_
  refine awl_v (av_extract rfl rfl) ?_
  refine awl_v (av_extract rfl rfl) ?_
  refine awl_v (av_assign rfl) ?_
  refine awl_v (av_assign rfl) ?_
  refine awl_nil (athen_norm (awc_seq ?_))
  refine awc_region ?_
  refine awl_v (av_move rfl) ?_
  refine awl_v (av_eql rfl rfl) ?_
  refine awl_v (av_assign rfl) ?_
  have hr := Option.some.inj hr
  subst hr
  exact awl_nil (athen_norm (awc_ret (ret_q (l' := [(4, .bool (decide (x1.2 = 0)))]) (wk_of hX [] 4 rfl rfl ⟨⟨_, rfl, cv0⟩, trivial⟩ trivial) rfl ⟨rfl, trivial⟩)))
theorem f67_runs {p0 : Int} {p1 : List (Int × Int × Int × Int × Str)} {r : List Int} (hr : f67 p0 p1 = some r) : RunsP Tryd.prog 17 [.int .i64 p0, .sl Y1 p1] [.sl (.int .i64) r] := by
  refine runs_w Tryd.func17 Tryd.ntmps17 rfl (rs := [.tmp 4]) rfl rfl fun w0 X hX => ?_
  refine awc_seq ?_
  refine awc_region ?_
  refine awl_v (av_assign rfl) ?_
  refine awl_nil (athen_norm (awc_seq ?_))
  refine awc_region ?_
  refine awl_v (av_move rfl) ?_
  obtain ⟨h1, hr⟩ := chk_some hr
  refine awl_op (aop_make (t := (.int .i64)) und38 zt3 rfl rfl h1 rfl ?_)
  refine awl_v (av_assign rfl) ?_
  refine awl_nil (athen_norm (awc_seq ?_))
  refine awc_region ?_
  refine awl_v (av_assign rfl) ?_
  refine awl_nil (athen_norm (awc_seq (awc_seq ?_)))
  refine awc_region ?_
  refine awl_v (av_move rfl) ?_
  refine awl_v (av_len_sl (t := Y1) rfl rfl und22 rfl) ?_
  refine awl_v (av_move rfl) ?_
  refine awl_nil (athen_norm (awc_block ?_))
  obtain ⟨o9, e10, hr⟩ := bnd_some hr
  refine awc_len (t := 1) rfl (fun hl => ?_)
  refine awc_range (S := List Int × List Int) (R := Unit) (List.length p1 : Int) (f67_b0 p1) (fun p => match p with | (i2, s4, s5) => (⟨[(4, .nils), (5, .osl 0), (6, .osl 1), (11, .sl Y1 p1), (12, .int .i64 (List.length p1 : Int)), (13, .int .i64 i2)], [(0, .sl 3 (.int .i64) s4), (1, .sl 3 (.int .i64) s5)], 2⟩ : AS)) (fun o e st => match o with | .inr _ => False | .inl (s4, s5) => e = .exit 0 ∧ Wk X st ⟨[(4, .nils), (6, .osl 0)], [(0, .sl 3 (.int .i64) s5)], 1⟩) (len_ok hl) e10 (Wk.trans (wk_own (t := 6) 3 (.int .i64) rfl) (wk_of hX [0, 1] 4 rfl rfl ⟨⟨_, rfl, cv0⟩, ⟨_, rfl, cv0⟩, ⟨_, rfl, cv0⟩, ⟨_, rfl, cv0⟩, ⟨_, rfl, cv0⟩, ⟨_, rfl, cv0⟩, trivial⟩ ⟨cvo0, cvo0, trivial⟩)) ?_ ?_
  · intro e st hx
    rcases o9 with ⟨s4, s5⟩ | _
    · obtain ⟨rfl, hw⟩ := hx
      refine ablock_here (athen_norm ((awc_wk hw) (awc_seq ?_)))
      refine awc_region ?_
      refine awl_v (av_move rfl) ?_
      refine awl_v (av_assign rfl) ?_
      have hr := Option.some.inj hr
      subst hr
      exact awl_nil (athen_norm (awc_ret (ret_q (l' := [(4, .sl (.int .i64) s5)]) (wk_of hX [] 4 rfl rfl ⟨⟨_, rfl, cv0⟩, trivial⟩ trivial) rfl ⟨rfl, trivial⟩)))
    · exact hx.elim
  · rintro i2 ⟨s4, s5⟩ o ho
    refine awc_seq ?_
    refine awc_region ?_
    refine awl_v (av_lss rfl rfl) ?_
    refine awl_nil (athen_norm (awc_seq ?_))
    refine awc_cond (b := decide (i2 < (List.length p1 : Int))) rfl (fun hc11 => ?_) (fun hc11 => ?_)
    · obtain ⟨q, hr, rfl⟩ := rb_t hc11 ho
      refine awc_skip (athen_norm (awc_seq (awc_block (awc_seq ?_))))
      refine awc_region ?_
      obtain ⟨x12, e13, hr⟩ := bnd_some hr
      refine awl_v (av_ia_sl (t := Y1) (e := x12) und22 sz30 rfl rfl e13) ?_
      refine awl_v (av_load_rpN ts30 rfl rfl rfl) ?_
      refine awl_op (aop_alloc zero30 rfl ?_)
      refine awl_op (aop_store sz30 rfl rfl rfl rfl rfl rfl rfl ?_)
      refine awl_nil (athen_norm (awc_seq ?_))
      refine awc_region ?_
      refine awl_v (av_move rfl) ?_
      refine awl_v (av_fa_ptr fa30_0 rfl rfl) ?_
      refine awl_v (av_load_ptr ts3 rfl rfl rfl) ?_
      obtain ⟨x14, e15, hr⟩ := bnd_some hr
      refine awl_v (av_ia_osl (t := (.int .i64)) und38 sz3 rfl rfl rfl e15) ?_
      refine awl_v (av_load_ep ts3 rfl rfl rfl (ix_at e15) rfl) ?_
      refine awl_v (av_add rfl rfl) ?_
      refine awl_v (av_ia_osl (t := (.int .i64)) und38 sz3 rfl rfl rfl e15) ?_
      refine awl_op (aop_store_ep (e' := (w64 (x14 + 1))) sz3 rfl rfl rfl rfl (ix_at e15) rfl rfl rfl rfl rfl ?_)
      refine awl_nil (athen_norm ?_)
      refine awc_region ?_
      refine awl_v (av_move rfl) ?_
      refine awl_v (av_move rfl) ?_
      refine awl_v (av_fa_ptr fa30_0 rfl rfl) ?_
      refine awl_v (av_load_ptr ts3 rfl rfl rfl) ?_
      obtain ⟨x16, e17, hr⟩ := bnd_some hr
      refine awl_v (av_ia_osl (t := (.int .i64)) und38 sz3 rfl rfl rfl e17) ?_
      refine awl_v (av_load_ep ts3 rfl rfl rfl (ix_at e17) rfl) ?_
      refine awl_v (av_buildSlice (t := (.int .i64)) (qs := [(0, [.int .i64 x16])]) (ys := [x16]) bs38 rfl rfl rfl rfl rfl rfl rfl rfl) ?_
      obtain ⟨h18, hr⟩ := chk_some hr
      refine awl_op (aop_append rfl rfl app38 rfl rfl rfl h18 rfl ?_)
      refine awl_v (av_assign rfl) ?_
      refine awl_nil (ablock_norm (athen_norm ?_))
      refine awc_region ?_
      refine awl_v (av_add rfl rfl) ?_
      refine awl_v (av_move rfl) ?_
      have hr := Option.some.inj hr
      subst hr
      exact awl_nil ((wk_of hX [0, 3] 4 rfl rfl ⟨⟨_, rfl, cv0⟩, ⟨_, rfl, cv0⟩, ⟨_, rfl, cv0⟩, ⟨_, rfl, cv0⟩, ⟨_, rfl, cv0⟩, ⟨_, rfl, cv0⟩, trivial⟩ ⟨cvo0, cvo0, trivial⟩))
    · obtain rfl := rb_f hc11 ho
      exact awc_exit (athen_exit (⟨rfl, (wk_of hX [1] 4 rfl rfl ⟨⟨_, rfl, cv0⟩, ⟨_, rfl, cv0⟩, trivial⟩ ⟨cvo0, trivial⟩)⟩))
theorem f56_runs {p0 : List (Int × Int × Int × Int × Str)} {p1 : Int} {p2 : Int} {r : Bool} (hr : f56 p0 p1 p2 = some r) : RunsP Tryd.prog 28 [.sl Y1 p0, .int .i64 p1, .int .i64 p2] [.bool r] := by
  refine runs_w Tryd.func28 Tryd.ntmps28 rfl (rs := [.tmp 6]) rfl rfl fun w0 X hX => ?_
  refine awc_seq ?_
  refine awc_region ?_
  refine awl_v (av_assign rfl) ?_
  refine awl_nil (athen_norm (awc_seq (awc_seq ?_)))
  obtain ⟨x1, e2, hr⟩ := bnd_some hr
  obtain ⟨h3, hr⟩ := chk_some hr
  obtain ⟨h4, hr⟩ := chk_some hr
  obtain ⟨h5, hr⟩ := chk_some hr
  refine awc_draw mixed [0, 1, 2, 6] [(true, .sl Y1 p0), (true, .int .i64 p1), (true, .rp [.int .i64 x1.1, .int .i64 x1.2.1, .int .i64 x1.2.2.1, .int .i64 x1.2.2.2.1, .str x1.2.2.2.2]), (true, .rp [.int .i64 x1.2.1, .int .i64 x1.2.2.1, .int .i64 x1.2.2.2.1, .str x1.2.2.2.2]), (true, .int .i64 x1.2.1), (true, .bool (decide (x1.2.1 = 2))), (true, .bool (decide (x1.2.1 = 2))), (decide (x1.2.1 = 2), .sl Y1 p0), (decide (x1.2.1 = 2), .int .i64 p2), (decide (x1.2.1 = 2), .rp [.int .i64 ((((ix p0 p2).getD default)).1), .int .i64 (((((ix p0 p2).getD default)).2).1), .int .i64 ((((((ix p0 p2).getD default)).2).2).1), .int .i64 (((((((ix p0 p2).getD default)).2).2).2).1), .str (((((((ix p0 p2).getD default)).2).2).2).2)]), (decide (x1.2.1 = 2), .rp [.int .i64 (((((ix p0 p2).getD default)).2).1), .int .i64 ((((((ix p0 p2).getD default)).2).2).1), .int .i64 (((((((ix p0 p2).getD default)).2).2).2).1), .str (((((((ix p0 p2).getD default)).2).2).2).2)]), (decide (x1.2.1 = 2), .int .i64 (((((ix p0 p2).getD default)).2).1)), (decide (x1.2.1 = 2), .bool (decide ((((((ix p0 p2).getD default)).2).1) = 3))), (true, .bool ((decide (x1.2.1 = 2)) && (decide ((((((ix p0 p2).getD default)).2).1) = 3)))), (true, .bool ((decide (x1.2.1 = 2)) && (decide ((((((ix p0 p2).getD default)).2).1) = 3)))), ((decide (x1.2.1 = 2)) && (decide ((((((ix p0 p2).getD default)).2).1) = 3)), .sl Y1 p0), ((decide (x1.2.1 = 2)) && (decide ((((((ix p0 p2).getD default)).2).1) = 3)), .int .i64 p1), ((decide (x1.2.1 = 2)) && (decide ((((((ix p0 p2).getD default)).2).1) = 3)), .rp [.int .i64 ((((ix p0 p1).getD default)).1), .int .i64 (((((ix p0 p1).getD default)).2).1), .int .i64 ((((((ix p0 p1).getD default)).2).2).1), .int .i64 (((((((ix p0 p1).getD default)).2).2).2).1), .str (((((((ix p0 p1).getD default)).2).2).2).2)]), ((decide (x1.2.1 = 2)) && (decide ((((((ix p0 p2).getD default)).2).1) = 3)), .rp [.int .i64 ((((((ix p0 p1).getD default)).2).2).1), .int .i64 (((((((ix p0 p1).getD default)).2).2).2).1), .str (((((((ix p0 p1).getD default)).2).2).2).2)]), ((decide (x1.2.1 = 2)) && (decide ((((((ix p0 p2).getD default)).2).1) = 3)), .int .i64 ((((((ix p0 p1).getD default)).2).2).1)), ((decide (x1.2.1 = 2)) && (decide ((((((ix p0 p2).getD default)).2).1) = 3)), .sl Y1 p0), ((decide (x1.2.1 = 2)) && (decide ((((((ix p0 p2).getD default)).2).1) = 3)), .int .i64 p2), ((decide (x1.2.1 = 2)) && (decide ((((((ix p0 p2).getD default)).2).1) = 3)), .rp [.int .i64 ((((ix p0 p2).getD default)).1), .int .i64 (((((ix p0 p2).getD default)).2).1), .int .i64 ((((((ix p0 p2).getD default)).2).2).1), .int .i64 (((((((ix p0 p2).getD default)).2).2).2).1), .str (((((((ix p0 p2).getD default)).2).2).2).2)]), ((decide (x1.2.1 = 2)) && (decide ((((((ix p0 p2).getD default)).2).1) = 3)), .rp [.int .i64 ((((((ix p0 p2).getD default)).2).2).1), .int .i64 (((((((ix p0 p2).getD default)).2).2).2).1), .str (((((((ix p0 p2).getD default)).2).2).2).2)]), ((decide (x1.2.1 = 2)) && (decide ((((((ix p0 p2).getD default)).2).1) = 3)), .int .i64 ((((((ix p0 p2).getD default)).2).2).1)), ((decide (x1.2.1 = 2)) && (decide ((((((ix p0 p2).getD default)).2).1) = 3)), .bool (decide (((((((ix p0 p1).getD default)).2).2).1) = ((((((ix p0 p2).getD default)).2).2).1)))), (true, .bool (((decide (x1.2.1 = 2)) && (decide ((((((ix p0 p2).getD default)).2).1) = 3))) && (decide (((((((ix p0 p1).getD default)).2).2).1) = ((((((ix p0 p2).getD default)).2).2).1)))))] [[], [], [0, 1], [2], [3], [4], [5], [6], [6], [7, 8, 6], [9, 6], [10, 6], [11, 6], [12, 6], [13], [14], [14], [15, 16, 14], [17, 14], [18, 14], [14], [14], [20, 21, 14], [22, 14], [23, 14], [19, 24, 14], [25, 14]] [26] rfl rfl rfl rfl rfl ⟨?_, ?_, ?_, ?_, ?_, ?_, ?_, ?_, ?_, ?_, ?_, ?_, ?_, ?_, ?_, ?_, ?_, ?_, ?_, ?_, ?_, ?_, ?_, ?_, ?_, ?_, ?_, trivial⟩ (allT_of ⟨rfl, trivial⟩) ?_
  · exact ob_v rfl (fun hg => allT_of trivial) (fun hg => av_move rfl)
  · exact ob_v rfl (fun hg => allT_of trivial) (fun hg => av_move rfl)
  · exact ob_v rfl (fun hg => allT_of ⟨rfl, rfl, trivial⟩) (fun hg => av_ia_sl (t := Y1) (e := x1) und22 sz30 rfl rfl e2)
  · exact ob_v rfl (fun hg => allT_of ⟨rfl, trivial⟩) (fun hg => av_fa_rp fa30_1 rfl rfl)
  · exact ob_v rfl (fun hg => allT_of ⟨rfl, trivial⟩) (fun hg => av_load_rp ts3 rfl)
  · exact ob_v rfl (fun hg => allT_of ⟨rfl, trivial⟩) (fun hg => av_eql rfl rfl)
  · exact ob_v rfl (fun hg => allT_of ⟨rfl, trivial⟩) (fun hg => av_move rfl)
  · exact ob_v ⟨rfl, rfl, rfl, _, rfl, rfl⟩ (fun hg => allT_of ⟨rfl, trivial⟩) (fun hg => av_move rfl)
  · exact ob_v ⟨rfl, rfl, rfl, _, rfl, rfl⟩ (fun hg => allT_of ⟨rfl, trivial⟩) (fun hg => av_move rfl)
  · exact ob_v ⟨rfl, rfl, rfl, _, rfl, rfl⟩ (fun hg => allT_of ⟨hg, hg, rfl, trivial⟩) (fun hg => av_ia_sl (t := Y1) (e := ((ix p0 p2).getD default)) und22 sz30 rfl rfl (get_g h3 hg))
  · exact ob_v ⟨rfl, rfl, rfl, _, rfl, rfl⟩ (fun hg => allT_of ⟨hg, rfl, trivial⟩) (fun hg => av_fa_rp fa30_1 rfl rfl)
  · exact ob_v ⟨rfl, rfl, rfl, _, rfl, rfl⟩ (fun hg => allT_of ⟨hg, rfl, trivial⟩) (fun hg => av_load_rp ts3 rfl)
  · exact ob_v ⟨rfl, rfl, rfl, _, rfl, rfl⟩ (fun hg => allT_of ⟨hg, rfl, trivial⟩) (fun hg => av_eql rfl rfl)
  · exact ob_pick (b := true) (p := decide (x1.2.1 = 2)) (q := decide ((((((ix p0 p2).getD default)).2).1) = 3)) rfl rfl rfl (fun hg => allT_of ⟨rfl, trivial⟩) rfl rfl rfl rfl rfl
  · exact ob_v rfl (fun hg => allT_of ⟨rfl, trivial⟩) (fun hg => av_move rfl)
  · exact ob_v ⟨rfl, rfl, rfl, _, rfl, rfl⟩ (fun hg => allT_of ⟨rfl, trivial⟩) (fun hg => av_move rfl)
  · exact ob_v ⟨rfl, rfl, rfl, _, rfl, rfl⟩ (fun hg => allT_of ⟨rfl, trivial⟩) (fun hg => av_move rfl)
  · exact ob_v ⟨rfl, rfl, rfl, _, rfl, rfl⟩ (fun hg => allT_of ⟨hg, hg, rfl, trivial⟩) (fun hg => av_ia_sl (t := Y1) (e := ((ix p0 p1).getD default)) und22 sz30 rfl rfl (get_g h4 hg))
  · exact ob_v ⟨rfl, rfl, rfl, _, rfl, rfl⟩ (fun hg => allT_of ⟨hg, rfl, trivial⟩) (fun hg => av_fa_rp fa30_2 rfl rfl)
  · exact ob_v ⟨rfl, rfl, rfl, _, rfl, rfl⟩ (fun hg => allT_of ⟨hg, rfl, trivial⟩) (fun hg => av_load_rp ts3 rfl)
  · exact ob_v ⟨rfl, rfl, rfl, _, rfl, rfl⟩ (fun hg => allT_of ⟨rfl, trivial⟩) (fun hg => av_move rfl)
  · exact ob_v ⟨rfl, rfl, rfl, _, rfl, rfl⟩ (fun hg => allT_of ⟨rfl, trivial⟩) (fun hg => av_move rfl)
  · exact ob_v ⟨rfl, rfl, rfl, _, rfl, rfl⟩ (fun hg => allT_of ⟨hg, hg, rfl, trivial⟩) (fun hg => av_ia_sl (t := Y1) (e := ((ix p0 p2).getD default)) und22 sz30 rfl rfl (get_g h5 hg))
  · exact ob_v ⟨rfl, rfl, rfl, _, rfl, rfl⟩ (fun hg => allT_of ⟨hg, rfl, trivial⟩) (fun hg => av_fa_rp fa30_2 rfl rfl)
  · exact ob_v ⟨rfl, rfl, rfl, _, rfl, rfl⟩ (fun hg => allT_of ⟨hg, rfl, trivial⟩) (fun hg => av_load_rp ts3 rfl)
  · exact ob_v ⟨rfl, rfl, rfl, _, rfl, rfl⟩ (fun hg => allT_of ⟨hg, hg, rfl, trivial⟩) (fun hg => av_eql rfl rfl)
  · exact ob_pick (b := true) (p := (decide (x1.2.1 = 2)) && (decide ((((((ix p0 p2).getD default)).2).1) = 3))) (q := decide (((((((ix p0 p1).getD default)).2).2).1) = ((((((ix p0 p2).getD default)).2).2).1))) rfl rfl rfl (fun hg => allT_of ⟨rfl, trivial⟩) rfl rfl rfl rfl rfl
  refine athen_norm ?_
  refine awc_cond (b := ((decide (x1.2.1 = 2)) && (decide ((((((ix p0 p2).getD default)).2).1) = 3))) && (decide (((((((ix p0 p1).getD default)).2).2).1) = ((((((ix p0 p2).getD default)).2).2).1)))) rfl (fun hc6 => ?_) (fun hc6 => ?_)
  · have hr := if_t hc6 hr
    refine awc_seq ?_
    refine awc_region ?_
    refine awl_v (av_assign rfl) ?_
    have hr := Option.some.inj hr
    subst hr
    exact awl_nil (athen_norm (awc_ret (athen_ret (ret_q (l' := [(6, .bool true)]) (wk_of hX [] 4 rfl rfl ⟨⟨_, rfl, cv0⟩, trivial⟩ trivial) rfl ⟨rfl, trivial⟩))))
  · have hr := if_f hc6 hr
    refine awc_skip (athen_norm (awc_seq (awc_seq ?_)))
    obtain ⟨h7, hr⟩ := chk_some hr
    obtain ⟨h8, hr⟩ := chk_some hr
    refine awc_draw mixed [0, 1, 2, 6] [(true, .int .i64 p1), (true, .int .i64 p2), (true, .bool (decide (p2 ≤ p1))), (true, .bool (decide (p2 ≤ p1))), (!(decide (p2 ≤ p1)), .sl Y1 p0), (!(decide (p2 ≤ p1)), .int .i64 p1), (!(decide (p2 ≤ p1)), .rp [.int .i64 ((((ix p0 p1).getD default)).1), .int .i64 (((((ix p0 p1).getD default)).2).1), .int .i64 ((((((ix p0 p1).getD default)).2).2).1), .int .i64 (((((((ix p0 p1).getD default)).2).2).2).1), .str (((((((ix p0 p1).getD default)).2).2).2).2)]), (!(decide (p2 ≤ p1)), .rp [.int .i64 ((((ix p0 p1).getD default)).1), .int .i64 (((((ix p0 p1).getD default)).2).1), .int .i64 ((((((ix p0 p1).getD default)).2).2).1), .int .i64 (((((((ix p0 p1).getD default)).2).2).2).1), .str (((((((ix p0 p1).getD default)).2).2).2).2)]), (!(decide (p2 ≤ p1)), .int .i64 ((((ix p0 p1).getD default)).1)), (!(decide (p2 ≤ p1)), .sl Y1 p0), (!(decide (p2 ≤ p1)), .int .i64 p2), (!(decide (p2 ≤ p1)), .rp [.int .i64 ((((ix p0 p2).getD default)).1), .int .i64 (((((ix p0 p2).getD default)).2).1), .int .i64 ((((((ix p0 p2).getD default)).2).2).1), .int .i64 (((((((ix p0 p2).getD default)).2).2).2).1), .str (((((((ix p0 p2).getD default)).2).2).2).2)]), (!(decide (p2 ≤ p1)), .rp [.int .i64 ((((ix p0 p2).getD default)).1), .int .i64 (((((ix p0 p2).getD default)).2).1), .int .i64 ((((((ix p0 p2).getD default)).2).2).1), .int .i64 (((((((ix p0 p2).getD default)).2).2).2).1), .str (((((((ix p0 p2).getD default)).2).2).2).2)]), (!(decide (p2 ≤ p1)), .int .i64 ((((ix p0 p2).getD default)).1)), (!(decide (p2 ≤ p1)), .bool (!decide (((((ix p0 p1).getD default)).1) = ((((ix p0 p2).getD default)).1)))), (true, .bool ((decide (p2 ≤ p1)) || (!decide (((((ix p0 p1).getD default)).1) = ((((ix p0 p2).getD default)).1)))))] [[], [], [0, 1], [2], [3], [3], [4, 5, 3], [6, 3], [7, 3], [3], [3], [9, 10, 3], [11, 3], [12, 3], [8, 13, 3], [14, 3]] [15] rfl rfl rfl rfl rfl ⟨?_, ?_, ?_, ?_, ?_, ?_, ?_, ?_, ?_, ?_, ?_, ?_, ?_, ?_, ?_, ?_, trivial⟩ (allT_of ⟨rfl, trivial⟩) ?_
    · exact ob_v rfl (fun hg => allT_of trivial) (fun hg => av_move rfl)
    · exact ob_v rfl (fun hg => allT_of trivial) (fun hg => av_move rfl)
    · exact ob_v rfl (fun hg => allT_of ⟨rfl, rfl, trivial⟩) (fun hg => av_geq rfl rfl)
    · exact ob_v rfl (fun hg => allT_of ⟨rfl, trivial⟩) (fun hg => av_move rfl)
    · exact ob_v ⟨rfl, rfl, rfl, _, rfl, rfl⟩ (fun hg => allT_of ⟨rfl, trivial⟩) (fun hg => av_move rfl)
    · exact ob_v ⟨rfl, rfl, rfl, _, rfl, rfl⟩ (fun hg => allT_of ⟨rfl, trivial⟩) (fun hg => av_move rfl)
    · exact ob_v ⟨rfl, rfl, rfl, _, rfl, rfl⟩ (fun hg => allT_of ⟨hg, hg, rfl, trivial⟩) (fun hg => av_ia_sl (t := Y1) (e := ((ix p0 p1).getD default)) und22 sz30 rfl rfl (get_g h7 hg))
    · exact ob_v ⟨rfl, rfl, rfl, _, rfl, rfl⟩ (fun hg => allT_of ⟨hg, rfl, trivial⟩) (fun hg => av_fa_rp fa30_0 rfl rfl)
    · exact ob_v ⟨rfl, rfl, rfl, _, rfl, rfl⟩ (fun hg => allT_of ⟨hg, rfl, trivial⟩) (fun hg => av_load_rp ts3 rfl)
    · exact ob_v ⟨rfl, rfl, rfl, _, rfl, rfl⟩ (fun hg => allT_of ⟨rfl, trivial⟩) (fun hg => av_move rfl)
    · exact ob_v ⟨rfl, rfl, rfl, _, rfl, rfl⟩ (fun hg => allT_of ⟨rfl, trivial⟩) (fun hg => av_move rfl)
    · exact ob_v ⟨rfl, rfl, rfl, _, rfl, rfl⟩ (fun hg => allT_of ⟨hg, hg, rfl, trivial⟩) (fun hg => av_ia_sl (t := Y1) (e := ((ix p0 p2).getD default)) und22 sz30 rfl rfl (get_g h8 hg))
    · exact ob_v ⟨rfl, rfl, rfl, _, rfl, rfl⟩ (fun hg => allT_of ⟨hg, rfl, trivial⟩) (fun hg => av_fa_rp fa30_0 rfl rfl)
    · exact ob_v ⟨rfl, rfl, rfl, _, rfl, rfl⟩ (fun hg => allT_of ⟨hg, rfl, trivial⟩) (fun hg => av_load_rp ts3 rfl)
    · exact ob_v ⟨rfl, rfl, rfl, _, rfl, rfl⟩ (fun hg => allT_of ⟨hg, hg, rfl, trivial⟩) (fun hg => av_neq rfl rfl)
    · exact ob_pick (b := false) (p := decide (p2 ≤ p1)) (q := !decide (((((ix p0 p1).getD default)).1) = ((((ix p0 p2).getD default)).1))) rfl rfl rfl (fun hg => allT_of ⟨rfl, trivial⟩) rfl rfl rfl rfl rfl
    refine athen_norm ?_
    refine awc_cond (b := (decide (p2 ≤ p1)) || (!decide (((((ix p0 p1).getD default)).1) = ((((ix p0 p2).getD default)).1)))) rfl (fun hc9 => ?_) (fun hc9 => ?_)
    · have hr := if_t hc9 hr
      refine awc_seq ?_
      refine awc_region ?_
      refine awl_v (av_assign rfl) ?_
      have hr := Option.some.inj hr
      subst hr
      exact awl_nil (athen_norm (awc_ret (athen_ret (ret_q (l' := [(6, .bool false)]) (wk_of hX [] 4 rfl rfl ⟨⟨_, rfl, cv0⟩, trivial⟩ trivial) rfl ⟨rfl, trivial⟩))))
    · have hr := if_f hc9 hr
      refine awc_skip (athen_norm (awc_seq (awc_seq ?_)))
      refine awc_region ?_
      refine awl_v (av_move rfl) ?_
      refine awl_v (av_move rfl) ?_
      refine awl_v (av_add rfl rfl) ?_
      refine awl_v (av_move rfl) ?_
      obtain ⟨h10, hr⟩ := chk_some hr
      refine awl_v (av_slice_sl (t := Y1) (l := (w64 (p1 + 1))) (h := p2) und22 sz30 rfl ⟨_, rfl⟩ ⟨_, rfl⟩ h10) ?_
      refine awl_v (av_len_sl (t := Y1) rfl rfl und22 rfl) ?_
      refine awl_v (av_move rfl) ?_
      refine awl_nil (athen_norm (awc_block ?_))
      obtain ⟨o13, e14, hr⟩ := bnd_some hr
      refine awc_len (t := 56) rfl (fun hl => ?_)
      refine awc_range (S := Unit) (R := Unit) (List.length ((p0.take (Int.toNat p2)).drop (Int.toNat (w64 (p1 + 1)))) : Int) (f56_b0 p0 p1 p2) (fun p => match p with | (i11, ()) => (⟨[(0, .sl Y1 p0), (1, .int .i64 p1), (6, .bool false), (56, .sl Y1 ((p0.take (Int.toNat p2)).drop (Int.toNat (w64 (p1 + 1))))), (57, .int .i64 (List.length ((p0.take (Int.toNat p2)).drop (Int.toNat (w64 (p1 + 1)))) : Int)), (58, .int .i64 i11)], [], 0⟩ : AS)) (fun o e st => match o with | .inl () => e = .exit 0 ∧ Wk X st ⟨[(6, .bool false)], [], 0⟩ | .inr () => e = .ret ∧ Wk X st ⟨[(6, .bool false)], [], 0⟩) (len_ok hl) e14 (wk_of hX [] 4 rfl rfl ⟨⟨_, rfl, cv0⟩, ⟨_, rfl, cv0⟩, ⟨_, rfl, cv0⟩, ⟨_, rfl, cv0⟩, ⟨_, rfl, cv0⟩, ⟨_, rfl, cv0⟩, trivial⟩ trivial) ?_ ?_
      · intro e st hx
        rcases o13 with _ | _
        · obtain ⟨rfl, hw⟩ := hx
          refine ablock_here (athen_norm ((awc_wk hw) (awc_seq ?_)))
          refine awc_region ?_
          refine awl_v (av_assign rfl) ?_
          have hr := Option.some.inj hr
          subst hr
          exact awl_nil (athen_norm (awc_ret (ret_q (l' := [(6, .bool true)]) (wk_of hX [] 4 rfl rfl ⟨⟨_, rfl, cv0⟩, trivial⟩ trivial) rfl ⟨rfl, trivial⟩)))
        · obtain ⟨rfl, hw⟩ := hx
          have hr := Option.some.inj hr
          subst hr
          exact ablock_ret (athen_ret (ret_q (l' := [(6, .bool false)]) (Wk.trans hw (wk_of hX [] 4 rfl rfl ⟨⟨_, rfl, cv0⟩, trivial⟩ trivial)) rfl ⟨rfl, trivial⟩))
      · rintro i11 _ o ho
        refine awc_seq ?_
        refine awc_region ?_
        refine awl_v (av_lss rfl rfl) ?_
        refine awl_nil (athen_norm (awc_seq ?_))
        refine awc_cond (b := decide (i11 < (List.length ((p0.take (Int.toNat p2)).drop (Int.toNat (w64 (p1 + 1)))) : Int))) rfl (fun hc15 => ?_) (fun hc15 => ?_)
        · obtain ⟨q, hr, rfl⟩ := rb_t hc15 ho
          refine awc_skip (athen_norm (awc_seq (awc_block (awc_seq ?_))))
          refine awc_region ?_
          obtain ⟨x16, e17, hr⟩ := bnd_some hr
          refine awl_v (av_ia_sl (t := Y1) (e := x16) und22 sz30 rfl rfl e17) ?_
          refine awl_v (av_load_rpN ts30 rfl rfl rfl) ?_
          refine awl_op (aop_alloc zero30 rfl ?_)
          refine awl_op (aop_store sz30 rfl rfl rfl rfl rfl rfl rfl ?_)
          refine awl_nil (athen_norm (awc_seq ?_))
          obtain ⟨x18, e19, hr⟩ := bnd_some hr
          refine awc_draw mixed [0, 1, 6, 56, 57, 58, 8] [(true, .ptr 0 0), (true, .int .i64 x16.1), (true, .sl Y1 p0), (true, .int .i64 p1), (true, .rp [.int .i64 x18.1, .int .i64 x18.2.1, .int .i64 x18.2.2.1, .int .i64 x18.2.2.2.1, .str x18.2.2.2.2]), (true, .rp [.int .i64 x18.1, .int .i64 x18.2.1, .int .i64 x18.2.2.1, .int .i64 x18.2.2.2.1, .str x18.2.2.2.2]), (true, .int .i64 x18.1), (true, .bool (decide (x16.1 = x18.1)))] [[], [0], [], [], [2, 3], [4], [5], [1, 6]] [7] rfl rfl rfl rfl rfl ⟨?_, ?_, ?_, ?_, ?_, ?_, ?_, ?_, trivial⟩ (allT_of ⟨rfl, trivial⟩) ?_
          · exact ob_v rfl (fun hg => allT_of trivial) (fun hg => av_fa_ptr fa30_0 rfl rfl)
          · exact ob_v rfl (fun hg => allT_of ⟨rfl, trivial⟩) (fun hg => av_load_ptr ts3 rfl rfl rfl)
          · exact ob_v rfl (fun hg => allT_of trivial) (fun hg => av_move rfl)
          · exact ob_v rfl (fun hg => allT_of trivial) (fun hg => av_move rfl)
          · exact ob_v rfl (fun hg => allT_of ⟨rfl, rfl, trivial⟩) (fun hg => av_ia_sl (t := Y1) (e := x18) und22 sz30 rfl rfl e19)
          · exact ob_v rfl (fun hg => allT_of ⟨rfl, trivial⟩) (fun hg => av_fa_rp fa30_0 rfl rfl)
          · exact ob_v rfl (fun hg => allT_of ⟨rfl, trivial⟩) (fun hg => av_load_rp ts3 rfl)
          · exact ob_v rfl (fun hg => allT_of ⟨rfl, rfl, trivial⟩) (fun hg => av_eql rfl rfl)
          refine athen_norm ?_
          refine awc_cond (b := decide (x16.1 = x18.1)) rfl (fun hc20 => ?_) (fun hc20 => ?_)
          · have hr := if_t hc20 hr
            refine awc_seq ?_
            refine awc_region ?_
            refine awl_v (av_assign rfl) ?_
            have hr := Option.some.inj hr
            subst hr
            exact awl_nil (athen_norm (awc_ret (ablock_ret (athen_ret (⟨rfl, (wk_of hX [] 4 rfl rfl ⟨⟨_, rfl, cv0⟩, trivial⟩ trivial)⟩)))))
          · have hr := if_f hc20 hr
            refine awc_skip (ablock_norm (athen_norm ?_))
            refine awc_region ?_
            refine awl_v (av_add rfl rfl) ?_
            refine awl_v (av_move rfl) ?_
            have hr := Option.some.inj hr
            subst hr
            exact awl_nil ((wk_of hX [] 4 rfl rfl ⟨⟨_, rfl, cv0⟩, ⟨_, rfl, cv0⟩, ⟨_, rfl, cv0⟩, ⟨_, rfl, cv0⟩, ⟨_, rfl, cv0⟩, ⟨_, rfl, cv0⟩, trivial⟩ trivial))
        · obtain rfl := rb_f hc15 ho
          exact awc_exit (athen_exit (⟨rfl, (wk_of hX [] 4 rfl rfl ⟨⟨_, rfl, cv0⟩, trivial⟩ trivial)⟩))
theorem f23_runs {p0 : List (Int × Int × Int × Int × Str)} {r : List (List Bool)} (hr : f23 p0 = some r) : RunsP Tryd.prog 18 [.sl Y1 p0] [.sl (.slice .bool) r] := by
  refine runs_w Tryd.func18 Tryd.ntmps18 rfl (rs := [.tmp 2]) rfl rfl fun w0 X hX => ?_
  refine awc_seq ?_
  refine awc_region ?_
  refine awl_v (av_assign rfl) ?_
  refine awl_nil (athen_norm (awc_seq ?_))
  refine awc_region ?_
  refine awl_v (av_move rfl) ?_
  refine awl_v (av_len_sl (t := Y1) rfl rfl und22 rfl) ?_
  obtain ⟨h1, hr⟩ := chk_some hr
  refine awl_op (aop_makeO (t := .bool) 4 und45 zt48 rfl rfl h1 rfl ?_)
  refine awl_v (av_assign rfl) ?_
  refine awl_nil (athen_norm (awc_seq (awc_seq ?_)))
  refine awc_region ?_
  refine awl_v (av_move rfl) ?_
  refine awl_v (av_len_sl (t := Y1) rfl rfl und22 rfl) ?_
  refine awl_v (av_move rfl) ?_
  refine awl_nil (athen_norm (awc_block ?_))
  obtain ⟨o7, e8, hr⟩ := bnd_some hr
  refine awc_len (t := 0) rfl (fun hl => ?_)
  refine awc_range (S := List (List Bool)) (R := Unit) (List.length p0 : Int) (f23_b0 p0) (fun p => match p with | (i2, s4) => (⟨[(0, .sl Y1 p0), (2, .nils), (3, .sog 0), (11, .int .i64 (List.length p0 : Int)), (12, .int .i64 i2)], [(0, .slo 48 4 .bool s4)], 1⟩ : AS)) (fun o e st => match o with | .inr _ => False | .inl s4 => e = .exit 0 ∧ Wk X st ⟨[(2, .nils), (3, .sog 0)], [(0, .slo 48 4 .bool s4)], 1⟩) (len_ok hl) e8 (wk_of hX [0] 4 rfl rfl ⟨⟨_, rfl, cv0⟩, ⟨_, rfl, cv0⟩, ⟨_, rfl, cv0⟩, ⟨_, rfl, cv0⟩, ⟨_, rfl, cv0⟩, trivial⟩ ⟨cvo0, trivial⟩) ?_ ?_
  · intro e st hx
    rcases o7 with s4 | _
    · obtain ⟨rfl, hw⟩ := hx
      refine ablock_here (athen_norm ((awc_wk hw) (awc_seq ?_)))
      refine awc_region ?_
      refine awl_v (av_move rfl) ?_
      refine awl_v (av_assign rfl) ?_
      have hr := Option.some.inj hr
      subst hr
      exact awl_nil (athen_norm (awc_ret (ret_q (l' := [(2, .sl (.slice .bool) s4)]) (wk_of hX [] 4 rfl rfl ⟨⟨_, rfl, cv0⟩, trivial⟩ trivial) rfl ⟨rfl, trivial⟩)))
    · exact hx.elim
  · rintro i2 s4 o ho
    refine awc_seq ?_
    refine awc_region ?_
    refine awl_v (av_lss rfl rfl) ?_
    refine awl_nil (athen_norm (awc_seq ?_))
    refine awc_cond (b := decide (i2 < (List.length p0 : Int))) rfl (fun hc9 => ?_) (fun hc9 => ?_)
    · obtain ⟨q, hr, rfl⟩ := rb_t hc9 ho
      refine awc_skip (athen_norm (awc_seq (awc_block (awc_seq ?_))))
      refine awc_region ?_
      refine awl_v (av_move rfl) ?_
      refine awl_v (av_assign rfl) ?_
      refine awl_nil (athen_norm (awc_seq ?_))
      refine awc_region ?_
      refine awl_v (av_move rfl) ?_
      refine awl_v (av_move rfl) ?_
      refine awl_v (av_move rfl) ?_
      refine awl_v (av_len_sl (t := Y1) rfl rfl und22 rfl) ?_
      obtain ⟨h10, hr⟩ := chk_some hr
      refine awl_op (aop_make (t := .bool) und48 zt4 rfl rfl h10 rfl ?_)
      obtain ⟨x11, e12, hr⟩ := bnd_some hr
      refine awl_v (av_ia_sog (t := .bool) und45 sz48 rfl rfl rfl e12) ?_
      refine awl_op (aop_store_epg (l' := [(0, .sl Y1 p0), (2, .nils), (3, .sog 0), (11, .int .i64 (List.length p0 : Int)), (12, .int .i64 i2), (13, .bool (decide (i2 < (List.length p0 : Int)))), (14, .int .i64 i2), (4, .int .i64 i2), (15, .sog 0), (16, .int .i64 i2), (17, .sl Y1 p0), (18, .int .i64 (List.length p0 : Int)), (19, .osl 1), (20, .epg 0 (Int.toNat i2))]) sz48 rfl rfl rfl rfl (ix_at e12) (by rw [hX]; rfl) rfl ⟨⟨rfl, rfl⟩, ⟨rfl, rfl⟩, ⟨rfl, rfl⟩, ⟨rfl, rfl⟩, ⟨rfl, rfl⟩, ⟨rfl, rfl⟩, ⟨rfl, rfl⟩, ⟨rfl, rfl⟩, ⟨rfl, rfl⟩, ⟨rfl, rfl⟩, ⟨rfl, rfl⟩, ⟨rfl, rfl⟩, ⟨rfl, rfl⟩, ⟨rfl, rfl⟩, trivial⟩ rfl ?_)
      refine awl_nil (athen_norm (awc_seq ?_))
      refine awc_region ?_
      refine awl_v (av_move rfl) ?_
      refine awl_v (av_move rfl) ?_
      refine awl_nil (athen_norm (awc_block ?_))
      obtain ⟨h18, hr⟩ := chk_some hr
      obtain ⟨o19, e20, hr⟩ := bnd_some hr
      refine awc_range (S := List (List Bool)) (R := Unit) i2 (f23_b1 p0 i2) (fun p => match p with | (i13, s15) => (⟨[(0, .sl Y1 p0), (2, .nils), (3, .sog 0), (4, .int .i64 i2), (11, .int .i64 (List.length p0 : Int)), (12, .int .i64 i2), (21, .int .i64 i2), (22, .int .i64 i13)], [(0, .slo 48 4 .bool s15)], 1⟩ : AS)) (fun o e st => match o with | .inr _ => False | .inl s15 => e = .exit 2 ∧ Wk X st ⟨[(0, .sl Y1 p0), (2, .nils), (3, .sog 0), (11, .int .i64 (List.length p0 : Int)), (12, .int .i64 i2)], [(0, .slo 48 4 .bool s15)], 1⟩) (of_decide_eq_true h18) e20 (wk_of hX [0] 4 rfl rfl ⟨⟨_, rfl, cv0⟩, ⟨_, rfl, cv0⟩, ⟨_, rfl, cv0⟩, ⟨_, rfl, cv0⟩, ⟨_, rfl, cv0⟩, ⟨_, rfl, cv0⟩, ⟨_, rfl, cv0⟩, ⟨_, rfl, cv0⟩, trivial⟩ ⟨cvo0, trivial⟩) ?_ ?_
      · intro e st hx
        rcases o19 with s15 | _
        · obtain ⟨rfl, hw⟩ := hx
          refine ablock_here (ablock_norm (athen_norm ((awc_wk hw) ?_)))
          refine awc_region ?_
          refine awl_v (av_add rfl rfl) ?_
          refine awl_v (av_move rfl) ?_
          have hr := Option.some.inj hr
          subst hr
          exact awl_nil ((wk_of hX [0] 4 rfl rfl ⟨⟨_, rfl, cv0⟩, ⟨_, rfl, cv0⟩, ⟨_, rfl, cv0⟩, ⟨_, rfl, cv0⟩, ⟨_, rfl, cv0⟩, trivial⟩ ⟨cvo0, trivial⟩))
        · exact hx.elim
      · rintro i13 s15 o ho
        refine awc_seq ?_
        refine awc_region ?_
        refine awl_v (av_lss rfl rfl) ?_
        refine awl_nil (athen_norm (awc_seq ?_))
        refine awc_cond (b := decide (i13 < i2)) rfl (fun hc21 => ?_) (fun hc21 => ?_)
        · obtain ⟨q, hr, rfl⟩ := rb_t hc21 ho
          refine awc_skip (athen_norm ?_)
          obtain ⟨o23, e24, hr⟩ := bnd_some hr
          refine awc_join (S := List (List Bool)) (R := Unit) (fun s => match s with | s22 => (⟨[(0, .sl Y1 p0), (2, .nils), (3, .sog 0), (4, .int .i64 i2), (11, .int .i64 (List.length p0 : Int)), (12, .int .i64 i2), (21, .int .i64 i2), (22, .int .i64 i13)], [(0, .slo 48 4 .bool s22)], 1⟩ : AS)) (fun _ _ _ => False) e24 (fun hr => ?_) ?_ ?_
          · refine awc_block (awc_seq ?_)
            refine awc_region ?_
            refine awl_v (av_move rfl) ?_
            refine awl_v (av_assign rfl) ?_
            refine awl_nil (athen_norm (awc_seq (awc_seq ?_)))
            refine awc_region ?_
            refine awl_v (av_move rfl) ?_
            refine awl_v (av_move rfl) ?_
            refine awl_v (av_move rfl) ?_
            obtain ⟨x25, e26, hr⟩ := bnd_some hr
            refine awl_v (av_call (f56_runs e26).x ent28 rfl rfl) ?_
            refine awl_v (av_not rfl) ?_
            refine awl_nil (athen_norm ?_)
            refine awc_cond (b := !x25) rfl (fun hc27 => ?_) (fun hc27 => ?_)
            · have hr := if_t hc27 hr
              have hr := Option.some.inj hr
              subst hr
              exact awc_exit (athen_exit (ablock_here ((wk_of hX [0] 4 rfl rfl ⟨⟨_, rfl, cv0⟩, ⟨_, rfl, cv0⟩, ⟨_, rfl, cv0⟩, ⟨_, rfl, cv0⟩, ⟨_, rfl, cv0⟩, ⟨_, rfl, cv0⟩, ⟨_, rfl, cv0⟩, ⟨_, rfl, cv0⟩, trivial⟩ ⟨cvo0, trivial⟩))))
            · have hr := if_f hc27 hr
              refine awc_skip (athen_norm (awc_seq ?_))
              refine awc_region ?_
              refine awl_v (av_move rfl) ?_
              refine awl_v (av_move rfl) ?_
              obtain ⟨x28, e29, hr⟩ := bnd_some hr
              refine awl_v (av_ia_sog (t := .bool) und45 sz48 rfl rfl rfl e29) ?_
              refine awl_v (av_load_epg (t := .bool) ts48 rfl rfl (ix_at e29)) ?_
              refine awl_v (av_move rfl) ?_
              obtain ⟨x30, e31, hr⟩ := bnd_some hr
              refine awl_v (av_ia_row (t := .bool) und48 sz4 rfl rfl rfl (ix_at e29) e31) ?_
              refine awl_op (aop_store_epr (u' := true) sz4 rfl rfl rfl rfl (ix_at e29) (ix_at e31) rfl rfl rfl rfl rfl ?_)
              refine awl_nil (athen_norm (awc_seq ?_))
              refine awc_region ?_
              refine awl_v (av_move rfl) ?_
              refine awl_v (av_move rfl) ?_
              refine awl_nil (athen_norm (awc_block ?_))
              obtain ⟨h37, hr⟩ := chk_some hr
              obtain ⟨o38, e39, hr⟩ := bnd_some hr
              refine awc_range (S := List (List Bool)) (R := Unit) i13 (f23_b2 i2 i13) (fun p => match p with | (i32, s34) => (⟨[(0, .sl Y1 p0), (2, .nils), (3, .sog 0), (4, .int .i64 i2), (5, .int .i64 i13), (11, .int .i64 (List.length p0 : Int)), (12, .int .i64 i2), (21, .int .i64 i2), (22, .int .i64 i13), (36, .int .i64 i13), (37, .int .i64 i32)], [(0, .slo 48 4 .bool s34)], 1⟩ : AS)) (fun o e st => match o with | .inr _ => False | .inl s34 => e = .exit 4 ∧ Wk X st ⟨[(0, .sl Y1 p0), (2, .nils), (3, .sog 0), (4, .int .i64 i2), (11, .int .i64 (List.length p0 : Int)), (12, .int .i64 i2), (21, .int .i64 i2), (22, .int .i64 i13)], [(0, .slo 48 4 .bool s34)], 1⟩) (of_decide_eq_true h37) e39 (wk_of hX [0] 4 rfl rfl ⟨⟨_, rfl, cv0⟩, ⟨_, rfl, cv0⟩, ⟨_, rfl, cv0⟩, ⟨_, rfl, cv0⟩, ⟨_, rfl, cv0⟩, ⟨_, rfl, cv0⟩, ⟨_, rfl, cv0⟩, ⟨_, rfl, cv0⟩, ⟨_, rfl, cv0⟩, ⟨_, rfl, cv0⟩, ⟨_, rfl, cv0⟩, trivial⟩ ⟨cvo0, trivial⟩) ?_ ?_
              · intro e st hx
                rcases o38 with s34 | _
                · obtain ⟨rfl, hw⟩ := hx
                  have hr := Option.some.inj hr
                  subst hr
                  exact ablock_here (ablock_norm ((Wk.trans hw (wk_of hX [0] 4 rfl rfl ⟨⟨_, rfl, cv0⟩, ⟨_, rfl, cv0⟩, ⟨_, rfl, cv0⟩, ⟨_, rfl, cv0⟩, ⟨_, rfl, cv0⟩, ⟨_, rfl, cv0⟩, ⟨_, rfl, cv0⟩, ⟨_, rfl, cv0⟩, trivial⟩ ⟨cvo0, trivial⟩))))
                · exact hx.elim
              · rintro i32 s34 o ho
                refine awc_seq ?_
                refine awc_region ?_
                refine awl_v (av_lss rfl rfl) ?_
                refine awl_nil (athen_norm (awc_seq ?_))
                refine awc_cond (b := decide (i32 < i13)) rfl (fun hc40 => ?_) (fun hc40 => ?_)
                · obtain ⟨q, hr, rfl⟩ := rb_t hc40 ho
                  refine awc_skip (athen_norm (awc_seq (awc_block (awc_seq ?_))))
                  refine awc_region ?_
                  refine awl_v (av_move rfl) ?_
                  refine awl_v (av_assign rfl) ?_
                  refine awl_nil (athen_norm ?_)
                  obtain ⟨x41, e42, hr⟩ := bnd_some hr
                  obtain ⟨x43, e44, hr⟩ := bnd_some hr
                  obtain ⟨h45, hr⟩ := chk_some hr
                  obtain ⟨h46, hr⟩ := chk_some hr
                  refine awc_draw_tail2 22 [22, 22, 22, 22, 22, 22, 22, 22, 22, 22, 22, 22, 22, 22, 22, 22, 22, 22, 22, 22, 22, 22] mixed [0, 2, 3, 4, 5, 11, 12, 21, 22, 36, 37, 6] [(true, .sog 0), (true, .int .i64 i2), (true, .epg 0 (Int.toNat i2)), (true, .row 0 (Int.toNat i2)), (true, .int .i64 i32), (true, .sog 0), (true, .int .i64 i2), (true, .epg 0 (Int.toNat i2)), (true, .row 0 (Int.toNat i2)), (true, .int .i64 i32), (true, .epr 0 (Int.toNat i2) 1 (Int.toNat i32) 0), (true, .bool x43), (true, .bool x43), (!x43, .sog 0), (!x43, .int .i64 i13), (!x43, .epg 0 (Int.toNat i13)), (!x43, .row 0 (Int.toNat i13)), (!x43, .int .i64 i32), (!x43, .epr 0 (Int.toNat i13) 1 (Int.toNat i32) 0), (!x43, .bool ((ix ((ix s34 i13).getD default) i32).getD default)), (true, .bool (x43 || ((ix ((ix s34 i13).getD default) i32).getD default))), (true, .epr 0 (Int.toNat i2) 1 (Int.toNat i32) 0)] [[], [], [0, 1], [2], [], [], [], [5, 6], [7], [], [8, 9], [10], [11], [12], [12], [13, 14, 12], [15, 12], [12], [16, 17, 12], [18, 12], [19, 12], [3, 4]] [20, 21] rfl rfl rfl rfl rfl rfl rfl rfl ⟨?_, ?_, ?_, ?_, ?_, ?_, ?_, ?_, ?_, ?_, ?_, ?_, ?_, ?_, ?_, ?_, ?_, ?_, ?_, ?_, ?_, ?_, trivial⟩ (allT_of ⟨rfl, rfl, trivial⟩) ?_
                  · exact ob_v rfl (fun hg => allT_of trivial) (fun hg => av_move rfl)
                  · exact ob_v rfl (fun hg => allT_of trivial) (fun hg => av_move rfl)
                  · exact ob_v rfl (fun hg => allT_of ⟨rfl, rfl, trivial⟩) (fun hg => av_ia_sog (t := .bool) und45 sz48 rfl rfl rfl e42)
                  · exact ob_v rfl (fun hg => allT_of ⟨rfl, trivial⟩) (fun hg => av_load_epg (t := .bool) ts48 rfl rfl (ix_at e42))
                  · exact ob_v rfl (fun hg => allT_of trivial) (fun hg => av_move rfl)
                  · exact ob_v rfl (fun hg => allT_of trivial) (fun hg => av_move rfl)
                  · exact ob_v rfl (fun hg => allT_of trivial) (fun hg => av_move rfl)
                  · exact ob_v rfl (fun hg => allT_of ⟨rfl, rfl, trivial⟩) (fun hg => av_ia_sog (t := .bool) und45 sz48 rfl rfl rfl e42)
                  · exact ob_v rfl (fun hg => allT_of ⟨rfl, trivial⟩) (fun hg => av_load_epg (t := .bool) ts48 rfl rfl (ix_at e42))
                  · exact ob_v rfl (fun hg => allT_of trivial) (fun hg => av_move rfl)
                  · exact ob_v rfl (fun hg => allT_of ⟨rfl, rfl, trivial⟩) (fun hg => av_ia_row (t := .bool) und48 sz4 rfl rfl rfl (ix_at e42) e44)
                  · exact ob_v rfl (fun hg => allT_of ⟨rfl, trivial⟩) (fun hg => av_load_epr (t := .bool) ts4 rfl rfl rfl (ix_at e42) (ix_at e44) rfl)
                  · exact ob_v rfl (fun hg => allT_of ⟨rfl, trivial⟩) (fun hg => av_move rfl)
                  · exact ob_v ⟨rfl, rfl, rfl, _, rfl, rfl⟩ (fun hg => allT_of ⟨rfl, trivial⟩) (fun hg => av_move rfl)
                  · exact ob_v ⟨rfl, rfl, rfl, _, rfl, rfl⟩ (fun hg => allT_of ⟨rfl, trivial⟩) (fun hg => av_move rfl)
                  · exact ob_v ⟨rfl, rfl, rfl, _, rfl, rfl⟩ (fun hg => allT_of ⟨hg, hg, rfl, trivial⟩) (fun hg => av_ia_sog (t := .bool) und45 sz48 rfl rfl rfl (get_g h45 hg))
                  · exact ob_v ⟨rfl, rfl, rfl, _, rfl, rfl⟩ (fun hg => allT_of ⟨hg, rfl, trivial⟩) (fun hg => av_load_epg (t := .bool) ts48 rfl rfl (ix_at (get_g h45 hg)))
                  · exact ob_v ⟨rfl, rfl, rfl, _, rfl, rfl⟩ (fun hg => allT_of ⟨rfl, trivial⟩) (fun hg => av_move rfl)
                  · exact ob_v ⟨rfl, rfl, rfl, _, rfl, rfl⟩ (fun hg => allT_of ⟨hg, hg, rfl, trivial⟩) (fun hg => av_ia_row (t := .bool) und48 sz4 rfl rfl rfl (ix_at (get_g h45 hg)) (get_g h46 hg))
                  · exact ob_v ⟨rfl, rfl, rfl, _, rfl, rfl⟩ (fun hg => allT_of ⟨hg, rfl, trivial⟩) (fun hg => av_load_epr (t := .bool) ts4 rfl rfl rfl (ix_at (get_g h45 hg)) (ix_at (get_g h46 hg)) rfl)
                  · exact ob_pick (b := false) (p := x43) (q := ((ix ((ix s34 i13).getD default) i32).getD default)) rfl rfl rfl (fun hg => allT_of ⟨rfl, trivial⟩) rfl rfl rfl rfl rfl
                  · exact ob_v rfl (fun hg => allT_of ⟨rfl, rfl, trivial⟩) (fun hg => av_ia_row (t := .bool) und48 sz4 rfl rfl rfl (ix_at e42) e44)
                  refine awl_op (aop_store_epr (u' := x43 || ((ix ((ix s34 i13).getD default) i32).getD default)) sz4 rfl rfl rfl rfl (ix_at e42) (ix_at e44) rfl rfl rfl rfl rfl ?_)
                  refine awl_nil (ablock_norm (athen_norm ?_))
                  refine awc_region ?_
                  refine awl_v (av_add rfl rfl) ?_
                  refine awl_v (av_move rfl) ?_
                  have hr := Option.some.inj hr
                  subst hr
                  exact awl_nil ((wk_of hX [0] 4 rfl rfl ⟨⟨_, rfl, cv0⟩, ⟨_, rfl, cv0⟩, ⟨_, rfl, cv0⟩, ⟨_, rfl, cv0⟩, ⟨_, rfl, cv0⟩, ⟨_, rfl, cv0⟩, ⟨_, rfl, cv0⟩, ⟨_, rfl, cv0⟩, ⟨_, rfl, cv0⟩, ⟨_, rfl, cv0⟩, ⟨_, rfl, cv0⟩, trivial⟩ ⟨cvo0, trivial⟩))
                · obtain rfl := rb_f hc40 ho
                  exact awc_exit (athen_exit (⟨rfl, (wk_of hX [0] 4 rfl rfl ⟨⟨_, rfl, cv0⟩, ⟨_, rfl, cv0⟩, ⟨_, rfl, cv0⟩, ⟨_, rfl, cv0⟩, ⟨_, rfl, cv0⟩, ⟨_, rfl, cv0⟩, ⟨_, rfl, cv0⟩, ⟨_, rfl, cv0⟩, trivial⟩ ⟨cvo0, trivial⟩)⟩))
          · rintro s22 rfl
            refine awc_region ?_
            refine awl_v (av_add rfl rfl) ?_
            refine awl_v (av_move rfl) ?_
            have hr := Option.some.inj hr
            subst hr
            exact awl_nil ((wk_of hX [0] 4 rfl rfl ⟨⟨_, rfl, cv0⟩, ⟨_, rfl, cv0⟩, ⟨_, rfl, cv0⟩, ⟨_, rfl, cv0⟩, ⟨_, rfl, cv0⟩, ⟨_, rfl, cv0⟩, ⟨_, rfl, cv0⟩, ⟨_, rfl, cv0⟩, trivial⟩ ⟨cvo0, trivial⟩))
          · exact fun r h e st hne hx => hx.elim
        · obtain rfl := rb_f hc21 ho
          exact awc_exit (athen_exit (⟨rfl, (wk_of hX [0] 4 rfl rfl ⟨⟨_, rfl, cv0⟩, ⟨_, rfl, cv0⟩, ⟨_, rfl, cv0⟩, ⟨_, rfl, cv0⟩, ⟨_, rfl, cv0⟩, trivial⟩ ⟨cvo0, trivial⟩)⟩))
    · obtain rfl := rb_f hc9 ho
      exact awc_exit (athen_exit (⟨rfl, (wk_of hX [0] 4 rfl rfl ⟨⟨_, rfl, cv0⟩, ⟨_, rfl, cv0⟩, trivial⟩ ⟨cvo0, trivial⟩)⟩))
end Go.Ab

