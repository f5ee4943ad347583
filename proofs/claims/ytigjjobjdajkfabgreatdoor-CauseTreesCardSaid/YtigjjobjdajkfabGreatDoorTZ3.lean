/- Lemmas for a law of the seat: what functions of the program do, each stated as a contract of its own (TZ3). -/
import Derived.Test.YtigjjobjdajkfabGreatDoorLayZs
import Derived.Test.YtigjjobjdajkfabGreatDoorAb3
import Derived.Test.YtigjjobjdajkfabGreatDoorChecked
import Derived.Test.YtigjjobjdajkfabGreatDoorTZd
import Derived.Test.YtigjjobjdajkfabGreatDoorTZ2
set_option linter.unusedVariables false
set_option maxRecDepth 100000
namespace Go.Ab
open Go.RowKit Go.Shelf Go.Proofs Go.Eng
abbrev Y2 : Ty := .st (.pair (.int .i64) (.pair (.int .i64) (.int .i64)))
abbrev Y3 : Ty := .st (.pair (.int .i64) (.int .i64))
theorem ent44 : Enters Tryz.prog 44 := enters_of Tryz.func44 (by kernel_rfl) rfl
theorem ent45 : Enters Tryz.prog 45 := enters_of Tryz.func45 (by kernel_rfl) rfl
theorem ent17 : Enters Tryz.prog 17 := enters_of Tryz.func17 (by kernel_rfl) rfl
theorem ent16 : Enters Tryz.prog 16 := enters_of Tryz.func16 (by kernel_rfl) rfl
theorem ent18 : Enters Tryz.prog 18 := enters_of Tryz.func18 (by kernel_rfl) rfl
theorem ent19 : Enters Tryz.prog 19 := enters_of Tryz.func19 (by kernel_rfl) rfl
theorem ent20 : Enters Tryz.prog 20 := enters_of Tryz.func20 (by kernel_rfl) rfl
theorem zero47 : Eng.Zero Tryz.prog 47 (.slice none 0 0) := fun w => by kernel_rfl
theorem fa54_0 : FieldAt Tryz.prog 54 0 0 := fun b o w => by kernel_rfl
theorem und51 : Und Tryz.prog 51 (.slice 54) := by unfold Und; kernel_rfl
theorem sz54 : Sz Tryz.prog 54 3 := fun w => by kernel_rfl
theorem ts54 : TyS Tryz.prog 54 true 3 := ⟨fun w => by kernel_rfl, fun w => by kernel_rfl⟩
theorem zero54 : Eng.Zero Tryz.prog 54 (.agg #[.int .i64 0, .int .i64 0, .int .i64 0]) := fun w => by kernel_rfl
theorem bt54 : BuildT Tryz.prog 54 (.agg #[.int .i64 0, .int .i64 0, .int .i64 0]) (fun i => [(0, 1), (1, 1), (2, 1)][i]?) := buildT_struct zero54 (fs := Tryz.prog.fieldsOf 54) (by kernel_rfl) (fun w => by kernel_rfl)
theorem bs51 : BuildS Tryz.prog 51 54 Y2 := buildS_of (z := .agg #[.int .i64 0, .int .i64 0, .int .i64 0]) (by kernel_rfl) (by kernel_rfl) rfl
theorem app51 : AppT Tryz.prog 51 54 (Ty.cells Y2) 24 := appT_of (z := .agg #[.int .i64 0, .int .i64 0, .int .i64 0]) (by kernel_rfl) (by kernel_rfl) rfl rfl
theorem ent50 : Enters Tryz.prog 50 := enters_of Tryz.func50 (by kernel_rfl) rfl
theorem ent49 : Enters Tryz.prog 49 := enters_of Tryz.func49 (by kernel_rfl) rfl
theorem fa54_2 : FieldAt Tryz.prog 54 2 2 := fun b o w => by kernel_rfl
theorem ent51 : Enters Tryz.prog 51 := enters_of Tryz.func51 (by kernel_rfl) rfl
theorem ent23 : Enters Tryz.prog 23 := enters_of Tryz.func23 (by kernel_rfl) rfl
theorem ent24 : Enters Tryz.prog 24 := enters_of Tryz.func24 (by kernel_rfl) rfl
theorem fa54_1 : FieldAt Tryz.prog 54 1 1 := fun b o w => by kernel_rfl
theorem zero31 : Eng.Zero Tryz.prog 31 (.agg #[.int .i64 0, .int .i64 0]) := fun w => by kernel_rfl
theorem bt31 : BuildT Tryz.prog 31 (.agg #[.int .i64 0, .int .i64 0]) (fun i => some (i * 1, 1)) := buildT_array (n := 2) zero31 (by kernel_rfl) sz3
theorem bs25 : BuildS Tryz.prog 25 31 Y3 := buildS_of (z := .agg #[.int .i64 0, .int .i64 0]) (by kernel_rfl) (by kernel_rfl) rfl
theorem app25 : AppT Tryz.prog 25 31 (Ty.cells Y3) 16 := appT_of (z := .agg #[.int .i64 0, .int .i64 0]) (by kernel_rfl) (by kernel_rfl) rfl rfl
theorem ent61 : Enters Tryz.prog 61 := enters_of Tryz.func61 (by kernel_rfl) rfl
theorem ent55 : Enters Tryz.prog 55 := enters_of Tryz.func55 (by kernel_rfl) rfl
theorem f32_runs {p0 : Int} {p1 : List (Int × Int × Int × Int × Str)} {p2 : List Int} {r : Bool × Int} (hr : f32 p0 p1 p2 = some r) : RunsP Tryz.prog 19 [.int .i64 p0, .sl Y1 p1, .sl (.int .i64) p2] [.bool r.1, .int .i64 r.2] := by
  refine runs_w Tryz.func19 Tryz.ntmps19 rfl (rs := [.tmp 6, .tmp 7]) rfl rfl fun w0 X hX => ?_
  refine awc_seq ?_
  refine awc_region ?_
  refine awl_v (av_assign rfl) ?_
  refine awl_v (av_assign rfl) ?_
  refine awl_nil (athen_norm (awc_seq (awc_seq ?_)))
  refine awc_region ?_
  refine awl_v (av_move rfl) ?_
  refine awl_v (av_move rfl) ?_
  refine awl_v (av_move rfl) ?_
  obtain ⟨x1, e2, hr⟩ := bnd_some hr
  refine awl_v (av_call (f63_runs e2).x ent44 rfl rfl) ?_
  refine awl_v (av_assign rfl) ?_
  refine awl_nil (athen_norm (awc_seq ?_))
  refine awc_region ?_
  refine awl_v (av_move rfl) ?_
  refine awl_v (av_neq rfl rfl) ?_
  refine awl_nil (athen_norm ?_)
  refine awc_cond (b := !decide (x1 = 0)) rfl (fun hc3 => ?_) (fun hc3 => ?_)
  · have hr := if_t hc3 hr
    refine awc_seq ?_
    refine awc_region ?_
    refine awl_v (av_move rfl) ?_
    refine awl_v (av_assign rfl) ?_
    refine awl_v (av_assign rfl) ?_
    have hr := Option.some.inj hr
    subst hr
    exact awl_nil (athen_norm (awc_ret (athen_ret (ret_q (l' := [(6, .bool false), (7, .int .i64 x1)]) (wk_of hX [] 4 rfl rfl ⟨⟨_, rfl, cv0⟩, ⟨_, rfl, cv0⟩, trivial⟩ trivial) rfl ⟨rfl, rfl, trivial⟩))))
  · have hr := if_f hc3 hr
    refine awc_skip (athen_norm (awc_seq ?_))
    refine awc_region ?_
    refine awl_v (av_move rfl) ?_
    refine awl_v (av_move rfl) ?_
    refine awl_v (av_move rfl) ?_
    obtain ⟨x4, e5, hr⟩ := bnd_some hr
    refine awl_v (av_call (f52_runs e5).x ent22 rfl rfl) ?_
    refine awl_v (av_move rfl) ?_
    obtain ⟨x6, e7, hr⟩ := bnd_some hr
    refine awl_v (av_call (f64_runs e7).x ent45 rfl rfl) ?_
    refine awl_v (av_assign rfl) ?_
    refine awl_v (av_assign rfl) ?_
    have hr := Option.some.inj hr
    subst hr
    exact awl_nil (athen_norm (awc_ret (ret_q (l' := [(6, .bool x6), (7, .int .i64 0)]) (wk_of hX [] 4 rfl rfl ⟨⟨_, rfl, cv0⟩, ⟨_, rfl, cv0⟩, trivial⟩ trivial) rfl ⟨rfl, rfl, trivial⟩)))
theorem f13_runs {p0 : List Int} {p1 : List Int} {r : Bool} (hr : f13 p0 p1 = some r) : RunsP Tryz.prog 20 [.sl (.int .i64) p0, .sl (.int .i64) p1] [.bool r] := by
  refine runs_w Tryz.func20 Tryz.ntmps20 rfl (rs := [.tmp 4]) rfl rfl fun w0 X hX => ?_
  refine awc_seq ?_
  refine awc_region ?_
  refine awl_v (av_assign rfl) ?_
  refine awl_nil (athen_norm (awc_seq (awc_seq ?_)))
  refine awc_region ?_
  refine awl_v (av_move rfl) ?_
  refine awl_v (av_len_sl (t := (.int .i64)) rfl rfl und47 rfl) ?_
  refine awl_v (av_move rfl) ?_
  refine awl_v (av_len_sl (t := (.int .i64)) rfl rfl und47 rfl) ?_
  refine awl_v (av_neq rfl rfl) ?_
  refine awl_nil (athen_norm ?_)
  refine awc_cond (b := !decide ((List.length p0 : Int) = (List.length p1 : Int))) rfl (fun hc1 => ?_) (fun hc1 => ?_)
  · have hr := if_t hc1 hr
    refine awc_seq ?_
    refine awc_region ?_
    refine awl_v (av_assign rfl) ?_
    have hr := Option.some.inj hr
    subst hr
    exact awl_nil (athen_norm (awc_ret (athen_ret (ret_q (l' := [(4, .bool false)]) (wk_of hX [] 4 rfl rfl ⟨⟨_, rfl, cv0⟩, trivial⟩ trivial) rfl ⟨rfl, trivial⟩))))
  · have hr := if_f hc1 hr
    refine awc_skip (athen_norm (awc_seq (awc_seq ?_)))
    refine awc_region ?_
    refine awl_v (av_move rfl) ?_
    refine awl_v (av_len_sl (t := (.int .i64)) rfl rfl und47 rfl) ?_
    refine awl_v (av_move rfl) ?_
    refine awl_nil (athen_norm (awc_block ?_))
    obtain ⟨o4, e5, hr⟩ := bnd_some hr
    refine awc_len (t := 0) rfl (fun hl => ?_)
    refine awc_range (S := Unit) (R := Unit) (List.length p0 : Int) (f13_b0 p0 p1) (fun p => match p with | (i2, ()) => (⟨[(0, .sl (.int .i64) p0), (1, .sl (.int .i64) p1), (4, .bool false), (12, .int .i64 (List.length p0 : Int)), (13, .int .i64 i2)], [], 0⟩ : AS)) (fun o e st => match o with | .inl () => e = .exit 0 ∧ Wk X st ⟨[(4, .bool false)], [], 0⟩ | .inr () => e = .ret ∧ Wk X st ⟨[(4, .bool false)], [], 0⟩) (len_ok hl) e5 (wk_of hX [] 4 rfl rfl ⟨⟨_, rfl, cv0⟩, ⟨_, rfl, cv0⟩, ⟨_, rfl, cv0⟩, ⟨_, rfl, cv0⟩, ⟨_, rfl, cv0⟩, trivial⟩ trivial) ?_ ?_
    · intro e st hx
      rcases o4 with _ | _
      · obtain ⟨rfl, hw⟩ := hx
        refine ablock_here (athen_norm ((awc_wk hw) (awc_seq ?_)))
        refine awc_region ?_
        refine awl_v (av_assign rfl) ?_
        have hr := Option.some.inj hr
        subst hr
        exact awl_nil (athen_norm (awc_ret (ret_q (l' := [(4, .bool true)]) (wk_of hX [] 4 rfl rfl ⟨⟨_, rfl, cv0⟩, trivial⟩ trivial) rfl ⟨rfl, trivial⟩)))
      · obtain ⟨rfl, hw⟩ := hx
        have hr := Option.some.inj hr
        subst hr
        exact ablock_ret (athen_ret (ret_q (l' := [(4, .bool false)]) (Wk.trans hw (wk_of hX [] 4 rfl rfl ⟨⟨_, rfl, cv0⟩, trivial⟩ trivial)) rfl ⟨rfl, trivial⟩))
    · rintro i2 _ o ho
      refine awc_seq ?_
      refine awc_region ?_
      refine awl_v (av_lss rfl rfl) ?_
      refine awl_nil (athen_norm (awc_seq ?_))
      refine awc_cond (b := decide (i2 < (List.length p0 : Int))) rfl (fun hc6 => ?_) (fun hc6 => ?_)
      · obtain ⟨q, hr, rfl⟩ := rb_t hc6 ho
        refine awc_skip (athen_norm (awc_seq (awc_block (awc_seq ?_))))
        refine awc_region ?_
        refine awl_v (av_move rfl) ?_
        refine awl_v (av_assign rfl) ?_
        refine awl_nil (athen_norm (awc_seq ?_))
        obtain ⟨x7, e8, hr⟩ := bnd_some hr
        obtain ⟨x9, e10, hr⟩ := bnd_some hr
        refine awc_draw mixed [0, 1, 4, 12, 13, 5] [(true, .sl (.int .i64) p0), (true, .int .i64 i2), (true, .rp [.int .i64 x7]), (true, .int .i64 x7), (true, .sl (.int .i64) p1), (true, .int .i64 i2), (true, .rp [.int .i64 x9]), (true, .int .i64 x9), (true, .bool (!decide (x7 = x9)))] [[], [], [0, 1], [2], [], [], [4, 5], [6], [3, 7]] [8] rfl rfl rfl rfl rfl ⟨?_, ?_, ?_, ?_, ?_, ?_, ?_, ?_, ?_, trivial⟩ (allT_of ⟨rfl, trivial⟩) ?_
        · exact ob_v rfl (fun hg => allT_of trivial) (fun hg => av_move rfl)
        · exact ob_v rfl (fun hg => allT_of trivial) (fun hg => av_move rfl)
        · exact ob_v rfl (fun hg => allT_of ⟨rfl, rfl, trivial⟩) (fun hg => av_ia_sl (t := (.int .i64)) (e := x7) und47 sz3 rfl rfl e8)
        · exact ob_v rfl (fun hg => allT_of ⟨rfl, trivial⟩) (fun hg => av_load_rp ts3 rfl)
        · exact ob_v rfl (fun hg => allT_of trivial) (fun hg => av_move rfl)
        · exact ob_v rfl (fun hg => allT_of trivial) (fun hg => av_move rfl)
        · exact ob_v rfl (fun hg => allT_of ⟨rfl, rfl, trivial⟩) (fun hg => av_ia_sl (t := (.int .i64)) (e := x9) und47 sz3 rfl rfl e10)
        · exact ob_v rfl (fun hg => allT_of ⟨rfl, trivial⟩) (fun hg => av_load_rp ts3 rfl)
        · exact ob_v rfl (fun hg => allT_of ⟨rfl, rfl, trivial⟩) (fun hg => av_neq rfl rfl)
        refine athen_norm ?_
        refine awc_cond (b := !decide (x7 = x9)) rfl (fun hc11 => ?_) (fun hc11 => ?_)
        · have hr := if_t hc11 hr
          refine awc_seq ?_
          refine awc_region ?_
          refine awl_v (av_assign rfl) ?_
          have hr := Option.some.inj hr
          subst hr
          exact awl_nil (athen_norm (awc_ret (ablock_ret (athen_ret (⟨rfl, (wk_of hX [] 4 rfl rfl ⟨⟨_, rfl, cv0⟩, trivial⟩ trivial)⟩)))))
        · have hr := if_f hc11 hr
          refine awc_skip (ablock_norm (athen_norm ?_))
          refine awc_region ?_
          refine awl_v (av_add rfl rfl) ?_
          refine awl_v (av_move rfl) ?_
          have hr := Option.some.inj hr
          subst hr
          exact awl_nil ((wk_of hX [] 4 rfl rfl ⟨⟨_, rfl, cv0⟩, ⟨_, rfl, cv0⟩, ⟨_, rfl, cv0⟩, ⟨_, rfl, cv0⟩, ⟨_, rfl, cv0⟩, trivial⟩ trivial))
      · obtain rfl := rb_f hc6 ho
        exact awc_exit (athen_exit (⟨rfl, (wk_of hX [] 4 rfl rfl ⟨⟨_, rfl, cv0⟩, trivial⟩ trivial)⟩))
theorem f8_runs {r : Bool} (hr : f8 = some r) : RunsP Tryz.prog 6 [] [.bool r] := by
  refine runs_w Tryz.func6 Tryz.ntmps6 rfl (rs := [.tmp 0]) rfl rfl fun w0 X hX => ?_
  refine awc_seq ?_
  refine awc_region ?_
  refine awl_v (av_assign rfl) ?_
  refine awl_nil (athen_norm (awc_seq ?_))
  refine awc_region ?_
  obtain ⟨x1, e2, hr⟩ := bnd_some hr
  refine awl_v (av_call (f44_runs e2).x ent17 rfl rfl) ?_
  obtain ⟨x3, e4, hr⟩ := bnd_some hr
  refine awl_v (av_call (f24_runs e4).x ent16 rfl rfl) ?_
  refine awl_v (av_move rfl) ?_
  refine awl_v (av_extract rfl rfl) ?_
  refine awl_v (av_extract rfl rfl) ?_
  refine awl_v (av_assign rfl) ?_
  refine awl_v (av_assign rfl) ?_
  refine awl_nil (athen_norm (awc_seq ?_))
  refine awc_region ?_
  obtain ⟨x5, e6, hr⟩ := bnd_some hr
  refine awl_v (av_call (f44_runs e6).x ent17 rfl rfl) ?_
  obtain ⟨x7, e8, hr⟩ := bnd_some hr
  refine awl_v (av_call (f19_runs e8).x ent18 rfl rfl) ?_
  refine awl_v (av_move rfl) ?_
  refine awl_v (av_extract rfl rfl) ?_
  refine awl_v (av_extract rfl rfl) ?_
  refine awl_v (av_assign rfl) ?_
  refine awl_v (av_assign rfl) ?_
  refine awl_nil (athen_norm (awc_seq ?_))
  refine awc_region ?_
  obtain ⟨x9, e10, hr⟩ := bnd_some hr
  refine awl_v (av_call (f44_runs e10).x ent17 rfl rfl) ?_
  refine awl_v (av_buildSlice (t := (.int .i64)) (qs := [(0, [.int .i64 0]), (1, [.int .i64 2])]) (ys := [0, 2]) bs47 rfl rfl rfl rfl rfl rfl rfl rfl) ?_
  obtain ⟨x11, e12, hr⟩ := bnd_some hr
  refine awl_v (av_call (f32_runs e12).x ent19 rfl rfl) ?_
  refine awl_v (av_move rfl) ?_
  refine awl_v (av_extract rfl rfl) ?_
  refine awl_v (av_extract rfl rfl) ?_
  refine awl_v (av_assign rfl) ?_
  refine awl_v (av_assign rfl) ?_
  refine awl_nil (athen_norm (awc_seq ?_))
  obtain ⟨h13, hr⟩ := chk_some hr
  obtain ⟨h14, hr⟩ := chk_some hr
  refine awc_text [1, 2, 3, 4, 5, 6] [(true, .int .i64 x3.2), (true, .bool (decide (x3.2 = 0))), (true, .bool (decide (x3.2 = 0))), (decide (x3.2 = 0), .bool x3.1), (true, .bool ((decide (x3.2 = 0)) && x3.1)), (true, .bool ((decide (x3.2 = 0)) && x3.1)), ((decide (x3.2 = 0)) && x3.1, .int .i64 x7.2), ((decide (x3.2 = 0)) && x3.1, .bool (decide (x7.2 = 0))), (true, .bool (((decide (x3.2 = 0)) && x3.1) && (decide (x7.2 = 0)))), (true, .bool (((decide (x3.2 = 0)) && x3.1) && (decide (x7.2 = 0)))), (((decide (x3.2 = 0)) && x3.1) && (decide (x7.2 = 0)), .sl (.slice (.int .i64)) x7.1), (((decide (x3.2 = 0)) && x3.1) && (decide (x7.2 = 0)), .int .i64 (List.length x7.1 : Int)), (((decide (x3.2 = 0)) && x3.1) && (decide (x7.2 = 0)), .bool (decide ((List.length x7.1 : Int) = 4))), (true, .bool ((((decide (x3.2 = 0)) && x3.1) && (decide (x7.2 = 0))) && (decide ((List.length x7.1 : Int) = 4)))), (true, .bool ((((decide (x3.2 = 0)) && x3.1) && (decide (x7.2 = 0))) && (decide ((List.length x7.1 : Int) = 4)))), ((((decide (x3.2 = 0)) && x3.1) && (decide (x7.2 = 0))) && (decide ((List.length x7.1 : Int) = 4)), .sl (.slice (.int .i64)) x7.1), ((((decide (x3.2 = 0)) && x3.1) && (decide (x7.2 = 0))) && (decide ((List.length x7.1 : Int) = 4)), .rp [.sl (.int .i64) ((ix x7.1 3).getD default)]), ((((decide (x3.2 = 0)) && x3.1) && (decide (x7.2 = 0))) && (decide ((List.length x7.1 : Int) = 4)), .sl (.int .i64) ((ix x7.1 3).getD default)), ((((decide (x3.2 = 0)) && x3.1) && (decide (x7.2 = 0))) && (decide ((List.length x7.1 : Int) = 4)), .sl (.int .i64) [2, 2]), ((((decide (x3.2 = 0)) && x3.1) && (decide (x7.2 = 0))) && (decide ((List.length x7.1 : Int) = 4)), .bool ((f13 ((ix x7.1 3).getD default) [2, 2]).getD default)), (true, .bool (((((decide (x3.2 = 0)) && x3.1) && (decide (x7.2 = 0))) && (decide ((List.length x7.1 : Int) = 4))) && ((f13 ((ix x7.1 3).getD default) [2, 2]).getD default))), (true, .bool (((((decide (x3.2 = 0)) && x3.1) && (decide (x7.2 = 0))) && (decide ((List.length x7.1 : Int) = 4))) && ((f13 ((ix x7.1 3).getD default) [2, 2]).getD default))), (((((decide (x3.2 = 0)) && x3.1) && (decide (x7.2 = 0))) && (decide ((List.length x7.1 : Int) = 4))) && ((f13 ((ix x7.1 3).getD default) [2, 2]).getD default), .int .i64 x11.2), (((((decide (x3.2 = 0)) && x3.1) && (decide (x7.2 = 0))) && (decide ((List.length x7.1 : Int) = 4))) && ((f13 ((ix x7.1 3).getD default) [2, 2]).getD default), .bool (decide (x11.2 = 0))), (true, .bool ((((((decide (x3.2 = 0)) && x3.1) && (decide (x7.2 = 0))) && (decide ((List.length x7.1 : Int) = 4))) && ((f13 ((ix x7.1 3).getD default) [2, 2]).getD default)) && (decide (x11.2 = 0)))), (true, .bool ((((((decide (x3.2 = 0)) && x3.1) && (decide (x7.2 = 0))) && (decide ((List.length x7.1 : Int) = 4))) && ((f13 ((ix x7.1 3).getD default) [2, 2]).getD default)) && (decide (x11.2 = 0)))), ((((((decide (x3.2 = 0)) && x3.1) && (decide (x7.2 = 0))) && (decide ((List.length x7.1 : Int) = 4))) && ((f13 ((ix x7.1 3).getD default) [2, 2]).getD default)) && (decide (x11.2 = 0)), .bool x11.1), ((((((decide (x3.2 = 0)) && x3.1) && (decide (x7.2 = 0))) && (decide ((List.length x7.1 : Int) = 4))) && ((f13 ((ix x7.1 3).getD default) [2, 2]).getD default)) && (decide (x11.2 = 0)), .bool (!x11.1)), (true, .bool (((((((decide (x3.2 = 0)) && x3.1) && (decide (x7.2 = 0))) && (decide ((List.length x7.1 : Int) = 4))) && ((f13 ((ix x7.1 3).getD default) [2, 2]).getD default)) && (decide (x11.2 = 0))) && (!x11.1))), (true, .bool (((((((decide (x3.2 = 0)) && x3.1) && (decide (x7.2 = 0))) && (decide ((List.length x7.1 : Int) = 4))) && ((f13 ((ix x7.1 3).getD default) [2, 2]).getD default)) && (decide (x11.2 = 0))) && (!x11.1)))] [[], [0], [1], [2], [3, 2], [4], [5], [6, 5], [7, 5], [8], [9], [10, 9], [11, 9], [12, 9], [13], [14], [15, 14], [16, 14], [14], [17, 18, 14], [19, 14], [20], [21], [22, 21], [23, 21], [24], [25], [26, 25], [27, 25], [28]] [29] rfl rfl rfl rfl rfl ⟨?_, ?_, ?_, ?_, ?_, ?_, ?_, ?_, ?_, ?_, ?_, ?_, ?_, ?_, ?_, ?_, ?_, ?_, ?_, ?_, ?_, ?_, ?_, ?_, ?_, ?_, ?_, ?_, ?_, ?_, trivial⟩ (allT_of ⟨rfl, trivial⟩) ?_
  · exact ob_v rfl (fun hg => allT_of trivial) (fun hg => av_move rfl)
  · exact ob_v rfl (fun hg => allT_of ⟨rfl, trivial⟩) (fun hg => av_eql rfl rfl)
  · exact ob_v rfl (fun hg => allT_of ⟨rfl, trivial⟩) (fun hg => av_move rfl)
  · exact ob_v ⟨rfl, rfl, rfl, _, rfl, rfl⟩ (fun hg => allT_of ⟨rfl, trivial⟩) (fun hg => av_move rfl)
  · exact ob_pick (b := true) (p := decide (x3.2 = 0)) (q := x3.1) rfl rfl rfl (fun hg => allT_of ⟨rfl, trivial⟩) rfl rfl rfl rfl rfl
  · exact ob_v rfl (fun hg => allT_of ⟨rfl, trivial⟩) (fun hg => av_move rfl)
  · exact ob_v ⟨rfl, rfl, rfl, _, rfl, rfl⟩ (fun hg => allT_of ⟨rfl, trivial⟩) (fun hg => av_move rfl)
  · exact ob_v ⟨rfl, rfl, rfl, _, rfl, rfl⟩ (fun hg => allT_of ⟨hg, rfl, trivial⟩) (fun hg => av_eql rfl rfl)
  · exact ob_pick (b := true) (p := (decide (x3.2 = 0)) && x3.1) (q := decide (x7.2 = 0)) rfl rfl rfl (fun hg => allT_of ⟨rfl, trivial⟩) rfl rfl rfl rfl rfl
  · exact ob_v rfl (fun hg => allT_of ⟨rfl, trivial⟩) (fun hg => av_move rfl)
  · exact ob_v ⟨rfl, rfl, rfl, _, rfl, rfl⟩ (fun hg => allT_of ⟨rfl, trivial⟩) (fun hg => av_move rfl)
  · exact ob_v ⟨rfl, rfl, rfl, _, rfl, rfl⟩ (fun hg => allT_of ⟨hg, rfl, trivial⟩) (fun hg => av_len_sl (t := (.slice (.int .i64))) rfl rfl und43 rfl)
  · exact ob_v ⟨rfl, rfl, rfl, _, rfl, rfl⟩ (fun hg => allT_of ⟨hg, rfl, trivial⟩) (fun hg => av_eql rfl rfl)
  · exact ob_pick (b := true) (p := ((decide (x3.2 = 0)) && x3.1) && (decide (x7.2 = 0))) (q := decide ((List.length x7.1 : Int) = 4)) rfl rfl rfl (fun hg => allT_of ⟨rfl, trivial⟩) rfl rfl rfl rfl rfl
  · exact ob_v rfl (fun hg => allT_of ⟨rfl, trivial⟩) (fun hg => av_move rfl)
  · exact ob_v ⟨rfl, rfl, rfl, _, rfl, rfl⟩ (fun hg => allT_of ⟨rfl, trivial⟩) (fun hg => av_move rfl)
  · exact ob_v ⟨rfl, rfl, rfl, _, rfl, rfl⟩ (fun hg => allT_of ⟨hg, rfl, trivial⟩) (fun hg => av_ia_sl (t := (.slice (.int .i64))) (e := ((ix x7.1 3).getD default)) und43 sz47 rfl rfl (get_g h13 hg))
  · exact ob_v ⟨rfl, rfl, rfl, _, rfl, rfl⟩ (fun hg => allT_of ⟨hg, rfl, trivial⟩) (fun hg => av_load_rp ts47 rfl)
  · exact ob_v ⟨rfl, rfl, rfl, _, rfl, rfl⟩ (fun hg => allT_of ⟨rfl, trivial⟩) (fun hg => av_buildSlice (t := (.int .i64)) (qs := [(0, [.int .i64 2]), (1, [.int .i64 2])]) (ys := [2, 2]) bs47 rfl rfl rfl rfl rfl rfl rfl rfl)
  · exact ob_v ⟨rfl, rfl, rfl, _, rfl, rfl⟩ (fun hg => allT_of ⟨hg, hg, rfl, trivial⟩) (fun hg => av_call (f13_runs (get_g h14 hg)).x ent20 rfl rfl)
  · exact ob_pick (b := true) (p := (((decide (x3.2 = 0)) && x3.1) && (decide (x7.2 = 0))) && (decide ((List.length x7.1 : Int) = 4))) (q := ((f13 ((ix x7.1 3).getD default) [2, 2]).getD default)) rfl rfl rfl (fun hg => allT_of ⟨rfl, trivial⟩) rfl rfl rfl rfl rfl
  · exact ob_v rfl (fun hg => allT_of ⟨rfl, trivial⟩) (fun hg => av_move rfl)
  · exact ob_v ⟨rfl, rfl, rfl, _, rfl, rfl⟩ (fun hg => allT_of ⟨rfl, trivial⟩) (fun hg => av_move rfl)
  · exact ob_v ⟨rfl, rfl, rfl, _, rfl, rfl⟩ (fun hg => allT_of ⟨hg, rfl, trivial⟩) (fun hg => av_eql rfl rfl)
  · exact ob_pick (b := true) (p := ((((decide (x3.2 = 0)) && x3.1) && (decide (x7.2 = 0))) && (decide ((List.length x7.1 : Int) = 4))) && ((f13 ((ix x7.1 3).getD default) [2, 2]).getD default)) (q := decide (x11.2 = 0)) rfl rfl rfl (fun hg => allT_of ⟨rfl, trivial⟩) rfl rfl rfl rfl rfl
  · exact ob_v rfl (fun hg => allT_of ⟨rfl, trivial⟩) (fun hg => av_move rfl)
  · exact ob_v ⟨rfl, rfl, rfl, _, rfl, rfl⟩ (fun hg => allT_of ⟨rfl, trivial⟩) (fun hg => av_move rfl)
  · exact ob_v ⟨rfl, rfl, rfl, _, rfl, rfl⟩ (fun hg => allT_of ⟨hg, rfl, trivial⟩) (fun hg => av_not rfl)
  · exact ob_pick (b := true) (p := (((((decide (x3.2 = 0)) && x3.1) && (decide (x7.2 = 0))) && (decide ((List.length x7.1 : Int) = 4))) && ((f13 ((ix x7.1 3).getD default) [2, 2]).getD default)) && (decide (x11.2 = 0))) (q := !x11.1) rfl rfl rfl (fun hg => allT_of ⟨rfl, trivial⟩) rfl rfl rfl rfl rfl
  · exact ob_v rfl (fun hg => allT_of ⟨rfl, trivial⟩) (fun hg => av_assign rfl)
  have hr := Option.some.inj hr
  subst hr
  exact athen_norm (awc_ret (ret_q (l' := [(0, .bool (((((((decide (x3.2 = 0)) && x3.1) && (decide (x7.2 = 0))) && (decide ((List.length x7.1 : Int) = 4))) && ((f13 ((ix x7.1 3).getD default) [2, 2]).getD default)) && (decide (x11.2 = 0))) && (!x11.1)))]) (wk_of hX [] 4 rfl rfl ⟨⟨_, rfl, cv0⟩, trivial⟩ trivial) rfl ⟨rfl, trivial⟩))
theorem f54_runs {p0 : Int} {p1 : List (Int × Int × Int × Int × Str)} {r : List Int} (hr : f54 p0 p1 = some r) : RunsP Tryz.prog 23 [.int .i64 p0, .sl Y1 p1] [.sl (.int .i64) r] := by
  refine runs_wM Tryz.func23 Tryz.ntmps23 rfl (rs := [.tmp 4]) rfl rfl fun w0 X hX => ?_
  refine awc_seq ?_
  refine awc_region ?_
  refine awl_v (av_assign rfl) ?_
  refine awl_nil (athen_norm (awc_seq ?_))
  refine awc_region ?_
  refine awl_op (aop_alloc zero47 rfl ?_)
  refine awl_nil (athen_norm (awc_seq (awc_seq ?_)))
  refine awc_region ?_
  refine awl_v (av_move rfl) ?_
  refine awl_v (av_move rfl) ?_
  obtain ⟨x1, e2, hr⟩ := bnd_some hr
  refine awl_v (av_call (f62_runs e2).x ent47 rfl rfl) ?_
  refine awl_nil (athen_norm (awc_block ?_))
  obtain ⟨s5, e10, hr⟩ := bnd_some hr
  refine awc_wk (st' := ⟨[(4, .nils), (5, .ptr 0 0), (13, .fn 75 [] [.rp [.int .i64 p0], .rp [.sl Y1 p1]])], [(0, .var 47 [.osl 1]), (1, .sl 3 (.int .i64) ([] : List Int))], 2⟩) (Wk.trans (wk_ownC (i := 0) (o := 0) 3 (.int .i64) rfl rfl rfl) (wk_of hX [0, 1] 4 rfl rfl ⟨⟨_, rfl, cv0⟩, ⟨_, rfl, cv0⟩, ⟨_, rfl, cv0⟩, trivial⟩ ⟨cvo0, cvo0, trivial⟩)) (awc_rangeF (σ := List Int) (α := Int × List Int) 1 (f54_b0) (fun x => [.int .i64 x.1, .sl (.int .i64) x.2]) [(4, .nils), (5, .ptr 0 0), (13, .fn 75 [] [.rp [.int .i64 p0], .rp [.sl Y1 p1]])] (fun p => match p with | s5 => ([(0, .var 47 [.osl 1]), (1, .sl 3 (.int .i64) s5)] : AH)) 2 rfl rfl rfl ent75 rfl rfl (fun _ => rfl) rfl (by rw [hX]; rfl) rfl (fun L rec G hrec hY => f82_iter (q := f54_b0) e10 hrec hY) ?_ ?_)
  · intro w0 L X hX
    rintro s5 ⟨y11, y12⟩ s' hr
    refine awc_region ?_
    refine awl_v (av_assign rfl) ?_
    refine awl_nil (ranged ?_)
    intro w0
    refine awc_block (awc_seq ?_)
    refine awc_region ?_
    refine awl_v (av_assign rfl) ?_
    refine awl_nil (athen_norm (awc_seq (awc_seq ?_)))
    refine awc_region ?_
    refine awl_v (av_move rfl) ?_
    refine awl_v (av_len_sl (t := (.int .i64)) rfl rfl und47 rfl) ?_
    refine awl_v (av_move rfl) ?_
    refine awl_nil (athen_norm (awc_block ?_))
    obtain ⟨o18, e19, hr⟩ := bnd_some hr
    refine awc_len (t := 15) rfl (fun hl => ?_)
    refine awc_range (S := Int) (R := Unit) (List.length y12 : Int) (f54_b1 s5 y12) (fun p => match p with | (i13, s14) => (⟨[(4, .nils), (5, .ptr 0 0), (7, .sl (.int .i64) y12), (8, .int .i64 s14), (15, .sl (.int .i64) y12), (16, .sl (.int .i64) y12), (17, .int .i64 (List.length y12 : Int)), (18, .int .i64 i13)], [(0, .var 47 [.osl 1]), (1, .sl 3 (.int .i64) s5)], 2⟩ : AS)) (fun o e st => match o with | .inr _ => False | .inl s14 => e = .exit 2 ∧ Wk X st ⟨[(4, .nils), (5, .ptr 0 0), (7, .sl (.int .i64) y12), (8, .int .i64 s14), (15, .sl (.int .i64) y12)], [(0, .var 47 [.osl 1]), (1, .sl 3 (.int .i64) s5)], 2⟩) (len_ok hl) e19 (wk_of hX [0, 1] 4 rfl rfl ⟨⟨_, rfl, cv0⟩, ⟨_, rfl, cv0⟩, ⟨_, rfl, cv0⟩, ⟨_, rfl, cv0⟩, ⟨_, rfl, cv0⟩, ⟨_, rfl, cv0⟩, ⟨_, rfl, cv0⟩, ⟨_, rfl, cv0⟩, trivial⟩ ⟨cvo0, cvo0, trivial⟩) ?_ ?_
    · intro e st hx
      rcases o18 with s14 | _
      · obtain ⟨rfl, hw⟩ := hx
        refine ablock_here (athen_norm ((awc_wk hw) ?_))
        refine awc_region ?_
        refine awl_v (av_load_ptr ts47 rfl rfl rfl) ?_
        refine awl_v (av_move rfl) ?_
        refine awl_v (av_add rfl rfl) ?_
        refine awl_v (av_buildSlice (t := (.int .i64)) (qs := [(0, [.int .i64 (w64 (s14 + 1))])]) (ys := [(w64 (s14 + 1))]) bs47 rfl rfl rfl rfl rfl rfl rfl rfl) ?_
        obtain ⟨h20, hr⟩ := chk_some hr
        refine awl_op (aop_append rfl rfl app47 rfl rfl rfl h20 rfl ?_)
        refine awl_op (aop_store sz47 rfl rfl rfl rfl rfl rfl rfl ?_)
        have hr := Option.some.inj hr
        subst hr
        exact awl_nil (ablock_norm ((wk_of hX [0, 2] 4 rfl rfl trivial ⟨cvo0, cvo0, trivial⟩)))
      · exact hx.elim
    · rintro i13 s14 o ho
      refine awc_seq ?_
      refine awc_region ?_
      refine awl_v (av_lss rfl rfl) ?_
      refine awl_nil (athen_norm (awc_seq ?_))
      refine awc_cond (b := decide (i13 < (List.length y12 : Int))) rfl (fun hc21 => ?_) (fun hc21 => ?_)
      · obtain ⟨q, hr, rfl⟩ := rb_t hc21 ho
        refine awc_skip (athen_norm (awc_seq (awc_block (awc_seq ?_))))
        refine awc_region ?_
        obtain ⟨x22, e23, hr⟩ := bnd_some hr
        refine awl_v (av_ia_sl (t := (.int .i64)) (e := x22) und47 sz3 rfl rfl e23) ?_
        refine awl_v (av_load_rp ts3 rfl) ?_
        refine awl_v (av_assign rfl) ?_
        refine awl_nil (athen_norm ?_)
        refine awc_region ?_
        refine awl_v (av_move rfl) ?_
        refine awl_v (av_load_ptr ts47 rfl rfl rfl) ?_
        refine awl_v (av_move rfl) ?_
        obtain ⟨x24, e25, hr⟩ := bnd_some hr
        refine awl_v (av_ia_osl (t := (.int .i64)) und47 sz3 rfl rfl rfl e25) ?_
        refine awl_v (av_load_ep ts3 rfl rfl rfl (ix_at e25) rfl) ?_
        refine awl_v (av_max rfl rfl rfl) ?_
        refine awl_v (av_assign rfl) ?_
        refine awl_nil (ablock_norm (athen_norm ?_))
        refine awc_region ?_
        refine awl_v (av_add rfl rfl) ?_
        refine awl_v (av_move rfl) ?_
        have hr := Option.some.inj hr
        subst hr
        exact awl_nil ((wk_of hX [0, 1] 4 rfl rfl ⟨⟨_, rfl, cv0⟩, ⟨_, rfl, cv0⟩, ⟨_, rfl, cv0⟩, ⟨_, rfl, cv0⟩, ⟨_, rfl, cv0⟩, ⟨_, rfl, cv0⟩, ⟨_, rfl, cv0⟩, ⟨_, rfl, cv0⟩, trivial⟩ ⟨cvo0, cvo0, trivial⟩))
      · obtain rfl := rb_f hc21 ho
        exact awc_exit (athen_exit (⟨rfl, (wk_of hX [0, 1] 4 rfl rfl ⟨⟨_, rfl, cv0⟩, ⟨_, rfl, cv0⟩, ⟨_, rfl, cv0⟩, ⟨_, rfl, cv0⟩, ⟨_, rfl, cv0⟩, trivial⟩ ⟨cvo0, cvo0, trivial⟩)⟩))
  refine ablock_norm (athen_norm (awc_seq ?_))
  refine awc_region ?_
  refine awl_v (av_load_ptr ts47 rfl rfl rfl) ?_
  refine awl_v (av_assign rfl) ?_
  have hr := Option.some.inj hr
  subst hr
  exact awl_nil (athen_norm (awc_ret (ret_q (l' := [(4, .sl (.int .i64) s5)]) (wk_of hX [] 4 rfl rfl ⟨⟨_, rfl, cv0⟩, trivial⟩ trivial) rfl ⟨rfl, trivial⟩)))
theorem f90_runs {p0 : Int × Int × Int} {p1 : Int × Int × Int × Int × Str} {r : Bool} (hr : f90 p0 p1 = some r) : RunsP Tryz.prog 50 [.agg [.int .i64 p0.1, .int .i64 p0.2.1, .int .i64 p0.2.2], .rp [.int .i64 p1.1, .int .i64 p1.2.1, .int .i64 p1.2.2.1, .int .i64 p1.2.2.2.1, .str p1.2.2.2.2]] [.bool r] := by
  refine runs_w Tryz.func50 Tryz.ntmps50 rfl (rs := [.tmp 3]) rfl rfl fun w0 X hX => ?_
  refine awc_seq ?_
  refine awc_region ?_
  refine awl_op (aop_box rfl rfl ?_)
  refine awl_v (av_assign rfl) ?_
  refine awl_nil (athen_norm (awc_seq ?_))
  refine awc_region ?_
  refine awl_v (av_fa_ptr fa54_0 rfl rfl) ?_
  refine awl_v (av_load_ptr ts3 rfl rfl rfl) ?_
  refine awl_v (av_fa_rp fa39_3 rfl rfl) ?_
  refine awl_v (av_load_rp ts3 rfl) ?_
  refine awl_v (av_eql rfl rfl) ?_
  refine awl_v (av_assign rfl) ?_
  have hr := Option.some.inj hr
  subst hr
  exact awl_nil (athen_norm (awc_ret (ret_q (l' := [(3, .bool (decide (p0.1 = p1.2.2.2.1)))]) (wk_of hX [] 4 rfl rfl ⟨⟨_, rfl, cv0⟩, trivial⟩ trivial) rfl ⟨rfl, trivial⟩)))
theorem f89_runs {p0 : List (Int × Int × Int)} {q1 : (Int × Int × Int) → Option Bool} {r : Int} {g1 : FuncId} {c1s : List AV} (h_q1 : ∀ (y1 : Int × Int × Int) (r : Bool), q1 y1 = some r → RunsP Tryz.prog g1 ([.agg [.int .i64 y1.1, .int .i64 y1.2.1, .int .i64 y1.2.2]] ++ c1s) [.bool r]) (k_q1 : FnIn Tryz.prog g1 c1s) (hr : f89 p0 q1 = some r) : RunsP Tryz.prog 49 [.sl Y2 p0, .clo (.fn g1 [] c1s)] [.int .i64 r] := by
  refine runs_w Tryz.func49 Tryz.ntmps49 rfl (rs := [.tmp 4]) rfl rfl fun w0 X hX => ?_
  refine awc_seq ?_
  refine awc_region ?_
  refine awl_v (av_assign rfl) ?_
  refine awl_nil (athen_norm (awc_seq (awc_seq ?_)))
  refine awc_region ?_
  refine awl_v (av_move rfl) ?_
  refine awl_v (av_len_sl (t := Y2) rfl rfl und51 rfl) ?_
  refine awl_v (av_move rfl) ?_
  refine awl_nil (athen_norm (awc_block ?_))
  obtain ⟨o4, e5, hr⟩ := bnd_some hr
  refine awc_len (t := 0) rfl (fun hl => ?_)
  refine awc_range (S := Unit) (R := Int) (List.length p0 : Int) (f89_b0 p0 q1) (fun p => match p with | (i1, ()) => (⟨[(0, .sl Y2 p0), (1, .clo (.fn g1 [] c1s)), (4, .int .i64 0), (7, .int .i64 (List.length p0 : Int)), (8, .int .i64 i1)], [], 0⟩ : AS)) (fun o e st => match o with | .inl () => e = .exit 0 ∧ Wk X st ⟨[(4, .int .i64 0)], [], 0⟩ | .inr s3 => e = .ret ∧ Wk X st ⟨[(4, .int .i64 s3)], [], 0⟩) (len_ok hl) e5 (wk_of hX [] 4 rfl rfl ⟨⟨_, rfl, cv0⟩, ⟨_, rfl, cv0⟩, ⟨_, rfl, cv0⟩, ⟨_, rfl, cv0⟩, ⟨_, rfl, cv0⟩, trivial⟩ trivial) ?_ ?_
  · intro e st hx
    rcases o4 with _ | s3
    · obtain ⟨rfl, hw⟩ := hx
      refine ablock_here (athen_norm ((awc_wk hw) (awc_seq ?_)))
      refine awc_region ?_
      refine awl_v (av_assign rfl) ?_
      have hr := Option.some.inj hr
      subst hr
      exact awl_nil (athen_norm (awc_ret (ret_q (l' := [(4, .int .i64 (-1))]) (wk_of hX [] 4 rfl rfl ⟨⟨_, rfl, cv0⟩, trivial⟩ trivial) rfl ⟨rfl, trivial⟩)))
    · obtain ⟨rfl, hw⟩ := hx
      have hr := Option.some.inj hr
      subst hr
      exact ablock_ret (athen_ret (ret_q (l' := [(4, .int .i64 s3)]) (Wk.trans hw (wk_of hX [] 4 rfl rfl ⟨⟨_, rfl, cv0⟩, trivial⟩ trivial)) rfl ⟨rfl, trivial⟩))
  · rintro i1 _ o ho
    refine awc_seq ?_
    refine awc_region ?_
    refine awl_v (av_lss rfl rfl) ?_
    refine awl_nil (athen_norm (awc_seq ?_))
    refine awc_cond (b := decide (i1 < (List.length p0 : Int))) rfl (fun hc6 => ?_) (fun hc6 => ?_)
    · obtain ⟨q, hr, rfl⟩ := rb_t hc6 ho
      refine awc_skip (athen_norm (awc_seq (awc_block (awc_seq ?_))))
      refine awc_region ?_
      refine awl_v (av_move rfl) ?_
      refine awl_v (av_assign rfl) ?_
      refine awl_nil (athen_norm (awc_seq ?_))
      refine awc_region ?_
      refine awl_v (av_move rfl) ?_
      refine awl_v (av_move rfl) ?_
      refine awl_v (av_move rfl) ?_
      obtain ⟨x7, e8, hr⟩ := bnd_some hr
      refine awl_v (av_ia_sl (t := Y2) (e := x7) und51 sz54 rfl rfl e8) ?_
      refine awl_v (av_load_rpN ts54 rfl rfl rfl) ?_
      obtain ⟨x9, e10, hr⟩ := bnd_some hr
      refine awl_v (av_callq rfl (h_q1 x7 x9 e10).x k_q1 rfl rfl rfl) ?_
      refine awl_nil (athen_norm ?_)
      refine awc_cond (b := x9) rfl (fun hc11 => ?_) (fun hc11 => ?_)
      · have hr := if_t hc11 hr
        refine awc_seq ?_
        refine awc_region ?_
        refine awl_v (av_move rfl) ?_
        refine awl_v (av_assign rfl) ?_
        have hr := Option.some.inj hr
        subst hr
        exact awl_nil (athen_norm (awc_ret (ablock_ret (athen_ret (⟨rfl, (wk_of hX [] 4 rfl rfl ⟨⟨_, rfl, cv0⟩, trivial⟩ trivial)⟩)))))
      · have hr := if_f hc11 hr
        refine awc_skip (ablock_norm (athen_norm ?_))
        refine awc_region ?_
        refine awl_v (av_add rfl rfl) ?_
        refine awl_v (av_move rfl) ?_
        have hr := Option.some.inj hr
        subst hr
        exact awl_nil ((wk_of hX [] 4 rfl rfl ⟨⟨_, rfl, cv0⟩, ⟨_, rfl, cv0⟩, ⟨_, rfl, cv0⟩, ⟨_, rfl, cv0⟩, ⟨_, rfl, cv0⟩, trivial⟩ trivial))
    · obtain rfl := rb_f hc6 ho
      exact awc_exit (athen_exit (⟨rfl, (wk_of hX [] 4 rfl rfl ⟨⟨_, rfl, cv0⟩, trivial⟩ trivial)⟩))
theorem f78_runs {p0 : List (Int × Int × Int × Int × Str)} {r : (List (Int × Int × Int))} (hr : f78 p0 = some r) : RunsP Tryz.prog 24 [.sl Y1 p0] [.sl Y2 r] := by
  refine runs_w Tryz.func24 Tryz.ntmps24 rfl (rs := [.tmp 2]) rfl rfl fun w0 X hX => ?_
  refine awc_seq ?_
  refine awc_region ?_
  refine awl_v (av_assign rfl) ?_
  refine awl_nil (athen_norm (awc_seq ?_))
  refine awc_region ?_
  refine awl_v (av_assign rfl) ?_
  refine awl_nil (athen_norm (awc_seq (awc_seq ?_)))
  refine awc_region ?_
  refine awl_v (av_move rfl) ?_
  refine awl_v (av_len_sl (t := Y1) rfl rfl und22 rfl) ?_
  refine awl_v (av_move rfl) ?_
  refine awl_nil (athen_norm (awc_block ?_))
  obtain ⟨o6, e7, hr⟩ := bnd_some hr
  refine awc_len (t := 0) rfl (fun hl => ?_)
  refine awc_range (S := (List (Int × Int × Int))) (R := Unit) (List.length p0 : Int) (f78_b0 p0) (fun p => match p with | (i1, s3) => (⟨[(2, .nils), (3, .osl 0), (7, .sl Y1 p0), (8, .int .i64 (List.length p0 : Int)), (9, .int .i64 i1)], [(0, .sl 54 Y2 s3)], 1⟩ : AS)) (fun o e st => match o with | .inr _ => False | .inl s3 => e = .exit 0 ∧ Wk X st ⟨[(2, .nils), (3, .osl 0)], [(0, .sl 54 Y2 s3)], 1⟩) (len_ok hl) e7 (Wk.trans (wk_own (t := 3) 54 Y2 rfl) (wk_of hX [0] 4 rfl rfl ⟨⟨_, rfl, cv0⟩, ⟨_, rfl, cv0⟩, ⟨_, rfl, cv0⟩, ⟨_, rfl, cv0⟩, ⟨_, rfl, cv0⟩, trivial⟩ ⟨cvo0, trivial⟩)) ?_ ?_
  · intro e st hx
    rcases o6 with s3 | _
    · obtain ⟨rfl, hw⟩ := hx
      refine ablock_here (athen_norm ((awc_wk hw) (awc_seq ?_)))
      refine awc_region ?_
      refine awl_v (av_move rfl) ?_
      obtain ⟨x8, e9, hr⟩ := bnd_some hr
      refine awl_op (aop_callO (σ := [0]) (as' := [.osl 0, .fn 52 [] []]) (f91_runs e9).x ent51 rfl ⟨cv0, cv0, trivial⟩ rfl rfl rfl ?_)
      refine awl_nil (athen_norm (awc_seq ?_))
      refine awc_region ?_
      refine awl_v (av_move rfl) ?_
      refine awl_v (av_assign rfl) ?_
      have hr := Option.some.inj hr
      subst hr
      exact awl_nil (athen_norm (awc_ret (ret_q (l' := [(2, .sl Y2 x8)]) (wk_of hX [] 4 rfl rfl ⟨⟨_, rfl, cv0⟩, trivial⟩ trivial) rfl ⟨rfl, trivial⟩)))
    · exact hx.elim
  · rintro i1 s3 o ho
    refine awc_seq ?_
    refine awc_region ?_
    refine awl_v (av_lss rfl rfl) ?_
    refine awl_nil (athen_norm (awc_seq ?_))
    refine awc_cond (b := decide (i1 < (List.length p0 : Int))) rfl (fun hc10 => ?_) (fun hc10 => ?_)
    · obtain ⟨q, hr, rfl⟩ := rb_t hc10 ho
      refine awc_skip (athen_norm ?_)
      obtain ⟨o12, e13, hr⟩ := bnd_some hr
      refine awc_join (S := (List (Int × Int × Int))) (R := Unit) (fun s => match s with | s11 => (⟨[(2, .nils), (3, .osl 0), (7, .sl Y1 p0), (8, .int .i64 (List.length p0 : Int)), (9, .int .i64 i1)], [(0, .sl 54 Y2 s11)], 1⟩ : AS)) (fun _ _ _ => False) e13 (fun hr => ?_) ?_ ?_
      · refine awc_block (awc_seq ?_)
        refine awc_region ?_
        refine awl_v (av_move rfl) ?_
        obtain ⟨x14, e15, hr⟩ := bnd_some hr
        refine awl_v (av_ia_sl (t := Y1) (e := x14) und22 sz39 rfl rfl e15) ?_
        refine awl_v (av_load_rpN ts39 rfl rfl rfl) ?_
        refine awl_op (aop_alloc zero39 rfl ?_)
        refine awl_v (av_assign rfl) ?_
        refine awl_op (aop_store sz39 rfl rfl rfl rfl rfl rfl rfl ?_)
        refine awl_nil (athen_norm (awc_seq ?_))
        refine awc_region ?_
        refine awl_v (av_fa_ptr fa39_1 rfl rfl) ?_
        refine awl_v (av_load_ptr ts3 rfl rfl rfl) ?_
        refine awl_nil (athen_norm (awc_block (awc_seq ?_)))
        refine awc_region ?_
        refine awl_v (av_eql rfl rfl) ?_
        refine awl_v (av_assign rfl) ?_
        refine awl_nil (athen_norm ?_)
        refine awc_cond (b := decide (x14.2.1 = 4)) rfl (fun hc16 => ?_) (fun hc16 => ?_)
        · have hr := if_t hc16 hr
          refine awc_region ?_
          refine awl_v (av_move rfl) ?_
          refine awl_v (av_fa_ptr fa39_3 rfl rfl) ?_
          refine awl_v (av_load_ptr ts3 rfl rfl rfl) ?_
          refine awl_v (av_move rfl) ?_
          refine awl_v (av_build (qs := [(0, [.int .i64 x14.2.2.2.1]), (1, [.int .i64 i1]), (2, [.int .i64 (-1)])]) (cs := [.int .i64 x14.2.2.2.1, .int .i64 i1, .int .i64 (-1)]) bt54 rfl rfl rfl) ?_
          refine awl_v (av_buildSlice (t := Y2) (qs := [(0, [.int .i64 x14.2.2.2.1, .int .i64 i1, .int .i64 (-1)])]) (ys := [(x14.2.2.2.1, i1, (-1))]) bs51 rfl rfl rfl rfl rfl rfl rfl rfl) ?_
          obtain ⟨h17, hr⟩ := chk_some hr
          refine awl_op (aop_append rfl rfl app51 rfl rfl rfl h17 rfl ?_)
          refine awl_v (av_assign rfl) ?_
          have hr := Option.some.inj hr
          subst hr
          exact awl_nil (ablock_norm (ablock_norm ((wk_of hX [2] 4 rfl rfl ⟨⟨_, rfl, cv0⟩, ⟨_, rfl, cv0⟩, ⟨_, rfl, cv0⟩, ⟨_, rfl, cv0⟩, ⟨_, rfl, cv0⟩, trivial⟩ ⟨cvo0, trivial⟩))))
        · have hr := if_f hc16 hr
          refine awc_seq ?_
          refine awc_region ?_
          refine awl_v (av_eql rfl rfl) ?_
          refine awl_v (av_assign rfl) ?_
          refine awl_nil (athen_norm ?_)
          refine awc_cond (b := decide (x14.2.1 = 5)) rfl (fun hc18 => ?_) (fun hc18 => ?_)
          · have hr := if_t hc18 hr
            refine awc_seq ?_
            refine awc_region ?_
            refine awl_v (av_move rfl) ?_
            refine awl_v (av_makeFunc (us := []) (vs := [.ptr 1 0]) rfl rfl) ?_
            obtain ⟨x19, e20, hr⟩ := bnd_some hr
            refine awl_v (av_callB (as' := [.osl 0, .fn 50 [] [.ptr 1 0]]) (f89_runs (g1 := 50) (c1s := [.rp [.int .i64 x14.1, .int .i64 x14.2.1, .int .i64 x14.2.2.1, .int .i64 x14.2.2.2.1, .str x14.2.2.2.2]]) (fun _ r h => f90_runs h) ⟨ent50⟩ e20).x ent49 rfl ⟨cv0, (cv3 rfl), trivial⟩ rfl rfl) ?_
            refine awl_v (av_assign rfl) ?_
            refine awl_nil (athen_norm ?_)
            refine awc_region ?_
            refine awl_v (av_move rfl) ?_
            refine awl_v (av_move rfl) ?_
            refine awl_v (av_move rfl) ?_
            obtain ⟨x21, e22, hr⟩ := bnd_some hr
            refine awl_v (av_ia_osl (t := Y2) und51 sz54 rfl rfl rfl e22) ?_
            refine awl_v (av_fa_ep fa54_2 rfl rfl) ?_
            refine awl_op (aop_store_ep (e' := (x21.1, x21.2.1, i1)) sz3 rfl rfl rfl rfl (ix_at e22) rfl rfl rfl rfl rfl ?_)
            have hr := Option.some.inj hr
            subst hr
            exact awl_nil (ablock_norm (ablock_norm ((wk_of hX [0] 4 rfl rfl ⟨⟨_, rfl, cv0⟩, ⟨_, rfl, cv0⟩, ⟨_, rfl, cv0⟩, ⟨_, rfl, cv0⟩, ⟨_, rfl, cv0⟩, trivial⟩ ⟨cvo0, trivial⟩))))
          · have hr := if_f hc18 hr
            have hr := Option.some.inj hr
            subst hr
            exact awc_skip (ablock_norm (ablock_norm ((wk_of hX [0] 4 rfl rfl ⟨⟨_, rfl, cv0⟩, ⟨_, rfl, cv0⟩, ⟨_, rfl, cv0⟩, ⟨_, rfl, cv0⟩, ⟨_, rfl, cv0⟩, trivial⟩ ⟨cvo0, trivial⟩))))
      · rintro s11 rfl
        refine awc_region ?_
        refine awl_v (av_add rfl rfl) ?_
        refine awl_v (av_move rfl) ?_
        have hr := Option.some.inj hr
        subst hr
        exact awl_nil ((wk_of hX [0] 4 rfl rfl ⟨⟨_, rfl, cv0⟩, ⟨_, rfl, cv0⟩, ⟨_, rfl, cv0⟩, ⟨_, rfl, cv0⟩, ⟨_, rfl, cv0⟩, trivial⟩ ⟨cvo0, trivial⟩))
      · exact fun r h e st hne hx => hx.elim
    · obtain rfl := rb_f hc10 ho
      exact awc_exit (athen_exit (⟨rfl, (wk_of hX [0] 4 rfl rfl ⟨⟨_, rfl, cv0⟩, ⟨_, rfl, cv0⟩, trivial⟩ ⟨cvo0, trivial⟩)⟩))
theorem f43_runs {p0 : Int} {p1 : List (Int × Int × Int × Int × Str)} {r : (List (Int × Int)) × Int} (hr : f43 p0 p1 = some r) : RunsP Tryz.prog 7 [.int .i64 p0, .sl Y1 p1] [.sl Y3 r.1, .int .i64 r.2] := by
  refine runs_w Tryz.func7 Tryz.ntmps7 rfl (rs := [.tmp 4, .tmp 5]) rfl rfl fun w0 X hX => ?_
  refine awc_seq ?_
  refine awc_region ?_
  refine awl_v (av_assign rfl) ?_
  refine awl_v (av_assign rfl) ?_
  refine awl_nil (athen_norm (awc_seq (awc_seq ?_)))
  refine awc_region ?_
  refine awl_v (av_move rfl) ?_
  refine awl_v (av_move rfl) ?_
  obtain ⟨x1, e2, hr⟩ := bnd_some hr
  refine awl_v (av_call (f17_runs e2).x ent21 rfl rfl) ?_
  refine awl_v (av_not rfl) ?_
  refine awl_nil (athen_norm ?_)
  refine awc_cond (b := !x1) rfl (fun hc3 => ?_) (fun hc3 => ?_)
  · have hr := if_t hc3 hr
    refine awc_seq ?_
    refine awc_region ?_
    refine awl_v (av_assign rfl) ?_
    refine awl_v (av_assign rfl) ?_
    have hr := Option.some.inj hr
    subst hr
    exact awl_nil (athen_norm (awc_ret (athen_ret (ret_q (l' := [(4, .sl Y3 ([] : List (Int × Int))), (5, .int .i64 1)]) (wk_of hX [] 4 rfl rfl ⟨⟨_, rfl, cv2⟩, ⟨_, rfl, cv0⟩, trivial⟩ trivial) rfl ⟨rfl, rfl, trivial⟩))))
  · have hr := if_f hc3 hr
    refine awc_skip (athen_norm (awc_seq ?_))
    refine awc_region ?_
    refine awl_v (av_move rfl) ?_
    refine awl_v (av_move rfl) ?_
    obtain ⟨x4, e5, hr⟩ := bnd_some hr
    refine awl_v (av_call (f52_runs e5).x ent22 rfl rfl) ?_
    refine awl_v (av_move rfl) ?_
    refine awl_v (av_move rfl) ?_
    obtain ⟨x6, e7, hr⟩ := bnd_some hr
    refine awl_v (av_call (f54_runs e7).x ent23 rfl rfl) ?_
    refine awl_v (av_assign rfl) ?_
    refine awl_v (av_assign rfl) ?_
    refine awl_nil (athen_norm (awc_seq ?_))
    refine awc_region ?_
    refine awl_v (av_move rfl) ?_
    obtain ⟨x8, e9, hr⟩ := bnd_some hr
    refine awl_v (av_call (f78_runs e9).x ent24 rfl rfl) ?_
    refine awl_v (av_assign rfl) ?_
    refine awl_nil (athen_norm (awc_seq ?_))
    refine awc_region ?_
    refine awl_v (av_assign rfl) ?_
    refine awl_nil (athen_norm (awc_seq (awc_seq ?_)))
    refine awc_region ?_
    refine awl_v (av_move rfl) ?_
    refine awl_v (av_len_sl (t := Y2) rfl rfl und51 rfl) ?_
    refine awl_v (av_move rfl) ?_
    refine awl_nil (athen_norm (awc_block ?_))
    obtain ⟨o15, e16, hr⟩ := bnd_some hr
    refine awc_len (t := 28) rfl (fun hl => ?_)
    refine awc_range (S := (List (Int × Int))) (R := Unit) (List.length x8 : Int) (f43_b0 p1 x4 x6 x8) (fun p => match p with | (i10, s12) => (⟨[(1, .sl Y1 p1), (4, .nils), (5, .int .i64 0), (6, .sl (.slice (.int .i64)) x4), (7, .sl (.int .i64) x6), (8, .sl Y2 x8), (9, .osl 0), (29, .sl Y2 x8), (30, .int .i64 (List.length x8 : Int)), (31, .int .i64 i10)], [(0, .sl 31 Y3 s12)], 1⟩ : AS)) (fun o e st => match o with | .inr _ => False | .inl s12 => e = .exit 0 ∧ Wk X st ⟨[(4, .nils), (5, .int .i64 0), (9, .osl 0)], [(0, .sl 31 Y3 s12)], 1⟩) (len_ok hl) e16 (Wk.trans (wk_own (t := 9) 31 Y3 rfl) (wk_of hX [0] 4 rfl rfl ⟨⟨_, rfl, cv0⟩, ⟨_, rfl, cv0⟩, ⟨_, rfl, cv0⟩, ⟨_, rfl, cv0⟩, ⟨_, rfl, cv0⟩, ⟨_, rfl, cv0⟩, ⟨_, rfl, cv0⟩, ⟨_, rfl, cv0⟩, ⟨_, rfl, cv0⟩, ⟨_, rfl, cv0⟩, trivial⟩ ⟨cvo0, trivial⟩)) ?_ ?_
    · intro e st hx
      rcases o15 with s12 | _
      · obtain ⟨rfl, hw⟩ := hx
        refine ablock_here (athen_norm ((awc_wk hw) (awc_seq ?_)))
        refine awc_region ?_
        refine awl_v (av_move rfl) ?_
        refine awl_v (av_assign rfl) ?_
        refine awl_v (av_assign rfl) ?_
        have hr := Option.some.inj hr
        subst hr
        exact awl_nil (athen_norm (awc_ret (ret_q (l' := [(4, .sl Y3 s12), (5, .int .i64 0)]) (wk_of hX [] 4 rfl rfl ⟨⟨_, rfl, cv0⟩, ⟨_, rfl, cv0⟩, trivial⟩ trivial) rfl ⟨rfl, rfl, trivial⟩)))
      · exact hx.elim
    · rintro i10 s12 o ho
      refine awc_seq ?_
      refine awc_region ?_
      refine awl_v (av_lss rfl rfl) ?_
      refine awl_nil (athen_norm (awc_seq ?_))
      refine awc_cond (b := decide (i10 < (List.length x8 : Int))) rfl (fun hc17 => ?_) (fun hc17 => ?_)
      · obtain ⟨q, hr, rfl⟩ := rb_t hc17 ho
        refine awc_skip (athen_norm (awc_seq (awc_block (awc_seq ?_))))
        refine awc_region ?_
        obtain ⟨x18, e19, hr⟩ := bnd_some hr
        refine awl_v (av_ia_sl (t := Y2) (e := x18) und51 sz54 rfl rfl e19) ?_
        refine awl_v (av_load_rpN ts54 rfl rfl rfl) ?_
        refine awl_op (aop_alloc zero54 rfl ?_)
        refine awl_op (aop_store sz54 rfl rfl rfl rfl rfl rfl rfl ?_)
        refine awl_nil (athen_norm (awc_seq ?_))
        refine awc_region ?_
        refine awl_v (av_assign rfl) ?_
        refine awl_v (av_assign rfl) ?_
        refine awl_nil (athen_norm (awc_seq (awc_seq ?_)))
        refine awc_region ?_
        refine awl_v (av_move rfl) ?_
        refine awl_v (av_len_sl (t := Y2) rfl rfl und51 rfl) ?_
        refine awl_v (av_move rfl) ?_
        refine awl_nil (athen_norm (awc_block ?_))
        obtain ⟨o27, e28, hr⟩ := bnd_some hr
        refine awc_len (t := 8) rfl (fun hl => ?_)
        refine awc_range (S := Int × Int) (R := Unit) (List.length x8 : Int) (f43_b1 p1 x4 x6 x8 x18) (fun p => match p with | (i20, s21, s22) => (⟨[(1, .sl Y1 p1), (4, .nils), (5, .int .i64 0), (6, .sl (.slice (.int .i64)) x4), (7, .sl (.int .i64) x6), (8, .sl Y2 x8), (9, .osl 0), (11, .ptr 1 0), (12, .int .i64 s21), (13, .int .i64 s22), (29, .sl Y2 x8), (30, .int .i64 (List.length x8 : Int)), (31, .int .i64 i10), (35, .sl Y2 x8), (36, .int .i64 (List.length x8 : Int)), (37, .int .i64 i20)], [(0, .sl 31 Y3 s12), (1, .var 54 [.int .i64 x18.1, .int .i64 x18.2.1, .int .i64 x18.2.2])], 2⟩ : AS)) (fun o e st => match o with | .inr _ => False | .inl (s21, s22) => e = .exit 2 ∧ Wk X st ⟨[(1, .sl Y1 p1), (4, .nils), (5, .int .i64 0), (6, .sl (.slice (.int .i64)) x4), (7, .sl (.int .i64) x6), (8, .sl Y2 x8), (9, .osl 0), (11, .ptr 1 0), (12, .int .i64 s21), (29, .sl Y2 x8), (30, .int .i64 (List.length x8 : Int)), (31, .int .i64 i10)], [(0, .sl 31 Y3 s12), (1, .var 54 [.int .i64 x18.1, .int .i64 x18.2.1, .int .i64 x18.2.2])], 2⟩) (len_ok hl) e28 (wk_of hX [0, 1] 4 rfl rfl ⟨⟨_, rfl, cv0⟩, ⟨_, rfl, cv0⟩, ⟨_, rfl, cv0⟩, ⟨_, rfl, cv0⟩, ⟨_, rfl, cv0⟩, ⟨_, rfl, cv0⟩, ⟨_, rfl, cv0⟩, ⟨_, rfl, cv0⟩, ⟨_, rfl, cv0⟩, ⟨_, rfl, cv0⟩, ⟨_, rfl, cv0⟩, ⟨_, rfl, cv0⟩, ⟨_, rfl, cv0⟩, ⟨_, rfl, cv0⟩, ⟨_, rfl, cv0⟩, ⟨_, rfl, cv0⟩, trivial⟩ ⟨cvo0, cvo0, trivial⟩) ?_ ?_
        · intro e st hx
          rcases o27 with ⟨s21, s22⟩ | _
          · obtain ⟨rfl, hw⟩ := hx
            refine ablock_here (athen_norm ((awc_wk hw) ?_))
            refine awc_region ?_
            refine awl_v (av_move rfl) ?_
            refine awl_v (av_fa_ptr fa54_0 rfl rfl) ?_
            refine awl_v (av_load_ptr ts3 rfl rfl rfl) ?_
            refine awl_v (av_move rfl) ?_
            refine awl_v (av_build (qs := [(0, [.int .i64 x18.1]), (1, [.int .i64 s21])]) (cs := [.int .i64 x18.1, .int .i64 s21]) bt31 rfl rfl rfl) ?_
            refine awl_v (av_buildSlice (t := Y3) (qs := [(0, [.int .i64 x18.1, .int .i64 s21])]) (ys := [(x18.1, s21)]) bs25 rfl rfl rfl rfl rfl rfl rfl rfl) ?_
            obtain ⟨h29, hr⟩ := chk_some hr
            refine awl_op (aop_append rfl rfl app25 rfl rfl rfl h29 rfl ?_)
            refine awl_v (av_assign rfl) ?_
            refine awl_nil (ablock_norm (athen_norm ?_))
            refine awc_region ?_
            refine awl_v (av_add rfl rfl) ?_
            refine awl_v (av_move rfl) ?_
            have hr := Option.some.inj hr
            subst hr
            exact awl_nil ((wk_of hX [2] 4 rfl rfl ⟨⟨_, rfl, cv0⟩, ⟨_, rfl, cv0⟩, ⟨_, rfl, cv0⟩, ⟨_, rfl, cv0⟩, ⟨_, rfl, cv0⟩, ⟨_, rfl, cv0⟩, ⟨_, rfl, cv0⟩, ⟨_, rfl, cv0⟩, ⟨_, rfl, cv0⟩, ⟨_, rfl, cv0⟩, trivial⟩ ⟨cvo0, trivial⟩))
          · exact hx.elim
        · rintro i20 ⟨s21, s22⟩ o ho
          refine awc_seq ?_
          refine awc_region ?_
          refine awl_v (av_lss rfl rfl) ?_
          refine awl_nil (athen_norm (awc_seq ?_))
          refine awc_cond (b := decide (i20 < (List.length x8 : Int))) rfl (fun hc30 => ?_) (fun hc30 => ?_)
          · obtain ⟨q, hr, rfl⟩ := rb_t hc30 ho
            refine awc_skip (athen_norm ?_)
            obtain ⟨o33, e34, hr⟩ := bnd_some hr
            refine awc_join (S := Int × Int) (R := Unit) (fun s => match s with | (s31, s32) => (⟨[(1, .sl Y1 p1), (4, .nils), (5, .int .i64 0), (6, .sl (.slice (.int .i64)) x4), (7, .sl (.int .i64) x6), (8, .sl Y2 x8), (9, .osl 0), (11, .ptr 1 0), (12, .int .i64 s31), (13, .int .i64 s32), (29, .sl Y2 x8), (30, .int .i64 (List.length x8 : Int)), (31, .int .i64 i10), (35, .sl Y2 x8), (36, .int .i64 (List.length x8 : Int)), (37, .int .i64 i20)], [(0, .sl 31 Y3 s12), (1, .var 54 [.int .i64 x18.1, .int .i64 x18.2.1, .int .i64 x18.2.2])], 2⟩ : AS)) (fun _ _ _ => False) e34 (fun hr => ?_) ?_ ?_
            · refine awc_block (awc_seq ?_)
              refine awc_region ?_
              obtain ⟨x35, e36, hr⟩ := bnd_some hr
              refine awl_v (av_ia_sl (t := Y2) (e := x35) und51 sz54 rfl rfl e36) ?_
              refine awl_v (av_load_rpN ts54 rfl rfl rfl) ?_
              refine awl_op (aop_alloc zero54 rfl ?_)
              refine awl_op (aop_store sz54 rfl rfl rfl rfl rfl rfl rfl ?_)
              refine awl_nil (athen_norm (awc_seq ?_))
              obtain ⟨x37, e38, hr⟩ := bnd_some hr
              obtain ⟨h39, hr⟩ := chk_some hr
              refine awc_text [1, 4, 5, 6, 7, 8, 9, 11, 12, 13, 29, 30, 31, 35, 36, 37, 15] [(true, .sl Y1 p1), (true, .sl (.slice (.int .i64)) x4), (true, .ptr 2 1), (true, .int .i64 x35.2.1), (true, .ptr 1 1), (true, .int .i64 x18.2.1), (true, .bool x37), (true, .bool x37), (x37, .ptr 2 2), (x37, .int .i64 x35.2.2), (x37, .bool (decide (x35.2.2 < 0))), (x37, .bool (decide (x35.2.2 < 0))), (x37 && (!(decide (x35.2.2 < 0))), .sl Y1 p1), (x37 && (!(decide (x35.2.2 < 0))), .sl (.slice (.int .i64)) x4), (x37 && (!(decide (x35.2.2 < 0))), .ptr 2 2), (x37 && (!(decide (x35.2.2 < 0))), .int .i64 x35.2.2), (x37 && (!(decide (x35.2.2 < 0))), .ptr 1 1), (x37 && (!(decide (x35.2.2 < 0))), .int .i64 x18.2.1), (x37 && (!(decide (x35.2.2 < 0))), .bool ((f58 p1 x4 x35.2.2 x18.2.1).getD default)), (x37 && (!(decide (x35.2.2 < 0))), .bool (!((f58 p1 x4 x35.2.2 x18.2.1).getD default))), (x37, .bool ((decide (x35.2.2 < 0)) || (!((f58 p1 x4 x35.2.2 x18.2.1).getD default)))), (true, .bool (x37 && ((decide (x35.2.2 < 0)) || (!((f58 p1 x4 x35.2.2 x18.2.1).getD default))))), (true, .bool (x37 && ((decide (x35.2.2 < 0)) || (!((f58 p1 x4 x35.2.2 x18.2.1).getD default)))))] [[], [], [], [2], [], [4], [0, 1, 3, 5], [6], [7], [8, 7], [9, 7], [10, 7], [11], [11], [11], [14, 11], [11], [16, 11], [12, 13, 15, 17, 11], [18, 11], [19, 11, 7], [20, 7], [21]] [22] rfl rfl rfl rfl rfl ⟨?_, ?_, ?_, ?_, ?_, ?_, ?_, ?_, ?_, ?_, ?_, ?_, ?_, ?_, ?_, ?_, ?_, ?_, ?_, ?_, ?_, ?_, ?_, trivial⟩ (allT_of ⟨rfl, trivial⟩) ?_
              · exact ob_v rfl (fun hg => allT_of trivial) (fun hg => av_move rfl)
              · exact ob_v rfl (fun hg => allT_of trivial) (fun hg => av_move rfl)
              · exact ob_v rfl (fun hg => allT_of trivial) (fun hg => av_fa_ptr fa54_1 rfl rfl)
              · exact ob_v rfl (fun hg => allT_of ⟨rfl, trivial⟩) (fun hg => av_load_ptr ts3 rfl rfl rfl)
              · exact ob_v rfl (fun hg => allT_of trivial) (fun hg => av_fa_ptr fa54_1 rfl rfl)
              · exact ob_v rfl (fun hg => allT_of ⟨rfl, trivial⟩) (fun hg => av_load_ptr ts3 rfl rfl rfl)
              · exact ob_v rfl (fun hg => allT_of ⟨rfl, rfl, rfl, rfl, trivial⟩) (fun hg => av_call (f58_runs e38).x ent25 rfl rfl)
              · exact ob_v rfl (fun hg => allT_of ⟨rfl, trivial⟩) (fun hg => av_move rfl)
              · exact ob_v ⟨rfl, rfl, rfl, _, rfl, rfl⟩ (fun hg => allT_of ⟨rfl, trivial⟩) (fun hg => av_fa_ptr fa54_2 rfl rfl)
              · exact ob_v ⟨rfl, rfl, rfl, _, rfl, rfl⟩ (fun hg => allT_of ⟨hg, rfl, trivial⟩) (fun hg => av_load_ptr ts3 rfl rfl rfl)
              · exact ob_v ⟨rfl, rfl, rfl, _, rfl, rfl⟩ (fun hg => allT_of ⟨hg, rfl, trivial⟩) (fun hg => av_lss rfl rfl)
              · exact ob_v ⟨rfl, rfl, rfl, _, rfl, rfl⟩ (fun hg => allT_of ⟨hg, rfl, trivial⟩) (fun hg => av_move rfl)
              · exact ob_v ⟨rfl, rfl, rfl, _, rfl, rfl⟩ (fun hg => allT_of ⟨(and_l hg), trivial⟩) (fun hg => av_move rfl)
              · exact ob_v ⟨rfl, rfl, rfl, _, rfl, rfl⟩ (fun hg => allT_of ⟨(and_l hg), trivial⟩) (fun hg => av_move rfl)
              · exact ob_v ⟨rfl, rfl, rfl, _, rfl, rfl⟩ (fun hg => allT_of ⟨(and_l hg), trivial⟩) (fun hg => av_fa_ptr fa54_2 rfl rfl)
              · exact ob_v ⟨rfl, rfl, rfl, _, rfl, rfl⟩ (fun hg => allT_of ⟨hg, (and_l hg), trivial⟩) (fun hg => av_load_ptr ts3 rfl rfl rfl)
              · exact ob_v ⟨rfl, rfl, rfl, _, rfl, rfl⟩ (fun hg => allT_of ⟨(and_l hg), trivial⟩) (fun hg => av_fa_ptr fa54_1 rfl rfl)
              · exact ob_v ⟨rfl, rfl, rfl, _, rfl, rfl⟩ (fun hg => allT_of ⟨hg, (and_l hg), trivial⟩) (fun hg => av_load_ptr ts3 rfl rfl rfl)
              · exact ob_v ⟨rfl, rfl, rfl, _, rfl, rfl⟩ (fun hg => allT_of ⟨hg, hg, hg, hg, (and_l hg), trivial⟩) (fun hg => av_call (f58_runs (get_g h39 hg)).x ent25 rfl rfl)
              · exact ob_v ⟨rfl, rfl, rfl, _, rfl, rfl⟩ (fun hg => allT_of ⟨hg, (and_l hg), trivial⟩) (fun hg => av_not rfl)
              · exact ob_pick (b := false) (p := decide (x35.2.2 < 0)) (q := !((f58 p1 x4 x35.2.2 x18.2.1).getD default)) ⟨rfl, rfl, rfl, _, rfl, rfl⟩ rfl rfl (fun hg => allT_of ⟨hg, rfl, trivial⟩) rfl rfl rfl rfl rfl
              · exact ob_pick (b := true) (p := x37) (q := (decide (x35.2.2 < 0)) || (!((f58 p1 x4 x35.2.2 x18.2.1).getD default))) rfl rfl rfl (fun hg => allT_of ⟨rfl, trivial⟩) rfl rfl rfl rfl rfl
              · exact ob_v rfl (fun hg => allT_of ⟨rfl, trivial⟩) (fun hg => av_assign rfl)
              refine athen_norm (awc_seq ?_)
              obtain ⟨h40, hr⟩ := chk_some hr
              refine awc_text [1, 4, 5, 6, 7, 8, 9, 11, 12, 13, 29, 30, 31, 35, 36, 37, 15, 16] [(true, .bool (x37 && ((decide (x35.2.2 < 0)) || (!((f58 p1 x4 x35.2.2 x18.2.1).getD default))))), (true, .bool (x37 && ((decide (x35.2.2 < 0)) || (!((f58 p1 x4 x35.2.2 x18.2.1).getD default))))), (x37 && ((decide (x35.2.2 < 0)) || (!((f58 p1 x4 x35.2.2 x18.2.1).getD default))), .sl (.int .i64) x6), (x37 && ((decide (x35.2.2 < 0)) || (!((f58 p1 x4 x35.2.2 x18.2.1).getD default))), .ptr 2 1), (x37 && ((decide (x35.2.2 < 0)) || (!((f58 p1 x4 x35.2.2 x18.2.1).getD default))), .int .i64 x35.2.1), (x37 && ((decide (x35.2.2 < 0)) || (!((f58 p1 x4 x35.2.2 x18.2.1).getD default))), .rp [.int .i64 ((ix x6 x35.2.1).getD default)]), (x37 && ((decide (x35.2.2 < 0)) || (!((f58 p1 x4 x35.2.2 x18.2.1).getD default))), .int .i64 ((ix x6 x35.2.1).getD default)), (x37 && ((decide (x35.2.2 < 0)) || (!((f58 p1 x4 x35.2.2 x18.2.1).getD default))), .int .i64 s22), (x37 && ((decide (x35.2.2 < 0)) || (!((f58 p1 x4 x35.2.2 x18.2.1).getD default))), .bool (decide (s22 ≤ ((ix x6 x35.2.1).getD default)))), (true, .bool ((x37 && ((decide (x35.2.2 < 0)) || (!((f58 p1 x4 x35.2.2 x18.2.1).getD default)))) && (decide (s22 ≤ ((ix x6 x35.2.1).getD default)))))] [[], [0], [1], [1], [3, 1], [2, 4, 1], [5, 1], [1], [6, 7, 1], [8, 1]] [9] rfl rfl rfl rfl rfl ⟨?_, ?_, ?_, ?_, ?_, ?_, ?_, ?_, ?_, ?_, trivial⟩ (allT_of ⟨rfl, trivial⟩) ?_
              · exact ob_v rfl (fun hg => allT_of trivial) (fun hg => av_move rfl)
              · exact ob_v rfl (fun hg => allT_of ⟨rfl, trivial⟩) (fun hg => av_move rfl)
              · exact ob_v ⟨rfl, rfl, rfl, _, rfl, rfl⟩ (fun hg => allT_of ⟨rfl, trivial⟩) (fun hg => av_move rfl)
              · exact ob_v ⟨rfl, rfl, rfl, _, rfl, rfl⟩ (fun hg => allT_of ⟨rfl, trivial⟩) (fun hg => av_fa_ptr fa54_1 rfl rfl)
              · exact ob_v ⟨rfl, rfl, rfl, _, rfl, rfl⟩ (fun hg => allT_of ⟨hg, rfl, trivial⟩) (fun hg => av_load_ptr ts3 rfl rfl rfl)
              · exact ob_v ⟨rfl, rfl, rfl, _, rfl, rfl⟩ (fun hg => allT_of ⟨hg, hg, rfl, trivial⟩) (fun hg => av_ia_sl (t := (.int .i64)) (e := ((ix x6 x35.2.1).getD default)) und47 sz3 rfl rfl (get_g h40 hg))
              · exact ob_v ⟨rfl, rfl, rfl, _, rfl, rfl⟩ (fun hg => allT_of ⟨hg, rfl, trivial⟩) (fun hg => av_load_rp ts3 rfl)
              · exact ob_v ⟨rfl, rfl, rfl, _, rfl, rfl⟩ (fun hg => allT_of ⟨rfl, trivial⟩) (fun hg => av_move rfl)
              · exact ob_v ⟨rfl, rfl, rfl, _, rfl, rfl⟩ (fun hg => allT_of ⟨hg, hg, rfl, trivial⟩) (fun hg => av_geq rfl rfl)
              · exact ob_pick (b := true) (p := x37 && ((decide (x35.2.2 < 0)) || (!((f58 p1 x4 x35.2.2 x18.2.1).getD default)))) (q := decide (s22 ≤ ((ix x6 x35.2.1).getD default))) rfl rfl rfl (fun hg => allT_of ⟨rfl, trivial⟩) rfl rfl rfl rfl rfl
              refine athen_norm ?_
              refine awc_cond (b := (x37 && ((decide (x35.2.2 < 0)) || (!((f58 p1 x4 x35.2.2 x18.2.1).getD default)))) && (decide (s22 ≤ ((ix x6 x35.2.1).getD default)))) rfl (fun hc41 => ?_) (fun hc41 => ?_)
              · have hr := if_t hc41 hr
                obtain ⟨x42, e43, hr⟩ := bnd_some hr
                refine awc_draw mixed [1, 4, 5, 6, 7, 8, 9, 11, 29, 30, 31, 35, 36, 37, 15] [(true, .ptr 2 0), (true, .int .i64 x35.1), (true, .sl (.int .i64) x6), (true, .ptr 2 1), (true, .int .i64 x35.2.1), (true, .rp [.int .i64 x42]), (true, .int .i64 x42), (true, .int .i64 x35.1), (true, .int .i64 x42)] [[], [0], [], [], [3], [2, 4], [5], [1], [6]] [7, 8] rfl rfl rfl rfl rfl ⟨?_, ?_, ?_, ?_, ?_, ?_, ?_, ?_, ?_, trivial⟩ (allT_of ⟨rfl, rfl, trivial⟩) ?_
                · exact ob_v rfl (fun hg => allT_of trivial) (fun hg => av_fa_ptr fa54_0 rfl rfl)
                · exact ob_v rfl (fun hg => allT_of ⟨rfl, trivial⟩) (fun hg => av_load_ptr ts3 rfl rfl rfl)
                · exact ob_v rfl (fun hg => allT_of trivial) (fun hg => av_move rfl)
                · exact ob_v rfl (fun hg => allT_of trivial) (fun hg => av_fa_ptr fa54_1 rfl rfl)
                · exact ob_v rfl (fun hg => allT_of ⟨rfl, trivial⟩) (fun hg => av_load_ptr ts3 rfl rfl rfl)
                · exact ob_v rfl (fun hg => allT_of ⟨rfl, rfl, trivial⟩) (fun hg => av_ia_sl (t := (.int .i64)) (e := x42) und47 sz3 rfl rfl e43)
                · exact ob_v rfl (fun hg => allT_of ⟨rfl, trivial⟩) (fun hg => av_load_rp ts3 rfl)
                · exact ob_v rfl (fun hg => allT_of ⟨rfl, trivial⟩) (fun hg => av_assign rfl)
                · exact ob_v rfl (fun hg => allT_of ⟨rfl, trivial⟩) (fun hg => av_assign rfl)
                have hr := Option.some.inj hr
                subst hr
                exact ablock_norm ((wk_of hX [0, 1] 4 rfl rfl ⟨⟨_, rfl, cv0⟩, ⟨_, rfl, cv0⟩, ⟨_, rfl, cv0⟩, ⟨_, rfl, cv0⟩, ⟨_, rfl, cv0⟩, ⟨_, rfl, cv0⟩, ⟨_, rfl, cv0⟩, ⟨_, rfl, cv0⟩, ⟨_, rfl, cv0⟩, ⟨_, rfl, cv0⟩, ⟨_, rfl, cv0⟩, ⟨_, rfl, cv0⟩, ⟨_, rfl, cv0⟩, ⟨_, rfl, cv0⟩, ⟨_, rfl, cv0⟩, ⟨_, rfl, cv0⟩, trivial⟩ ⟨cvo0, cvo0, trivial⟩))
              · have hr := if_f hc41 hr
                have hr := Option.some.inj hr
                subst hr
                exact awc_skip (ablock_norm ((wk_of hX [0, 1] 4 rfl rfl ⟨⟨_, rfl, cv0⟩, ⟨_, rfl, cv0⟩, ⟨_, rfl, cv0⟩, ⟨_, rfl, cv0⟩, ⟨_, rfl, cv0⟩, ⟨_, rfl, cv0⟩, ⟨_, rfl, cv0⟩, ⟨_, rfl, cv0⟩, ⟨_, rfl, cv0⟩, ⟨_, rfl, cv0⟩, ⟨_, rfl, cv0⟩, ⟨_, rfl, cv0⟩, ⟨_, rfl, cv0⟩, ⟨_, rfl, cv0⟩, ⟨_, rfl, cv0⟩, ⟨_, rfl, cv0⟩, trivial⟩ ⟨cvo0, cvo0, trivial⟩)))
            · rintro ⟨s31, s32⟩ rfl
              refine awc_region ?_
              refine awl_v (av_add rfl rfl) ?_
              refine awl_v (av_move rfl) ?_
              have hr := Option.some.inj hr
              subst hr
              exact awl_nil ((wk_of hX [0, 1] 4 rfl rfl ⟨⟨_, rfl, cv0⟩, ⟨_, rfl, cv0⟩, ⟨_, rfl, cv0⟩, ⟨_, rfl, cv0⟩, ⟨_, rfl, cv0⟩, ⟨_, rfl, cv0⟩, ⟨_, rfl, cv0⟩, ⟨_, rfl, cv0⟩, ⟨_, rfl, cv0⟩, ⟨_, rfl, cv0⟩, ⟨_, rfl, cv0⟩, ⟨_, rfl, cv0⟩, ⟨_, rfl, cv0⟩, ⟨_, rfl, cv0⟩, ⟨_, rfl, cv0⟩, ⟨_, rfl, cv0⟩, trivial⟩ ⟨cvo0, cvo0, trivial⟩))
            · exact fun r h e st hne hx => hx.elim
          · obtain rfl := rb_f hc30 ho
            exact awc_exit (athen_exit (⟨rfl, (wk_of hX [0, 1] 4 rfl rfl ⟨⟨_, rfl, cv0⟩, ⟨_, rfl, cv0⟩, ⟨_, rfl, cv0⟩, ⟨_, rfl, cv0⟩, ⟨_, rfl, cv0⟩, ⟨_, rfl, cv0⟩, ⟨_, rfl, cv0⟩, ⟨_, rfl, cv0⟩, ⟨_, rfl, cv0⟩, ⟨_, rfl, cv0⟩, ⟨_, rfl, cv0⟩, ⟨_, rfl, cv0⟩, trivial⟩ ⟨cvo0, cvo0, trivial⟩)⟩))
      · obtain rfl := rb_f hc17 ho
        exact awc_exit (athen_exit (⟨rfl, (wk_of hX [0] 4 rfl rfl ⟨⟨_, rfl, cv0⟩, ⟨_, rfl, cv0⟩, ⟨_, rfl, cv0⟩, trivial⟩ ⟨cvo0, trivial⟩)⟩))
theorem f50_runs {p0 : Int × Int × Int × Int × Str} {r : Bool} (hr : f50 p0 = some r) : RunsP Tryz.prog 61 [.agg [.int .i64 p0.1, .int .i64 p0.2.1, .int .i64 p0.2.2.1, .int .i64 p0.2.2.2.1, .str p0.2.2.2.2]] [.bool r] := by
  refine runs_w Tryz.func61 Tryz.ntmps61 rfl (rs := [.tmp 2]) rfl rfl fun w0 X hX => ?_
  refine awc_seq ?_
  refine awc_region ?_
  refine awl_op (aop_box rfl rfl ?_)
  refine awl_v (av_assign rfl) ?_
  refine awl_nil (athen_norm (awc_seq ?_))
  refine awc_draw mixed [1, 2] [(true, .ptr 0 1), (true, .int .i64 p0.2.1), (true, .bool (decide (p0.2.1 = 2))), (true, .bool (decide (p0.2.1 = 2))), (!(decide (p0.2.1 = 2)), .ptr 0 1), (!(decide (p0.2.1 = 2)), .int .i64 p0.2.1), (!(decide (p0.2.1 = 2)), .bool (decide (p0.2.1 = 3))), (true, .bool ((decide (p0.2.1 = 2)) || (decide (p0.2.1 = 3)))), (true, .ptr 0 1), (true, .int .i64 p0.2.1), (true, .bool (decide (p0.2.1 = 4))), (true, .bool (decide (p0.2.1 = 4))), (!(decide (p0.2.1 = 4)), .ptr 0 1), (!(decide (p0.2.1 = 4)), .int .i64 p0.2.1), (!(decide (p0.2.1 = 4)), .bool (decide (p0.2.1 = 5))), (true, .bool ((decide (p0.2.1 = 4)) || (decide (p0.2.1 = 5)))), (true, .bool ((decide (p0.2.1 = 2)) || (decide (p0.2.1 = 3)))), (true, .bool ((decide (p0.2.1 = 4)) || (decide (p0.2.1 = 5))))] [[], [0], [1], [2], [3], [4, 3], [5, 3], [6, 3], [], [8], [9], [10], [11], [12, 11], [13, 11], [14, 11], [7], [15]] [16, 17] rfl rfl rfl rfl rfl ⟨?_, ?_, ?_, ?_, ?_, ?_, ?_, ?_, ?_, ?_, ?_, ?_, ?_, ?_, ?_, ?_, ?_, ?_, trivial⟩ (allT_of ⟨rfl, rfl, trivial⟩) ?_
  · exact ob_v rfl (fun hg => allT_of trivial) (fun hg => av_fa_ptr fa39_1 rfl rfl)
  · exact ob_v rfl (fun hg => allT_of ⟨rfl, trivial⟩) (fun hg => av_load_ptr ts3 rfl rfl rfl)
  · exact ob_v rfl (fun hg => allT_of ⟨rfl, trivial⟩) (fun hg => av_eql rfl rfl)
  · exact ob_v rfl (fun hg => allT_of ⟨rfl, trivial⟩) (fun hg => av_move rfl)
  · exact ob_v ⟨rfl, rfl, rfl, _, rfl, rfl⟩ (fun hg => allT_of ⟨rfl, trivial⟩) (fun hg => av_fa_ptr fa39_1 rfl rfl)
  · exact ob_v ⟨rfl, rfl, rfl, _, rfl, rfl⟩ (fun hg => allT_of ⟨hg, rfl, trivial⟩) (fun hg => av_load_ptr ts3 rfl rfl rfl)
  · exact ob_v ⟨rfl, rfl, rfl, _, rfl, rfl⟩ (fun hg => allT_of ⟨hg, rfl, trivial⟩) (fun hg => av_eql rfl rfl)
  · exact ob_pick (b := false) (p := decide (p0.2.1 = 2)) (q := decide (p0.2.1 = 3)) rfl rfl rfl (fun hg => allT_of ⟨rfl, trivial⟩) rfl rfl rfl rfl rfl
  · exact ob_v rfl (fun hg => allT_of trivial) (fun hg => av_fa_ptr fa39_1 rfl rfl)
  · exact ob_v rfl (fun hg => allT_of ⟨rfl, trivial⟩) (fun hg => av_load_ptr ts3 rfl rfl rfl)
  · exact ob_v rfl (fun hg => allT_of ⟨rfl, trivial⟩) (fun hg => av_eql rfl rfl)
  · exact ob_v rfl (fun hg => allT_of ⟨rfl, trivial⟩) (fun hg => av_move rfl)
  · exact ob_v ⟨rfl, rfl, rfl, _, rfl, rfl⟩ (fun hg => allT_of ⟨rfl, trivial⟩) (fun hg => av_fa_ptr fa39_1 rfl rfl)
  · exact ob_v ⟨rfl, rfl, rfl, _, rfl, rfl⟩ (fun hg => allT_of ⟨hg, rfl, trivial⟩) (fun hg => av_load_ptr ts3 rfl rfl rfl)
  · exact ob_v ⟨rfl, rfl, rfl, _, rfl, rfl⟩ (fun hg => allT_of ⟨hg, rfl, trivial⟩) (fun hg => av_eql rfl rfl)
  · exact ob_pick (b := false) (p := decide (p0.2.1 = 4)) (q := decide (p0.2.1 = 5)) rfl rfl rfl (fun hg => allT_of ⟨rfl, trivial⟩) rfl rfl rfl rfl rfl
  · exact ob_v rfl (fun hg => allT_of ⟨rfl, trivial⟩) (fun hg => av_assign rfl)
  · exact ob_v rfl (fun hg => allT_of ⟨rfl, trivial⟩) (fun hg => av_assign rfl)
  refine athen_norm (awc_seq ?_)
  refine awc_text [1, 3, 4] [(true, .ptr 0 1), (true, .int .i64 p0.2.1), (true, .bool (decide (1 ≤ p0.2.1))), (true, .bool (decide (1 ≤ p0.2.1))), (decide (1 ≤ p0.2.1), .ptr 0 1), (decide (1 ≤ p0.2.1), .int .i64 p0.2.1), (decide (1 ≤ p0.2.1), .bool (decide (p0.2.1 ≤ 5))), (true, .bool ((decide (1 ≤ p0.2.1)) && (decide (p0.2.1 ≤ 5)))), (true, .bool ((decide (1 ≤ p0.2.1)) && (decide (p0.2.1 ≤ 5)))), ((decide (1 ≤ p0.2.1)) && (decide (p0.2.1 ≤ 5)), .bool ((decide (p0.2.1 = 2)) || (decide (p0.2.1 = 3)))), ((decide (1 ≤ p0.2.1)) && (decide (p0.2.1 ≤ 5)), .bool ((decide (p0.2.1 = 2)) || (decide (p0.2.1 = 3)))), (((decide (1 ≤ p0.2.1)) && (decide (p0.2.1 ≤ 5))) && (!((decide (p0.2.1 = 2)) || (decide (p0.2.1 = 3)))), .ptr 0 2), (((decide (1 ≤ p0.2.1)) && (decide (p0.2.1 ≤ 5))) && (!((decide (p0.2.1 = 2)) || (decide (p0.2.1 = 3)))), .int .i64 p0.2.2.1), (((decide (1 ≤ p0.2.1)) && (decide (p0.2.1 ≤ 5))) && (!((decide (p0.2.1 = 2)) || (decide (p0.2.1 = 3)))), .bool (decide (p0.2.2.1 = 0))), ((decide (1 ≤ p0.2.1)) && (decide (p0.2.1 ≤ 5)), .bool (((decide (p0.2.1 = 2)) || (decide (p0.2.1 = 3))) || (decide (p0.2.2.1 = 0)))), (true, .bool (((decide (1 ≤ p0.2.1)) && (decide (p0.2.1 ≤ 5))) && (((decide (p0.2.1 = 2)) || (decide (p0.2.1 = 3))) || (decide (p0.2.2.1 = 0))))), (true, .bool (((decide (1 ≤ p0.2.1)) && (decide (p0.2.1 ≤ 5))) && (((decide (p0.2.1 = 2)) || (decide (p0.2.1 = 3))) || (decide (p0.2.2.1 = 0))))), (((decide (1 ≤ p0.2.1)) && (decide (p0.2.1 ≤ 5))) && (((decide (p0.2.1 = 2)) || (decide (p0.2.1 = 3))) || (decide (p0.2.2.1 = 0))), .bool ((decide (p0.2.1 = 4)) || (decide (p0.2.1 = 5)))), (((decide (1 ≤ p0.2.1)) && (decide (p0.2.1 ≤ 5))) && (((decide (p0.2.1 = 2)) || (decide (p0.2.1 = 3))) || (decide (p0.2.2.1 = 0))), .bool ((decide (p0.2.1 = 4)) || (decide (p0.2.1 = 5)))), ((((decide (1 ≤ p0.2.1)) && (decide (p0.2.1 ≤ 5))) && (((decide (p0.2.1 = 2)) || (decide (p0.2.1 = 3))) || (decide (p0.2.2.1 = 0)))) && (!((decide (p0.2.1 = 4)) || (decide (p0.2.1 = 5)))), .ptr 0 3), ((((decide (1 ≤ p0.2.1)) && (decide (p0.2.1 ≤ 5))) && (((decide (p0.2.1 = 2)) || (decide (p0.2.1 = 3))) || (decide (p0.2.2.1 = 0)))) && (!((decide (p0.2.1 = 4)) || (decide (p0.2.1 = 5)))), .int .i64 p0.2.2.2.1), ((((decide (1 ≤ p0.2.1)) && (decide (p0.2.1 ≤ 5))) && (((decide (p0.2.1 = 2)) || (decide (p0.2.1 = 3))) || (decide (p0.2.2.1 = 0)))) && (!((decide (p0.2.1 = 4)) || (decide (p0.2.1 = 5)))), .bool (decide (p0.2.2.2.1 = 0))), (((decide (1 ≤ p0.2.1)) && (decide (p0.2.1 ≤ 5))) && (((decide (p0.2.1 = 2)) || (decide (p0.2.1 = 3))) || (decide (p0.2.2.1 = 0))), .bool (((decide (p0.2.1 = 4)) || (decide (p0.2.1 = 5))) || (decide (p0.2.2.2.1 = 0)))), (true, .bool ((((decide (1 ≤ p0.2.1)) && (decide (p0.2.1 ≤ 5))) && (((decide (p0.2.1 = 2)) || (decide (p0.2.1 = 3))) || (decide (p0.2.2.1 = 0)))) && (((decide (p0.2.1 = 4)) || (decide (p0.2.1 = 5))) || (decide (p0.2.2.2.1 = 0))))), (true, .bool ((((decide (1 ≤ p0.2.1)) && (decide (p0.2.1 ≤ 5))) && (((decide (p0.2.1 = 2)) || (decide (p0.2.1 = 3))) || (decide (p0.2.2.1 = 0)))) && (((decide (p0.2.1 = 4)) || (decide (p0.2.1 = 5))) || (decide (p0.2.2.2.1 = 0))))), ((((decide (1 ≤ p0.2.1)) && (decide (p0.2.1 ≤ 5))) && (((decide (p0.2.1 = 2)) || (decide (p0.2.1 = 3))) || (decide (p0.2.2.1 = 0)))) && (((decide (p0.2.1 = 4)) || (decide (p0.2.1 = 5))) || (decide (p0.2.2.2.1 = 0))), .ptr 0 4), ((((decide (1 ≤ p0.2.1)) && (decide (p0.2.1 ≤ 5))) && (((decide (p0.2.1 = 2)) || (decide (p0.2.1 = 3))) || (decide (p0.2.2.1 = 0)))) && (((decide (p0.2.1 = 4)) || (decide (p0.2.1 = 5))) || (decide (p0.2.2.2.1 = 0))), .str p0.2.2.2.2), ((((decide (1 ≤ p0.2.1)) && (decide (p0.2.1 ≤ 5))) && (((decide (p0.2.1 = 2)) || (decide (p0.2.1 = 3))) || (decide (p0.2.2.1 = 0)))) && (((decide (p0.2.1 = 4)) || (decide (p0.2.1 = 5))) || (decide (p0.2.2.2.1 = 0))), .int .i64 (List.length p0.2.2.2.2 : Int)), ((((decide (1 ≤ p0.2.1)) && (decide (p0.2.1 ≤ 5))) && (((decide (p0.2.1 = 2)) || (decide (p0.2.1 = 3))) || (decide (p0.2.2.1 = 0)))) && (((decide (p0.2.1 = 4)) || (decide (p0.2.1 = 5))) || (decide (p0.2.2.2.1 = 0))), .bool (decide ((List.length p0.2.2.2.2 : Int) ≤ 32))), (true, .bool (((((decide (1 ≤ p0.2.1)) && (decide (p0.2.1 ≤ 5))) && (((decide (p0.2.1 = 2)) || (decide (p0.2.1 = 3))) || (decide (p0.2.2.1 = 0)))) && (((decide (p0.2.1 = 4)) || (decide (p0.2.1 = 5))) || (decide (p0.2.2.2.1 = 0)))) && (decide ((List.length p0.2.2.2.2 : Int) ≤ 32)))), (true, .bool (((((decide (1 ≤ p0.2.1)) && (decide (p0.2.1 ≤ 5))) && (((decide (p0.2.1 = 2)) || (decide (p0.2.1 = 3))) || (decide (p0.2.2.1 = 0)))) && (((decide (p0.2.1 = 4)) || (decide (p0.2.1 = 5))) || (decide (p0.2.2.2.1 = 0)))) && (decide ((List.length p0.2.2.2.2 : Int) ≤ 32))))] [[], [0], [1], [2], [3], [4, 3], [5, 3], [6, 3], [7], [8], [9, 8], [10], [11, 10], [12, 10], [13, 10, 8], [14, 8], [15], [16], [17, 16], [18], [19, 18], [20, 18], [21, 18, 16], [22, 16], [23], [24], [25, 24], [26, 24], [27, 24], [28, 24], [29]] [30] rfl rfl rfl rfl rfl ⟨?_, ?_, ?_, ?_, ?_, ?_, ?_, ?_, ?_, ?_, ?_, ?_, ?_, ?_, ?_, ?_, ?_, ?_, ?_, ?_, ?_, ?_, ?_, ?_, ?_, ?_, ?_, ?_, ?_, ?_, ?_, trivial⟩ (allT_of ⟨rfl, trivial⟩) ?_
  · exact ob_v rfl (fun hg => allT_of trivial) (fun hg => av_fa_ptr fa39_1 rfl rfl)
  · exact ob_v rfl (fun hg => allT_of ⟨rfl, trivial⟩) (fun hg => av_load_ptr ts3 rfl rfl rfl)
  · exact ob_v rfl (fun hg => allT_of ⟨rfl, trivial⟩) (fun hg => av_geq rfl rfl)
  · exact ob_v rfl (fun hg => allT_of ⟨rfl, trivial⟩) (fun hg => av_move rfl)
  · exact ob_v ⟨rfl, rfl, rfl, _, rfl, rfl⟩ (fun hg => allT_of ⟨rfl, trivial⟩) (fun hg => av_fa_ptr fa39_1 rfl rfl)
  · exact ob_v ⟨rfl, rfl, rfl, _, rfl, rfl⟩ (fun hg => allT_of ⟨hg, rfl, trivial⟩) (fun hg => av_load_ptr ts3 rfl rfl rfl)
  · exact ob_v ⟨rfl, rfl, rfl, _, rfl, rfl⟩ (fun hg => allT_of ⟨hg, rfl, trivial⟩) (fun hg => av_leq rfl rfl)
  · exact ob_pick (b := true) (p := decide (1 ≤ p0.2.1)) (q := decide (p0.2.1 ≤ 5)) rfl rfl rfl (fun hg => allT_of ⟨rfl, trivial⟩) rfl rfl rfl rfl rfl
  · exact ob_v rfl (fun hg => allT_of ⟨rfl, trivial⟩) (fun hg => av_move rfl)
  · exact ob_v ⟨rfl, rfl, rfl, _, rfl, rfl⟩ (fun hg => allT_of ⟨rfl, trivial⟩) (fun hg => av_move rfl)
  · exact ob_v ⟨rfl, rfl, rfl, _, rfl, rfl⟩ (fun hg => allT_of ⟨hg, rfl, trivial⟩) (fun hg => av_move rfl)
  · exact ob_v ⟨rfl, rfl, rfl, _, rfl, rfl⟩ (fun hg => allT_of ⟨(and_l hg), trivial⟩) (fun hg => av_fa_ptr fa39_2 rfl rfl)
  · exact ob_v ⟨rfl, rfl, rfl, _, rfl, rfl⟩ (fun hg => allT_of ⟨hg, (and_l hg), trivial⟩) (fun hg => av_load_ptr ts3 rfl rfl rfl)
  · exact ob_v ⟨rfl, rfl, rfl, _, rfl, rfl⟩ (fun hg => allT_of ⟨hg, (and_l hg), trivial⟩) (fun hg => av_eql rfl rfl)
  · exact ob_pick (b := false) (p := (decide (p0.2.1 = 2)) || (decide (p0.2.1 = 3))) (q := decide (p0.2.2.1 = 0)) ⟨rfl, rfl, rfl, _, rfl, rfl⟩ rfl rfl (fun hg => allT_of ⟨hg, rfl, trivial⟩) rfl rfl rfl rfl rfl
  · exact ob_pick (b := true) (p := (decide (1 ≤ p0.2.1)) && (decide (p0.2.1 ≤ 5))) (q := ((decide (p0.2.1 = 2)) || (decide (p0.2.1 = 3))) || (decide (p0.2.2.1 = 0))) rfl rfl rfl (fun hg => allT_of ⟨rfl, trivial⟩) rfl rfl rfl rfl rfl
  · exact ob_v rfl (fun hg => allT_of ⟨rfl, trivial⟩) (fun hg => av_move rfl)
  · exact ob_v ⟨rfl, rfl, rfl, _, rfl, rfl⟩ (fun hg => allT_of ⟨rfl, trivial⟩) (fun hg => av_move rfl)
  · exact ob_v ⟨rfl, rfl, rfl, _, rfl, rfl⟩ (fun hg => allT_of ⟨hg, rfl, trivial⟩) (fun hg => av_move rfl)
  · exact ob_v ⟨rfl, rfl, rfl, _, rfl, rfl⟩ (fun hg => allT_of ⟨(and_l hg), trivial⟩) (fun hg => av_fa_ptr fa39_3 rfl rfl)
  · exact ob_v ⟨rfl, rfl, rfl, _, rfl, rfl⟩ (fun hg => allT_of ⟨hg, (and_l hg), trivial⟩) (fun hg => av_load_ptr ts3 rfl rfl rfl)
  · exact ob_v ⟨rfl, rfl, rfl, _, rfl, rfl⟩ (fun hg => allT_of ⟨hg, (and_l hg), trivial⟩) (fun hg => av_eql rfl rfl)
  · exact ob_pick (b := false) (p := (decide (p0.2.1 = 4)) || (decide (p0.2.1 = 5))) (q := decide (p0.2.2.2.1 = 0)) ⟨rfl, rfl, rfl, _, rfl, rfl⟩ rfl rfl (fun hg => allT_of ⟨hg, rfl, trivial⟩) rfl rfl rfl rfl rfl
  · exact ob_pick (b := true) (p := ((decide (1 ≤ p0.2.1)) && (decide (p0.2.1 ≤ 5))) && (((decide (p0.2.1 = 2)) || (decide (p0.2.1 = 3))) || (decide (p0.2.2.1 = 0)))) (q := ((decide (p0.2.1 = 4)) || (decide (p0.2.1 = 5))) || (decide (p0.2.2.2.1 = 0))) rfl rfl rfl (fun hg => allT_of ⟨rfl, trivial⟩) rfl rfl rfl rfl rfl
  · exact ob_v rfl (fun hg => allT_of ⟨rfl, trivial⟩) (fun hg => av_move rfl)
  · exact ob_v ⟨rfl, rfl, rfl, _, rfl, rfl⟩ (fun hg => allT_of ⟨rfl, trivial⟩) (fun hg => av_fa_ptr fa39_4 rfl rfl)
  · exact ob_v ⟨rfl, rfl, rfl, _, rfl, rfl⟩ (fun hg => allT_of ⟨hg, rfl, trivial⟩) (fun hg => av_load_ptr ts9 rfl rfl rfl)
  · exact ob_v ⟨rfl, rfl, rfl, _, rfl, rfl⟩ (fun hg => allT_of ⟨hg, rfl, trivial⟩) (fun hg => av_len_str rfl rfl und9 rfl)
  · exact ob_v ⟨rfl, rfl, rfl, _, rfl, rfl⟩ (fun hg => allT_of ⟨hg, rfl, trivial⟩) (fun hg => av_leq rfl rfl)
  · exact ob_pick (b := true) (p := (((decide (1 ≤ p0.2.1)) && (decide (p0.2.1 ≤ 5))) && (((decide (p0.2.1 = 2)) || (decide (p0.2.1 = 3))) || (decide (p0.2.2.1 = 0)))) && (((decide (p0.2.1 = 4)) || (decide (p0.2.1 = 5))) || (decide (p0.2.2.2.1 = 0)))) (q := decide ((List.length p0.2.2.2.2 : Int) ≤ 32)) rfl rfl rfl (fun hg => allT_of ⟨rfl, trivial⟩) rfl rfl rfl rfl rfl
  · exact ob_v rfl (fun hg => allT_of ⟨rfl, trivial⟩) (fun hg => av_assign rfl)
  have hr := Option.some.inj hr
  subst hr
  exact athen_norm (awc_ret (ret_q (l' := [(2, .bool (((((decide (1 ≤ p0.2.1)) && (decide (p0.2.1 ≤ 5))) && (((decide (p0.2.1 = 2)) || (decide (p0.2.1 = 3))) || (decide (p0.2.2.1 = 0)))) && (((decide (p0.2.1 = 4)) || (decide (p0.2.1 = 5))) || (decide (p0.2.2.2.1 = 0)))) && (decide ((List.length p0.2.2.2.2 : Int) ≤ 32))))]) (wk_of hX [] 4 rfl rfl ⟨⟨_, rfl, cv0⟩, trivial⟩ trivial) rfl ⟨rfl, trivial⟩))
theorem f51_runs {p0 : List (Int × Int × Int × Int × Str)} {p1 : Int} {p2 : Int} {r : Int} (hr : f51 p0 p1 p2 = some r) : RunsP Tryz.prog 55 [.sl Y1 p0, .int .i64 p1, .int .i64 p2] [.int .i64 r] := by
  refine runs_w Tryz.func55 Tryz.ntmps55 rfl (rs := [.tmp 6]) rfl rfl fun w0 X hX => ?_
  refine awc_seq ?_
  refine awc_region ?_
  refine awl_v (av_assign rfl) ?_
  refine awl_nil (athen_norm (awc_seq (awc_seq ?_)))
  refine awc_region ?_
  refine awl_v (av_move rfl) ?_
  refine awl_v (av_len_sl (t := Y1) rfl rfl und22 rfl) ?_
  refine awl_v (av_move rfl) ?_
  refine awl_nil (athen_norm (awc_block ?_))
  obtain ⟨o4, e5, hr⟩ := bnd_some hr
  refine awc_len (t := 0) rfl (fun hl => ?_)
  refine awc_range (S := Unit) (R := Int) (List.length p0 : Int) (f51_b0 p0 p1 p2) (fun p => match p with | (i1, ()) => (⟨[(1, .int .i64 p1), (2, .int .i64 p2), (6, .int .i64 0), (9, .sl Y1 p0), (10, .int .i64 (List.length p0 : Int)), (11, .int .i64 i1)], [], 0⟩ : AS)) (fun o e st => match o with | .inl () => e = .exit 0 ∧ Wk X st ⟨[(6, .int .i64 0)], [], 0⟩ | .inr s3 => e = .ret ∧ Wk X st ⟨[(6, .int .i64 s3)], [], 0⟩) (len_ok hl) e5 (wk_of hX [] 4 rfl rfl ⟨⟨_, rfl, cv0⟩, ⟨_, rfl, cv0⟩, ⟨_, rfl, cv0⟩, ⟨_, rfl, cv0⟩, ⟨_, rfl, cv0⟩, ⟨_, rfl, cv0⟩, trivial⟩ trivial) ?_ ?_
  · intro e st hx
    rcases o4 with _ | s3
    · obtain ⟨rfl, hw⟩ := hx
      refine ablock_here (athen_norm ((awc_wk hw) (awc_seq ?_)))
      refine awc_region ?_
      refine awl_v (av_assign rfl) ?_
      have hr := Option.some.inj hr
      subst hr
      exact awl_nil (athen_norm (awc_ret (ret_q (l' := [(6, .int .i64 (-1))]) (wk_of hX [] 4 rfl rfl ⟨⟨_, rfl, cv0⟩, trivial⟩ trivial) rfl ⟨rfl, trivial⟩)))
    · obtain ⟨rfl, hw⟩ := hx
      have hr := Option.some.inj hr
      subst hr
      exact ablock_ret (athen_ret (ret_q (l' := [(6, .int .i64 s3)]) (Wk.trans hw (wk_of hX [] 4 rfl rfl ⟨⟨_, rfl, cv0⟩, trivial⟩ trivial)) rfl ⟨rfl, trivial⟩))
  · rintro i1 _ o ho
    refine awc_seq ?_
    refine awc_region ?_
    refine awl_v (av_lss rfl rfl) ?_
    refine awl_nil (athen_norm (awc_seq ?_))
    refine awc_cond (b := decide (i1 < (List.length p0 : Int))) rfl (fun hc6 => ?_) (fun hc6 => ?_)
    · obtain ⟨q, hr, rfl⟩ := rb_t hc6 ho
      refine awc_skip (athen_norm (awc_seq (awc_block (awc_seq ?_))))
      refine awc_region ?_
      refine awl_v (av_move rfl) ?_
      obtain ⟨x7, e8, hr⟩ := bnd_some hr
      refine awl_v (av_ia_sl (t := Y1) (e := x7) und22 sz39 rfl rfl e8) ?_
      refine awl_v (av_load_rpN ts39 rfl rfl rfl) ?_
      refine awl_op (aop_alloc zero39 rfl ?_)
      refine awl_v (av_assign rfl) ?_
      refine awl_op (aop_store sz39 rfl rfl rfl rfl rfl rfl rfl ?_)
      refine awl_nil (athen_norm (awc_seq ?_))
      refine awc_text [1, 2, 6, 9, 10, 11, 8, 7] [(true, .ptr 0 1), (true, .int .i64 x7.2.1), (true, .int .i64 p1), (true, .bool (decide (x7.2.1 = p1))), (true, .bool (decide (x7.2.1 = p1))), (decide (x7.2.1 = p1), .ptr 0 2), (decide (x7.2.1 = p1), .int .i64 x7.2.2.1), (decide (x7.2.1 = p1), .ptr 0 3), (decide (x7.2.1 = p1), .int .i64 x7.2.2.2.1), (decide (x7.2.1 = p1), .int .i64 (w64 (x7.2.2.1 + x7.2.2.2.1))), (decide (x7.2.1 = p1), .int .i64 p2), (decide (x7.2.1 = p1), .bool (decide ((w64 (x7.2.2.1 + x7.2.2.2.1)) = p2))), (true, .bool ((decide (x7.2.1 = p1)) && (decide ((w64 (x7.2.2.1 + x7.2.2.2.1)) = p2))))] [[], [0], [], [1, 2], [3], [4], [5, 4], [4], [7, 4], [6, 8, 4], [4], [9, 10, 4], [11, 4]] [12] rfl rfl rfl rfl rfl ⟨?_, ?_, ?_, ?_, ?_, ?_, ?_, ?_, ?_, ?_, ?_, ?_, ?_, trivial⟩ (allT_of ⟨rfl, trivial⟩) ?_
      · exact ob_v rfl (fun hg => allT_of trivial) (fun hg => av_fa_ptr fa39_1 rfl rfl)
      · exact ob_v rfl (fun hg => allT_of ⟨rfl, trivial⟩) (fun hg => av_load_ptr ts3 rfl rfl rfl)
      · exact ob_v rfl (fun hg => allT_of trivial) (fun hg => av_move rfl)
      · exact ob_v rfl (fun hg => allT_of ⟨rfl, rfl, trivial⟩) (fun hg => av_eql rfl rfl)
      · exact ob_v rfl (fun hg => allT_of ⟨rfl, trivial⟩) (fun hg => av_move rfl)
      · exact ob_v ⟨rfl, rfl, rfl, _, rfl, rfl⟩ (fun hg => allT_of ⟨rfl, trivial⟩) (fun hg => av_fa_ptr fa39_2 rfl rfl)
      · exact ob_v ⟨rfl, rfl, rfl, _, rfl, rfl⟩ (fun hg => allT_of ⟨hg, rfl, trivial⟩) (fun hg => av_load_ptr ts3 rfl rfl rfl)
      · exact ob_v ⟨rfl, rfl, rfl, _, rfl, rfl⟩ (fun hg => allT_of ⟨rfl, trivial⟩) (fun hg => av_fa_ptr fa39_3 rfl rfl)
      · exact ob_v ⟨rfl, rfl, rfl, _, rfl, rfl⟩ (fun hg => allT_of ⟨hg, rfl, trivial⟩) (fun hg => av_load_ptr ts3 rfl rfl rfl)
      · exact ob_v ⟨rfl, rfl, rfl, _, rfl, rfl⟩ (fun hg => allT_of ⟨hg, hg, rfl, trivial⟩) (fun hg => av_add rfl rfl)
      · exact ob_v ⟨rfl, rfl, rfl, _, rfl, rfl⟩ (fun hg => allT_of ⟨rfl, trivial⟩) (fun hg => av_move rfl)
      · exact ob_v ⟨rfl, rfl, rfl, _, rfl, rfl⟩ (fun hg => allT_of ⟨hg, hg, rfl, trivial⟩) (fun hg => av_eql rfl rfl)
      · exact ob_pick (b := true) (p := decide (x7.2.1 = p1)) (q := decide ((w64 (x7.2.2.1 + x7.2.2.2.1)) = p2)) rfl rfl rfl (fun hg => allT_of ⟨rfl, trivial⟩) rfl rfl rfl rfl rfl
      refine athen_norm ?_
      refine awc_cond (b := (decide (x7.2.1 = p1)) && (decide ((w64 (x7.2.2.1 + x7.2.2.2.1)) = p2))) rfl (fun hc9 => ?_) (fun hc9 => ?_)
      · have hr := if_t hc9 hr
        refine awc_seq ?_
        refine awc_region ?_
        refine awl_v (av_move rfl) ?_
        refine awl_v (av_assign rfl) ?_
        have hr := Option.some.inj hr
        subst hr
        exact awl_nil (athen_norm (awc_ret (ablock_ret (athen_ret (⟨rfl, (wk_of hX [] 4 rfl rfl ⟨⟨_, rfl, cv0⟩, trivial⟩ trivial)⟩)))))
      · have hr := if_f hc9 hr
        refine awc_skip (ablock_norm (athen_norm ?_))
        refine awc_region ?_
        refine awl_v (av_add rfl rfl) ?_
        refine awl_v (av_move rfl) ?_
        have hr := Option.some.inj hr
        subst hr
        exact awl_nil ((wk_of hX [] 4 rfl rfl ⟨⟨_, rfl, cv0⟩, ⟨_, rfl, cv0⟩, ⟨_, rfl, cv0⟩, ⟨_, rfl, cv0⟩, ⟨_, rfl, cv0⟩, ⟨_, rfl, cv0⟩, trivial⟩ trivial))
    · obtain rfl := rb_f hc6 ho
      exact awc_exit (athen_exit (⟨rfl, (wk_of hX [] 4 rfl rfl ⟨⟨_, rfl, cv0⟩, trivial⟩ trivial)⟩))
theorem f16_runs {p0 : Int} {p1 : List (Int × Int × Int × Int × Str)} {r : Int × Int} (hr : f16 p0 p1 = some r) : RunsP Tryz.prog 37 [.int .i64 p0, .sl Y1 p1] [.int .i64 r.1, .int .i64 r.2] := by
  refine runs_w Tryz.func37 Tryz.ntmps37 rfl (rs := [.tmp 4, .tmp 5]) rfl rfl fun w0 X hX => ?_
  refine awc_seq ?_
  refine awc_region ?_
  refine awl_v (av_assign rfl) ?_
  refine awl_v (av_assign rfl) ?_
  refine awl_nil (athen_norm (awc_seq (awc_seq ?_)))
  refine awc_text [0, 1, 4, 5] [(true, .int .i64 p0), (true, .bool (decide (p0 < 1))), (true, .bool (decide (p0 < 1))), (!(decide (p0 < 1)), .int .i64 p0), (!(decide (p0 < 1)), .bool (decide (16 < p0))), (true, .bool ((decide (p0 < 1)) || (decide (16 < p0))))] [[], [0], [1], [2], [3, 2], [4, 2]] [5] rfl rfl rfl rfl rfl ⟨?_, ?_, ?_, ?_, ?_, ?_, trivial⟩ (allT_of ⟨rfl, trivial⟩) ?_
  · exact ob_v rfl (fun hg => allT_of trivial) (fun hg => av_move rfl)
  · exact ob_v rfl (fun hg => allT_of ⟨rfl, trivial⟩) (fun hg => av_lss rfl rfl)
  · exact ob_v rfl (fun hg => allT_of ⟨rfl, trivial⟩) (fun hg => av_move rfl)
  · exact ob_v ⟨rfl, rfl, rfl, _, rfl, rfl⟩ (fun hg => allT_of ⟨rfl, trivial⟩) (fun hg => av_move rfl)
  · exact ob_v ⟨rfl, rfl, rfl, _, rfl, rfl⟩ (fun hg => allT_of ⟨hg, rfl, trivial⟩) (fun hg => av_gtr rfl rfl)
  · exact ob_pick (b := false) (p := decide (p0 < 1)) (q := decide (16 < p0)) rfl rfl rfl (fun hg => allT_of ⟨rfl, trivial⟩) rfl rfl rfl rfl rfl
  refine athen_norm ?_
  refine awc_cond (b := (decide (p0 < 1)) || (decide (16 < p0))) rfl (fun hc1 => ?_) (fun hc1 => ?_)
  · have hr := if_t hc1 hr
    refine awc_seq ?_
    refine awc_region ?_
    refine awl_v (av_assign rfl) ?_
    refine awl_v (av_assign rfl) ?_
    have hr := Option.some.inj hr
    subst hr
    exact awl_nil (athen_norm (awc_ret (athen_ret (ret_q (l' := [(4, .int .i64 0), (5, .int .i64 7)]) (wk_of hX [] 4 rfl rfl ⟨⟨_, rfl, cv0⟩, ⟨_, rfl, cv0⟩, trivial⟩ trivial) rfl ⟨rfl, rfl, trivial⟩))))
  · have hr := if_f hc1 hr
    refine awc_skip (athen_norm (awc_seq (awc_seq ?_)))
    refine awc_region ?_
    refine awl_v (av_move rfl) ?_
    refine awl_v (av_len_sl (t := Y1) rfl rfl und22 rfl) ?_
    refine awl_v (av_move rfl) ?_
    refine awl_nil (athen_norm (awc_block ?_))
    obtain ⟨o6, e7, hr⟩ := bnd_some hr
    refine awc_len (t := 1) rfl (fun hl => ?_)
    refine awc_range (S := Unit) (R := Int × Int) (List.length p1 : Int) (f16_b0 p0 p1) (fun p => match p with | (i2, ()) => (⟨[(0, .int .i64 p0), (1, .sl Y1 p1), (4, .int .i64 0), (5, .int .i64 0), (17, .sl Y1 p1), (18, .int .i64 (List.length p1 : Int)), (19, .int .i64 i2)], [], 0⟩ : AS)) (fun o e st => match o with | .inl () => e = .exit 0 ∧ Wk X st ⟨[(4, .int .i64 0), (5, .int .i64 0)], [], 0⟩ | .inr (s4, s5) => e = .ret ∧ Wk X st ⟨[(4, .int .i64 s4), (5, .int .i64 s5)], [], 0⟩) (len_ok hl) e7 (wk_of hX [] 4 rfl rfl ⟨⟨_, rfl, cv0⟩, ⟨_, rfl, cv0⟩, ⟨_, rfl, cv0⟩, ⟨_, rfl, cv0⟩, ⟨_, rfl, cv0⟩, ⟨_, rfl, cv0⟩, ⟨_, rfl, cv0⟩, trivial⟩ trivial) ?_ ?_
    · intro e st hx
      rcases o6 with _ | ⟨s4, s5⟩
      · obtain ⟨rfl, hw⟩ := hx
        refine ablock_here (athen_norm ((awc_wk hw) (awc_seq ?_)))
        refine awc_region ?_
        refine awl_v (av_assign rfl) ?_
        refine awl_v (av_assign rfl) ?_
        have hr := Option.some.inj hr
        subst hr
        exact awl_nil (athen_norm (awc_ret (ret_q (l' := [(4, .int .i64 (-1)), (5, .int .i64 0)]) (wk_of hX [] 4 rfl rfl ⟨⟨_, rfl, cv0⟩, ⟨_, rfl, cv0⟩, trivial⟩ trivial) rfl ⟨rfl, rfl, trivial⟩)))
      · obtain ⟨rfl, hw⟩ := hx
        have hr := Option.some.inj hr
        subst hr
        exact ablock_ret (athen_ret (ret_q (l' := [(4, .int .i64 s4), (5, .int .i64 s5)]) (Wk.trans hw (wk_of hX [] 4 rfl rfl ⟨⟨_, rfl, cv0⟩, ⟨_, rfl, cv0⟩, trivial⟩ trivial)) rfl ⟨rfl, rfl, trivial⟩))
    · rintro i2 _ o ho
      refine awc_seq ?_
      refine awc_region ?_
      refine awl_v (av_lss rfl rfl) ?_
      refine awl_nil (athen_norm (awc_seq ?_))
      refine awc_cond (b := decide (i2 < (List.length p1 : Int))) rfl (fun hc8 => ?_) (fun hc8 => ?_)
      · obtain ⟨q, hr, rfl⟩ := rb_t hc8 ho
        refine awc_skip (athen_norm ?_)
        obtain ⟨o10, e11, hr⟩ := bnd_some hr
        refine awc_join (S := Unit) (R := Int) (fun s => match s with | () => (⟨[(0, .int .i64 p0), (1, .sl Y1 p1), (4, .int .i64 0), (5, .int .i64 0), (17, .sl Y1 p1), (18, .int .i64 (List.length p1 : Int)), (19, .int .i64 i2)], [], 0⟩ : AS)) (fun r e st => match r with | s9 => e = .ret ∧ Wk X st ⟨[(4, .int .i64 i2), (5, .int .i64 s9)], [], 0⟩) e11 (fun hr => ?_) ?_ ?_
        · refine awc_block (awc_seq ?_)
          refine awc_region ?_
          refine awl_v (av_move rfl) ?_
          obtain ⟨x12, e13, hr⟩ := bnd_some hr
          refine awl_v (av_ia_sl (t := Y1) (e := x12) und22 sz39 rfl rfl e13) ?_
          refine awl_v (av_load_rpN ts39 rfl rfl rfl) ?_
          refine awl_op (aop_alloc zero39 rfl ?_)
          refine awl_v (av_assign rfl) ?_
          refine awl_op (aop_store sz39 rfl rfl rfl rfl rfl rfl rfl ?_)
          refine awl_nil (athen_norm (awc_seq (awc_seq ?_)))
          refine awc_region ?_
          refine awl_v (av_move rfl) ?_
          refine awl_v (av_eql rfl rfl) ?_
          refine awl_nil (athen_norm ?_)
          refine awc_cond (b := decide (i2 = 1000)) rfl (fun hc14 => ?_) (fun hc14 => ?_)
          · have hr := if_t hc14 hr
            refine awc_seq ?_
            refine awc_region ?_
            refine awl_v (av_move rfl) ?_
            refine awl_v (av_assign rfl) ?_
            refine awl_v (av_assign rfl) ?_
            have hr := Option.some.inj hr
            subst hr
            exact awl_nil (athen_norm (awc_ret (athen_ret (ablock_ret (⟨rfl, (wk_of hX [] 4 rfl rfl ⟨⟨_, rfl, cv0⟩, ⟨_, rfl, cv0⟩, trivial⟩ trivial)⟩)))))
          · have hr := if_f hc14 hr
            refine awc_skip (athen_norm (awc_seq ?_))
            refine awc_draw mixed [0, 1, 4, 5, 17, 18, 19, 7, 6] [(true, .ptr 0 1), (true, .int .i64 x12.2.1), (true, .bool (decide (x12.2.1 = 2))), (true, .bool (decide (x12.2.1 = 2))), (!(decide (x12.2.1 = 2)), .ptr 0 1), (!(decide (x12.2.1 = 2)), .int .i64 x12.2.1), (!(decide (x12.2.1 = 2)), .bool (decide (x12.2.1 = 3))), (true, .bool ((decide (x12.2.1 = 2)) || (decide (x12.2.1 = 3)))), (true, .ptr 0 1), (true, .int .i64 x12.2.1), (true, .bool (decide (x12.2.1 = 4))), (true, .bool (decide (x12.2.1 = 4))), (!(decide (x12.2.1 = 4)), .ptr 0 1), (!(decide (x12.2.1 = 4)), .int .i64 x12.2.1), (!(decide (x12.2.1 = 4)), .bool (decide (x12.2.1 = 5))), (true, .bool ((decide (x12.2.1 = 4)) || (decide (x12.2.1 = 5)))), (true, .bool ((decide (x12.2.1 = 2)) || (decide (x12.2.1 = 3)))), (true, .bool ((decide (x12.2.1 = 4)) || (decide (x12.2.1 = 5))))] [[], [0], [1], [2], [3], [4, 3], [5, 3], [6, 3], [], [8], [9], [10], [11], [12, 11], [13, 11], [14, 11], [7], [15]] [16, 17] rfl rfl rfl rfl rfl ⟨?_, ?_, ?_, ?_, ?_, ?_, ?_, ?_, ?_, ?_, ?_, ?_, ?_, ?_, ?_, ?_, ?_, ?_, trivial⟩ (allT_of ⟨rfl, rfl, trivial⟩) ?_
            · exact ob_v rfl (fun hg => allT_of trivial) (fun hg => av_fa_ptr fa39_1 rfl rfl)
            · exact ob_v rfl (fun hg => allT_of ⟨rfl, trivial⟩) (fun hg => av_load_ptr ts3 rfl rfl rfl)
            · exact ob_v rfl (fun hg => allT_of ⟨rfl, trivial⟩) (fun hg => av_eql rfl rfl)
            · exact ob_v rfl (fun hg => allT_of ⟨rfl, trivial⟩) (fun hg => av_move rfl)
            · exact ob_v ⟨rfl, rfl, rfl, _, rfl, rfl⟩ (fun hg => allT_of ⟨rfl, trivial⟩) (fun hg => av_fa_ptr fa39_1 rfl rfl)
            · exact ob_v ⟨rfl, rfl, rfl, _, rfl, rfl⟩ (fun hg => allT_of ⟨hg, rfl, trivial⟩) (fun hg => av_load_ptr ts3 rfl rfl rfl)
            · exact ob_v ⟨rfl, rfl, rfl, _, rfl, rfl⟩ (fun hg => allT_of ⟨hg, rfl, trivial⟩) (fun hg => av_eql rfl rfl)
            · exact ob_pick (b := false) (p := decide (x12.2.1 = 2)) (q := decide (x12.2.1 = 3)) rfl rfl rfl (fun hg => allT_of ⟨rfl, trivial⟩) rfl rfl rfl rfl rfl
            · exact ob_v rfl (fun hg => allT_of trivial) (fun hg => av_fa_ptr fa39_1 rfl rfl)
            · exact ob_v rfl (fun hg => allT_of ⟨rfl, trivial⟩) (fun hg => av_load_ptr ts3 rfl rfl rfl)
            · exact ob_v rfl (fun hg => allT_of ⟨rfl, trivial⟩) (fun hg => av_eql rfl rfl)
            · exact ob_v rfl (fun hg => allT_of ⟨rfl, trivial⟩) (fun hg => av_move rfl)
            · exact ob_v ⟨rfl, rfl, rfl, _, rfl, rfl⟩ (fun hg => allT_of ⟨rfl, trivial⟩) (fun hg => av_fa_ptr fa39_1 rfl rfl)
            · exact ob_v ⟨rfl, rfl, rfl, _, rfl, rfl⟩ (fun hg => allT_of ⟨hg, rfl, trivial⟩) (fun hg => av_load_ptr ts3 rfl rfl rfl)
            · exact ob_v ⟨rfl, rfl, rfl, _, rfl, rfl⟩ (fun hg => allT_of ⟨hg, rfl, trivial⟩) (fun hg => av_eql rfl rfl)
            · exact ob_pick (b := false) (p := decide (x12.2.1 = 4)) (q := decide (x12.2.1 = 5)) rfl rfl rfl (fun hg => allT_of ⟨rfl, trivial⟩) rfl rfl rfl rfl rfl
            · exact ob_v rfl (fun hg => allT_of ⟨rfl, trivial⟩) (fun hg => av_assign rfl)
            · exact ob_v rfl (fun hg => allT_of ⟨rfl, trivial⟩) (fun hg => av_assign rfl)
            refine athen_norm (awc_seq (awc_seq ?_))
            refine awc_text [0, 1, 4, 5, 17, 18, 19, 7, 6, 8, 9] [(true, .ptr 0 0), (true, .int .i64 x12.1), (true, .bool (decide (x12.1 < 0))), (true, .bool (decide (x12.1 < 0))), (!(decide (x12.1 < 0)), .ptr 0 0), (!(decide (x12.1 < 0)), .int .i64 x12.1), (!(decide (x12.1 < 0)), .int .i64 p0), (!(decide (x12.1 < 0)), .bool (decide (p0 ≤ x12.1))), (true, .bool ((decide (x12.1 < 0)) || (decide (p0 ≤ x12.1)))), (true, .bool ((decide (x12.1 < 0)) || (decide (p0 ≤ x12.1)))), (!((decide (x12.1 < 0)) || (decide (p0 ≤ x12.1))), .bool ((decide (x12.2.1 = 2)) || (decide (x12.2.1 = 3)))), (!((decide (x12.1 < 0)) || (decide (p0 ≤ x12.1))), .bool ((decide (x12.2.1 = 2)) || (decide (x12.2.1 = 3)))), ((!((decide (x12.1 < 0)) || (decide (p0 ≤ x12.1)))) && ((decide (x12.2.1 = 2)) || (decide (x12.2.1 = 3))), .ptr 0 2), ((!((decide (x12.1 < 0)) || (decide (p0 ≤ x12.1)))) && ((decide (x12.2.1 = 2)) || (decide (x12.2.1 = 3))), .int .i64 x12.2.2.1), ((!((decide (x12.1 < 0)) || (decide (p0 ≤ x12.1)))) && ((decide (x12.2.1 = 2)) || (decide (x12.2.1 = 3))), .bool (decide (x12.2.2.1 < 1))), (!((decide (x12.1 < 0)) || (decide (p0 ≤ x12.1))), .bool (((decide (x12.2.1 = 2)) || (decide (x12.2.1 = 3))) && (decide (x12.2.2.1 < 1)))), (true, .bool (((decide (x12.1 < 0)) || (decide (p0 ≤ x12.1))) || (((decide (x12.2.1 = 2)) || (decide (x12.2.1 = 3))) && (decide (x12.2.2.1 < 1))))), (true, .bool (((decide (x12.1 < 0)) || (decide (p0 ≤ x12.1))) || (((decide (x12.2.1 = 2)) || (decide (x12.2.1 = 3))) && (decide (x12.2.2.1 < 1))))), (!(((decide (x12.1 < 0)) || (decide (p0 ≤ x12.1))) || (((decide (x12.2.1 = 2)) || (decide (x12.2.1 = 3))) && (decide (x12.2.2.1 < 1)))), .bool ((decide (x12.2.1 = 4)) || (decide (x12.2.1 = 5)))), (!(((decide (x12.1 < 0)) || (decide (p0 ≤ x12.1))) || (((decide (x12.2.1 = 2)) || (decide (x12.2.1 = 3))) && (decide (x12.2.2.1 < 1)))), .bool ((decide (x12.2.1 = 4)) || (decide (x12.2.1 = 5)))), ((!(((decide (x12.1 < 0)) || (decide (p0 ≤ x12.1))) || (((decide (x12.2.1 = 2)) || (decide (x12.2.1 = 3))) && (decide (x12.2.2.1 < 1))))) && ((decide (x12.2.1 = 4)) || (decide (x12.2.1 = 5))), .ptr 0 3), ((!(((decide (x12.1 < 0)) || (decide (p0 ≤ x12.1))) || (((decide (x12.2.1 = 2)) || (decide (x12.2.1 = 3))) && (decide (x12.2.2.1 < 1))))) && ((decide (x12.2.1 = 4)) || (decide (x12.2.1 = 5))), .int .i64 x12.2.2.2.1), ((!(((decide (x12.1 < 0)) || (decide (p0 ≤ x12.1))) || (((decide (x12.2.1 = 2)) || (decide (x12.2.1 = 3))) && (decide (x12.2.2.1 < 1))))) && ((decide (x12.2.1 = 4)) || (decide (x12.2.1 = 5))), .bool (decide (x12.2.2.2.1 < 1))), (!(((decide (x12.1 < 0)) || (decide (p0 ≤ x12.1))) || (((decide (x12.2.1 = 2)) || (decide (x12.2.1 = 3))) && (decide (x12.2.2.1 < 1)))), .bool (((decide (x12.2.1 = 4)) || (decide (x12.2.1 = 5))) && (decide (x12.2.2.2.1 < 1)))), (true, .bool ((((decide (x12.1 < 0)) || (decide (p0 ≤ x12.1))) || (((decide (x12.2.1 = 2)) || (decide (x12.2.1 = 3))) && (decide (x12.2.2.1 < 1)))) || (((decide (x12.2.1 = 4)) || (decide (x12.2.1 = 5))) && (decide (x12.2.2.2.1 < 1)))))] [[], [0], [1], [2], [3], [4, 3], [3], [5, 6, 3], [7, 3], [8], [9], [10, 9], [11], [12, 11], [13, 11], [14, 11, 9], [15, 9], [16], [17], [18, 17], [19], [20, 19], [21, 19], [22, 19, 17], [23, 17]] [24] rfl rfl rfl rfl rfl ⟨?_, ?_, ?_, ?_, ?_, ?_, ?_, ?_, ?_, ?_, ?_, ?_, ?_, ?_, ?_, ?_, ?_, ?_, ?_, ?_, ?_, ?_, ?_, ?_, ?_, trivial⟩ (allT_of ⟨rfl, trivial⟩) ?_
            · exact ob_v rfl (fun hg => allT_of trivial) (fun hg => av_fa_ptr fa39_0 rfl rfl)
            · exact ob_v rfl (fun hg => allT_of ⟨rfl, trivial⟩) (fun hg => av_load_ptr ts3 rfl rfl rfl)
            · exact ob_v rfl (fun hg => allT_of ⟨rfl, trivial⟩) (fun hg => av_lss rfl rfl)
            · exact ob_v rfl (fun hg => allT_of ⟨rfl, trivial⟩) (fun hg => av_move rfl)
            · exact ob_v ⟨rfl, rfl, rfl, _, rfl, rfl⟩ (fun hg => allT_of ⟨rfl, trivial⟩) (fun hg => av_fa_ptr fa39_0 rfl rfl)
            · exact ob_v ⟨rfl, rfl, rfl, _, rfl, rfl⟩ (fun hg => allT_of ⟨hg, rfl, trivial⟩) (fun hg => av_load_ptr ts3 rfl rfl rfl)
            · exact ob_v ⟨rfl, rfl, rfl, _, rfl, rfl⟩ (fun hg => allT_of ⟨rfl, trivial⟩) (fun hg => av_move rfl)
            · exact ob_v ⟨rfl, rfl, rfl, _, rfl, rfl⟩ (fun hg => allT_of ⟨hg, hg, rfl, trivial⟩) (fun hg => av_geq rfl rfl)
            · exact ob_pick (b := false) (p := decide (x12.1 < 0)) (q := decide (p0 ≤ x12.1)) rfl rfl rfl (fun hg => allT_of ⟨rfl, trivial⟩) rfl rfl rfl rfl rfl
            · exact ob_v rfl (fun hg => allT_of ⟨rfl, trivial⟩) (fun hg => av_move rfl)
            · exact ob_v ⟨rfl, rfl, rfl, _, rfl, rfl⟩ (fun hg => allT_of ⟨rfl, trivial⟩) (fun hg => av_move rfl)
            · exact ob_v ⟨rfl, rfl, rfl, _, rfl, rfl⟩ (fun hg => allT_of ⟨hg, rfl, trivial⟩) (fun hg => av_move rfl)
            · exact ob_v ⟨rfl, rfl, rfl, _, rfl, rfl⟩ (fun hg => allT_of ⟨(and_l hg), trivial⟩) (fun hg => av_fa_ptr fa39_2 rfl rfl)
            · exact ob_v ⟨rfl, rfl, rfl, _, rfl, rfl⟩ (fun hg => allT_of ⟨hg, (and_l hg), trivial⟩) (fun hg => av_load_ptr ts3 rfl rfl rfl)
            · exact ob_v ⟨rfl, rfl, rfl, _, rfl, rfl⟩ (fun hg => allT_of ⟨hg, (and_l hg), trivial⟩) (fun hg => av_lss rfl rfl)
            · exact ob_pick (b := true) (p := (decide (x12.2.1 = 2)) || (decide (x12.2.1 = 3))) (q := decide (x12.2.2.1 < 1)) ⟨rfl, rfl, rfl, _, rfl, rfl⟩ rfl rfl (fun hg => allT_of ⟨hg, rfl, trivial⟩) rfl rfl rfl rfl rfl
            · exact ob_pick (b := false) (p := (decide (x12.1 < 0)) || (decide (p0 ≤ x12.1))) (q := ((decide (x12.2.1 = 2)) || (decide (x12.2.1 = 3))) && (decide (x12.2.2.1 < 1))) rfl rfl rfl (fun hg => allT_of ⟨rfl, trivial⟩) rfl rfl rfl rfl rfl
            · exact ob_v rfl (fun hg => allT_of ⟨rfl, trivial⟩) (fun hg => av_move rfl)
            · exact ob_v ⟨rfl, rfl, rfl, _, rfl, rfl⟩ (fun hg => allT_of ⟨rfl, trivial⟩) (fun hg => av_move rfl)
            · exact ob_v ⟨rfl, rfl, rfl, _, rfl, rfl⟩ (fun hg => allT_of ⟨hg, rfl, trivial⟩) (fun hg => av_move rfl)
            · exact ob_v ⟨rfl, rfl, rfl, _, rfl, rfl⟩ (fun hg => allT_of ⟨(and_l hg), trivial⟩) (fun hg => av_fa_ptr fa39_3 rfl rfl)
            · exact ob_v ⟨rfl, rfl, rfl, _, rfl, rfl⟩ (fun hg => allT_of ⟨hg, (and_l hg), trivial⟩) (fun hg => av_load_ptr ts3 rfl rfl rfl)
            · exact ob_v ⟨rfl, rfl, rfl, _, rfl, rfl⟩ (fun hg => allT_of ⟨hg, (and_l hg), trivial⟩) (fun hg => av_lss rfl rfl)
            · exact ob_pick (b := true) (p := (decide (x12.2.1 = 4)) || (decide (x12.2.1 = 5))) (q := decide (x12.2.2.2.1 < 1)) ⟨rfl, rfl, rfl, _, rfl, rfl⟩ rfl rfl (fun hg => allT_of ⟨hg, rfl, trivial⟩) rfl rfl rfl rfl rfl
            · exact ob_pick (b := false) (p := ((decide (x12.1 < 0)) || (decide (p0 ≤ x12.1))) || (((decide (x12.2.1 = 2)) || (decide (x12.2.1 = 3))) && (decide (x12.2.2.1 < 1)))) (q := ((decide (x12.2.1 = 4)) || (decide (x12.2.1 = 5))) && (decide (x12.2.2.2.1 < 1))) rfl rfl rfl (fun hg => allT_of ⟨rfl, trivial⟩) rfl rfl rfl rfl rfl
            refine athen_norm ?_
            refine awc_cond (b := (((decide (x12.1 < 0)) || (decide (p0 ≤ x12.1))) || (((decide (x12.2.1 = 2)) || (decide (x12.2.1 = 3))) && (decide (x12.2.2.1 < 1)))) || (((decide (x12.2.1 = 4)) || (decide (x12.2.1 = 5))) && (decide (x12.2.2.2.1 < 1)))) rfl (fun hc15 => ?_) (fun hc15 => ?_)
            · have hr := if_t hc15 hr
              refine awc_seq ?_
              refine awc_region ?_
              refine awl_v (av_move rfl) ?_
              refine awl_v (av_assign rfl) ?_
              refine awl_v (av_assign rfl) ?_
              have hr := Option.some.inj hr
              subst hr
              exact awl_nil (athen_norm (awc_ret (athen_ret (ablock_ret (⟨rfl, (wk_of hX [] 4 rfl rfl ⟨⟨_, rfl, cv0⟩, ⟨_, rfl, cv0⟩, trivial⟩ trivial)⟩)))))
            · have hr := if_f hc15 hr
              refine awc_skip (athen_norm (awc_seq (awc_seq ?_)))
              refine awc_region ?_
              refine awl_v (av_load_ptrN ts39 rfl rfl rfl rfl) ?_
              obtain ⟨x16, e17, hr⟩ := bnd_some hr
              refine awl_v (av_call (f50_runs e17).x ent61 rfl rfl) ?_
              refine awl_v (av_not rfl) ?_
              refine awl_nil (athen_norm ?_)
              refine awc_cond (b := !x16) rfl (fun hc18 => ?_) (fun hc18 => ?_)
              · have hr := if_t hc18 hr
                refine awc_seq ?_
                refine awc_region ?_
                refine awl_v (av_move rfl) ?_
                refine awl_v (av_assign rfl) ?_
                refine awl_v (av_assign rfl) ?_
                have hr := Option.some.inj hr
                subst hr
                exact awl_nil (athen_norm (awc_ret (athen_ret (ablock_ret (⟨rfl, (wk_of hX [] 4 rfl rfl ⟨⟨_, rfl, cv0⟩, ⟨_, rfl, cv0⟩, trivial⟩ trivial)⟩)))))
              · have hr := if_f hc18 hr
                refine awc_skip (athen_norm (awc_seq (awc_seq ?_)))
                obtain ⟨h19, hr⟩ := chk_some hr
                obtain ⟨h20, hr⟩ := chk_some hr
                refine awc_draw mixed [0, 1, 4, 5, 17, 18, 19, 7, 6] [(true, .ptr 0 1), (true, .int .i64 x12.2.1), (true, .bool (!decide (x12.2.1 = 1))), (true, .bool (!decide (x12.2.1 = 1))), (!decide (x12.2.1 = 1), .ptr 0 1), (!decide (x12.2.1 = 1), .int .i64 x12.2.1), (!decide (x12.2.1 = 1), .bool (!decide (x12.2.1 = 3))), (true, .bool ((!decide (x12.2.1 = 1)) && (!decide (x12.2.1 = 3)))), (true, .bool ((!decide (x12.2.1 = 1)) && (!decide (x12.2.1 = 3)))), ((!decide (x12.2.1 = 1)) && (!decide (x12.2.1 = 3)), .sl Y1 p1), ((!decide (x12.2.1 = 1)) && (!decide (x12.2.1 = 3)), .int .i64 i2), ((!decide (x12.2.1 = 1)) && (!decide (x12.2.1 = 3)), .sl Y1 ((p1.take (Int.toNat i2)).drop (Int.toNat 0))), ((!decide (x12.2.1 = 1)) && (!decide (x12.2.1 = 3)), .ptr 0 1), ((!decide (x12.2.1 = 1)) && (!decide (x12.2.1 = 3)), .int .i64 x12.2.1), ((!decide (x12.2.1 = 1)) && (!decide (x12.2.1 = 3)), .ptr 0 2), ((!decide (x12.2.1 = 1)) && (!decide (x12.2.1 = 3)), .int .i64 x12.2.2.1), ((!decide (x12.2.1 = 1)) && (!decide (x12.2.1 = 3)), .ptr 0 3), ((!decide (x12.2.1 = 1)) && (!decide (x12.2.1 = 3)), .int .i64 x12.2.2.2.1), ((!decide (x12.2.1 = 1)) && (!decide (x12.2.1 = 3)), .int .i64 (w64 (x12.2.2.1 + x12.2.2.2.1))), ((!decide (x12.2.1 = 1)) && (!decide (x12.2.1 = 3)), .int .i64 ((f51 ((p1.take (Int.toNat i2)).drop (Int.toNat 0)) x12.2.1 (w64 (x12.2.2.1 + x12.2.2.2.1))).getD default)), ((!decide (x12.2.1 = 1)) && (!decide (x12.2.1 = 3)), .bool (decide (0 ≤ ((f51 ((p1.take (Int.toNat i2)).drop (Int.toNat 0)) x12.2.1 (w64 (x12.2.2.1 + x12.2.2.2.1))).getD default)))), (true, .bool (((!decide (x12.2.1 = 1)) && (!decide (x12.2.1 = 3))) && (decide (0 ≤ ((f51 ((p1.take (Int.toNat i2)).drop (Int.toNat 0)) x12.2.1 (w64 (x12.2.2.1 + x12.2.2.2.1))).getD default)))))] [[], [0], [1], [2], [3], [4, 3], [5, 3], [6, 3], [7], [8], [8], [9, 10, 8], [8], [12, 8], [8], [14, 8], [8], [16, 8], [15, 17, 8], [11, 13, 18, 8], [19, 8], [20, 8]] [21] rfl rfl rfl rfl rfl ⟨?_, ?_, ?_, ?_, ?_, ?_, ?_, ?_, ?_, ?_, ?_, ?_, ?_, ?_, ?_, ?_, ?_, ?_, ?_, ?_, ?_, ?_, trivial⟩ (allT_of ⟨rfl, trivial⟩) ?_
                · exact ob_v rfl (fun hg => allT_of trivial) (fun hg => av_fa_ptr fa39_1 rfl rfl)
                · exact ob_v rfl (fun hg => allT_of ⟨rfl, trivial⟩) (fun hg => av_load_ptr ts3 rfl rfl rfl)
                · exact ob_v rfl (fun hg => allT_of ⟨rfl, trivial⟩) (fun hg => av_neq rfl rfl)
                · exact ob_v rfl (fun hg => allT_of ⟨rfl, trivial⟩) (fun hg => av_move rfl)
                · exact ob_v ⟨rfl, rfl, rfl, _, rfl, rfl⟩ (fun hg => allT_of ⟨rfl, trivial⟩) (fun hg => av_fa_ptr fa39_1 rfl rfl)
                · exact ob_v ⟨rfl, rfl, rfl, _, rfl, rfl⟩ (fun hg => allT_of ⟨hg, rfl, trivial⟩) (fun hg => av_load_ptr ts3 rfl rfl rfl)
                · exact ob_v ⟨rfl, rfl, rfl, _, rfl, rfl⟩ (fun hg => allT_of ⟨hg, rfl, trivial⟩) (fun hg => av_neq rfl rfl)
                · exact ob_pick (b := true) (p := !decide (x12.2.1 = 1)) (q := !decide (x12.2.1 = 3)) rfl rfl rfl (fun hg => allT_of ⟨rfl, trivial⟩) rfl rfl rfl rfl rfl
                · exact ob_v rfl (fun hg => allT_of ⟨rfl, trivial⟩) (fun hg => av_move rfl)
                · exact ob_v ⟨rfl, rfl, rfl, _, rfl, rfl⟩ (fun hg => allT_of ⟨rfl, trivial⟩) (fun hg => av_move rfl)
                · exact ob_v ⟨rfl, rfl, rfl, _, rfl, rfl⟩ (fun hg => allT_of ⟨rfl, trivial⟩) (fun hg => av_move rfl)
                · exact ob_v ⟨rfl, rfl, rfl, _, rfl, rfl⟩ (fun hg => allT_of ⟨hg, hg, rfl, trivial⟩) (fun hg => av_slice_sl (t := Y1) (l := 0) (h := i2) und22 sz39 rfl rfl ⟨_, rfl⟩ (imp_g h19 hg))
                · exact ob_v ⟨rfl, rfl, rfl, _, rfl, rfl⟩ (fun hg => allT_of ⟨rfl, trivial⟩) (fun hg => av_fa_ptr fa39_1 rfl rfl)
                · exact ob_v ⟨rfl, rfl, rfl, _, rfl, rfl⟩ (fun hg => allT_of ⟨hg, rfl, trivial⟩) (fun hg => av_load_ptr ts3 rfl rfl rfl)
                · exact ob_v ⟨rfl, rfl, rfl, _, rfl, rfl⟩ (fun hg => allT_of ⟨rfl, trivial⟩) (fun hg => av_fa_ptr fa39_2 rfl rfl)
                · exact ob_v ⟨rfl, rfl, rfl, _, rfl, rfl⟩ (fun hg => allT_of ⟨hg, rfl, trivial⟩) (fun hg => av_load_ptr ts3 rfl rfl rfl)
                · exact ob_v ⟨rfl, rfl, rfl, _, rfl, rfl⟩ (fun hg => allT_of ⟨rfl, trivial⟩) (fun hg => av_fa_ptr fa39_3 rfl rfl)
                · exact ob_v ⟨rfl, rfl, rfl, _, rfl, rfl⟩ (fun hg => allT_of ⟨hg, rfl, trivial⟩) (fun hg => av_load_ptr ts3 rfl rfl rfl)
                · exact ob_v ⟨rfl, rfl, rfl, _, rfl, rfl⟩ (fun hg => allT_of ⟨hg, hg, rfl, trivial⟩) (fun hg => av_add rfl rfl)
                · exact ob_v ⟨rfl, rfl, rfl, _, rfl, rfl⟩ (fun hg => allT_of ⟨hg, hg, hg, rfl, trivial⟩) (fun hg => av_call (f51_runs (get_g h20 hg)).x ent55 rfl rfl)
                · exact ob_v ⟨rfl, rfl, rfl, _, rfl, rfl⟩ (fun hg => allT_of ⟨hg, rfl, trivial⟩) (fun hg => av_geq rfl rfl)
                · exact ob_pick (b := true) (p := (!decide (x12.2.1 = 1)) && (!decide (x12.2.1 = 3))) (q := decide (0 ≤ ((f51 ((p1.take (Int.toNat i2)).drop (Int.toNat 0)) x12.2.1 (w64 (x12.2.2.1 + x12.2.2.2.1))).getD default))) rfl rfl rfl (fun hg => allT_of ⟨rfl, trivial⟩) rfl rfl rfl rfl rfl
                refine athen_norm ?_
                refine awc_cond (b := ((!decide (x12.2.1 = 1)) && (!decide (x12.2.1 = 3))) && (decide (0 ≤ ((f51 ((p1.take (Int.toNat i2)).drop (Int.toNat 0)) x12.2.1 (w64 (x12.2.2.1 + x12.2.2.2.1))).getD default)))) rfl (fun hc21 => ?_) (fun hc21 => ?_)
                · have hr := if_t hc21 hr
                  refine awc_seq ?_
                  refine awc_region ?_
                  refine awl_v (av_move rfl) ?_
                  refine awl_v (av_assign rfl) ?_
                  refine awl_v (av_assign rfl) ?_
                  have hr := Option.some.inj hr
                  subst hr
                  exact awl_nil (athen_norm (awc_ret (athen_ret (ablock_ret (⟨rfl, (wk_of hX [] 4 rfl rfl ⟨⟨_, rfl, cv0⟩, ⟨_, rfl, cv0⟩, trivial⟩ trivial)⟩)))))
                · have hr := if_f hc21 hr
                  refine awc_skip (athen_norm (awc_seq (awc_seq ?_)))
                  obtain ⟨h22, hr⟩ := chk_some hr
                  obtain ⟨h23, hr⟩ := chk_some hr
                  refine awc_draw mixed [0, 1, 4, 5, 17, 18, 19, 7, 6] [(true, .ptr 0 1), (true, .int .i64 x12.2.1), (true, .bool (decide (x12.2.1 = 3))), (true, .bool (decide (x12.2.1 = 3))), (decide (x12.2.1 = 3), .sl Y1 p1), (decide (x12.2.1 = 3), .int .i64 i2), (decide (x12.2.1 = 3), .sl Y1 ((p1.take (Int.toNat i2)).drop (Int.toNat 0))), (decide (x12.2.1 = 3), .ptr 0 2), (decide (x12.2.1 = 3), .int .i64 x12.2.2.1), (decide (x12.2.1 = 3), .int .i64 ((f51 ((p1.take (Int.toNat i2)).drop (Int.toNat 0)) 2 x12.2.2.1).getD default)), (decide (x12.2.1 = 3), .bool (decide (((f51 ((p1.take (Int.toNat i2)).drop (Int.toNat 0)) 2 x12.2.2.1).getD default) < 0))), (true, .bool ((decide (x12.2.1 = 3)) && (decide (((f51 ((p1.take (Int.toNat i2)).drop (Int.toNat 0)) 2 x12.2.2.1).getD default) < 0))))] [[], [0], [1], [2], [3], [3], [4, 5, 3], [3], [7, 3], [6, 8, 3], [9, 3], [10, 3]] [11] rfl rfl rfl rfl rfl ⟨?_, ?_, ?_, ?_, ?_, ?_, ?_, ?_, ?_, ?_, ?_, ?_, trivial⟩ (allT_of ⟨rfl, trivial⟩) ?_
                  · exact ob_v rfl (fun hg => allT_of trivial) (fun hg => av_fa_ptr fa39_1 rfl rfl)
                  · exact ob_v rfl (fun hg => allT_of ⟨rfl, trivial⟩) (fun hg => av_load_ptr ts3 rfl rfl rfl)
                  · exact ob_v rfl (fun hg => allT_of ⟨rfl, trivial⟩) (fun hg => av_eql rfl rfl)
                  · exact ob_v rfl (fun hg => allT_of ⟨rfl, trivial⟩) (fun hg => av_move rfl)
                  · exact ob_v ⟨rfl, rfl, rfl, _, rfl, rfl⟩ (fun hg => allT_of ⟨rfl, trivial⟩) (fun hg => av_move rfl)
                  · exact ob_v ⟨rfl, rfl, rfl, _, rfl, rfl⟩ (fun hg => allT_of ⟨rfl, trivial⟩) (fun hg => av_move rfl)
                  · exact ob_v ⟨rfl, rfl, rfl, _, rfl, rfl⟩ (fun hg => allT_of ⟨hg, hg, rfl, trivial⟩) (fun hg => av_slice_sl (t := Y1) (l := 0) (h := i2) und22 sz39 rfl rfl ⟨_, rfl⟩ (imp_g h22 hg))
                  · exact ob_v ⟨rfl, rfl, rfl, _, rfl, rfl⟩ (fun hg => allT_of ⟨rfl, trivial⟩) (fun hg => av_fa_ptr fa39_2 rfl rfl)
                  · exact ob_v ⟨rfl, rfl, rfl, _, rfl, rfl⟩ (fun hg => allT_of ⟨hg, rfl, trivial⟩) (fun hg => av_load_ptr ts3 rfl rfl rfl)
                  · exact ob_v ⟨rfl, rfl, rfl, _, rfl, rfl⟩ (fun hg => allT_of ⟨hg, hg, rfl, trivial⟩) (fun hg => av_call (f51_runs (get_g h23 hg)).x ent55 rfl rfl)
                  · exact ob_v ⟨rfl, rfl, rfl, _, rfl, rfl⟩ (fun hg => allT_of ⟨hg, rfl, trivial⟩) (fun hg => av_lss rfl rfl)
                  · exact ob_pick (b := true) (p := decide (x12.2.1 = 3)) (q := decide (((f51 ((p1.take (Int.toNat i2)).drop (Int.toNat 0)) 2 x12.2.2.1).getD default) < 0)) rfl rfl rfl (fun hg => allT_of ⟨rfl, trivial⟩) rfl rfl rfl rfl rfl
                  refine athen_norm ?_
                  refine awc_cond (b := (decide (x12.2.1 = 3)) && (decide (((f51 ((p1.take (Int.toNat i2)).drop (Int.toNat 0)) 2 x12.2.2.1).getD default) < 0))) rfl (fun hc24 => ?_) (fun hc24 => ?_)
                  · have hr := if_t hc24 hr
                    refine awc_seq ?_
                    refine awc_region ?_
                    refine awl_v (av_move rfl) ?_
                    refine awl_v (av_assign rfl) ?_
                    refine awl_v (av_assign rfl) ?_
                    have hr := Option.some.inj hr
                    subst hr
                    exact awl_nil (athen_norm (awc_ret (athen_ret (ablock_ret (⟨rfl, (wk_of hX [] 4 rfl rfl ⟨⟨_, rfl, cv0⟩, ⟨_, rfl, cv0⟩, trivial⟩ trivial)⟩)))))
                  · have hr := if_f hc24 hr
                    refine awc_skip (athen_norm (awc_seq ?_))
                    refine awc_region ?_
                    refine awl_v (av_fa_ptr fa39_1 rfl rfl) ?_
                    refine awl_v (av_load_ptr ts3 rfl rfl rfl) ?_
                    refine awl_v (av_eql rfl rfl) ?_
                    refine awl_nil (athen_norm ?_)
                    refine awc_cond (b := decide (x12.2.1 = 5)) rfl (fun hc25 => ?_) (fun hc25 => ?_)
                    · have hr := if_t hc25 hr
                      refine awc_seq ?_
                      obtain ⟨h26, hr⟩ := chk_some hr
                      obtain ⟨x27, e28, hr⟩ := bnd_some hr
                      refine awc_draw mixed [0, 1, 4, 5, 17, 18, 19, 7, 6] [(true, .sl Y1 p1), (true, .int .i64 i2), (true, .sl Y1 ((p1.take (Int.toNat i2)).drop (Int.toNat 0))), (true, .ptr 0 3), (true, .int .i64 x12.2.2.2.1), (true, .int .i64 x27), (true, .int .i64 x27)] [[], [], [0, 1], [], [3], [2, 4], [5]] [6] rfl rfl rfl rfl rfl ⟨?_, ?_, ?_, ?_, ?_, ?_, ?_, trivial⟩ (allT_of ⟨rfl, trivial⟩) ?_
                      · exact ob_v rfl (fun hg => allT_of trivial) (fun hg => av_move rfl)
                      · exact ob_v rfl (fun hg => allT_of trivial) (fun hg => av_move rfl)
                      · exact ob_v rfl (fun hg => allT_of ⟨rfl, rfl, trivial⟩) (fun hg => av_slice_sl (t := Y1) (l := 0) (h := i2) und22 sz39 rfl rfl ⟨_, rfl⟩ h26)
                      · exact ob_v rfl (fun hg => allT_of trivial) (fun hg => av_fa_ptr fa39_3 rfl rfl)
                      · exact ob_v rfl (fun hg => allT_of ⟨rfl, trivial⟩) (fun hg => av_load_ptr ts3 rfl rfl rfl)
                      · exact ob_v rfl (fun hg => allT_of ⟨rfl, rfl, trivial⟩) (fun hg => av_call (f51_runs e28).x ent55 rfl rfl)
                      · exact ob_v rfl (fun hg => allT_of ⟨rfl, trivial⟩) (fun hg => av_assign rfl)
                      refine athen_norm (awc_seq (awc_seq ?_))
                      refine awc_region ?_
                      refine awl_v (av_move rfl) ?_
                      refine awl_v (av_lss rfl rfl) ?_
                      refine awl_nil (athen_norm ?_)
                      refine awc_cond (b := decide (x27 < 0)) rfl (fun hc29 => ?_) (fun hc29 => ?_)
                      · have hr := if_t hc29 hr
                        refine awc_seq ?_
                        refine awc_region ?_
                        refine awl_v (av_move rfl) ?_
                        refine awl_v (av_assign rfl) ?_
                        refine awl_v (av_assign rfl) ?_
                        have hr := Option.some.inj hr
                        subst hr
                        exact awl_nil (athen_norm (awc_ret (athen_ret (ablock_ret (⟨rfl, (wk_of hX [] 4 rfl rfl ⟨⟨_, rfl, cv0⟩, ⟨_, rfl, cv0⟩, trivial⟩ trivial)⟩)))))
                      · have hr := if_f hc29 hr
                        refine awc_skip (athen_norm (awc_seq ?_))
                        obtain ⟨x30, e31, hr⟩ := bnd_some hr
                        refine awc_draw mixed [0, 1, 4, 5, 17, 18, 19, 7, 6, 10] [(true, .sl Y1 p1), (true, .int .i64 x27), (true, .rp [.int .i64 x30.1, .int .i64 x30.2.1, .int .i64 x30.2.2.1, .int .i64 x30.2.2.2.1, .str x30.2.2.2.2]), (true, .rp [.int .i64 x30.1, .int .i64 x30.2.1, .int .i64 x30.2.2.1, .int .i64 x30.2.2.2.1, .str x30.2.2.2.2]), (true, .int .i64 x30.1), (true, .ptr 0 0), (true, .int .i64 x12.1), (true, .bool (!decide (x30.1 = x12.1)))] [[], [], [0, 1], [2], [3], [], [5], [4, 6]] [7] rfl rfl rfl rfl rfl ⟨?_, ?_, ?_, ?_, ?_, ?_, ?_, ?_, trivial⟩ (allT_of ⟨rfl, trivial⟩) ?_
                        · exact ob_v rfl (fun hg => allT_of trivial) (fun hg => av_move rfl)
                        · exact ob_v rfl (fun hg => allT_of trivial) (fun hg => av_move rfl)
                        · exact ob_v rfl (fun hg => allT_of ⟨rfl, rfl, trivial⟩) (fun hg => av_ia_sl (t := Y1) (e := x30) und22 sz39 rfl rfl e31)
                        · exact ob_v rfl (fun hg => allT_of ⟨rfl, trivial⟩) (fun hg => av_fa_rp fa39_0 rfl rfl)
                        · exact ob_v rfl (fun hg => allT_of ⟨rfl, trivial⟩) (fun hg => av_load_rp ts3 rfl)
                        · exact ob_v rfl (fun hg => allT_of trivial) (fun hg => av_fa_ptr fa39_0 rfl rfl)
                        · exact ob_v rfl (fun hg => allT_of ⟨rfl, trivial⟩) (fun hg => av_load_ptr ts3 rfl rfl rfl)
                        · exact ob_v rfl (fun hg => allT_of ⟨rfl, rfl, trivial⟩) (fun hg => av_neq rfl rfl)
                        refine athen_norm ?_
                        refine awc_cond (b := !decide (x30.1 = x12.1)) rfl (fun hc32 => ?_) (fun hc32 => ?_)
                        · have hr := if_t hc32 hr
                          refine awc_seq ?_
                          refine awc_region ?_
                          refine awl_v (av_move rfl) ?_
                          refine awl_v (av_assign rfl) ?_
                          refine awl_v (av_assign rfl) ?_
                          have hr := Option.some.inj hr
                          subst hr
                          exact awl_nil (athen_norm (awc_ret (ablock_ret (⟨rfl, (wk_of hX [] 4 rfl rfl ⟨⟨_, rfl, cv0⟩, ⟨_, rfl, cv0⟩, trivial⟩ trivial)⟩))))
                        · have hr := if_f hc32 hr
                          have hr := Option.some.inj hr
                          subst hr
                          exact awc_skip (ablock_norm ((wk_of hX [] 4 rfl rfl ⟨⟨_, rfl, cv0⟩, ⟨_, rfl, cv0⟩, ⟨_, rfl, cv0⟩, ⟨_, rfl, cv0⟩, ⟨_, rfl, cv0⟩, ⟨_, rfl, cv0⟩, ⟨_, rfl, cv0⟩, trivial⟩ trivial)))
                    · have hr := if_f hc25 hr
                      have hr := Option.some.inj hr
                      subst hr
                      exact awc_skip (ablock_norm ((wk_of hX [] 4 rfl rfl ⟨⟨_, rfl, cv0⟩, ⟨_, rfl, cv0⟩, ⟨_, rfl, cv0⟩, ⟨_, rfl, cv0⟩, ⟨_, rfl, cv0⟩, ⟨_, rfl, cv0⟩, ⟨_, rfl, cv0⟩, trivial⟩ trivial)))
        · rintro _ rfl
          refine awc_region ?_
          refine awl_v (av_add rfl rfl) ?_
          refine awl_v (av_move rfl) ?_
          have hr := Option.some.inj hr
          subst hr
          exact awl_nil ((wk_of hX [] 4 rfl rfl ⟨⟨_, rfl, cv0⟩, ⟨_, rfl, cv0⟩, ⟨_, rfl, cv0⟩, ⟨_, rfl, cv0⟩, ⟨_, rfl, cv0⟩, ⟨_, rfl, cv0⟩, ⟨_, rfl, cv0⟩, trivial⟩ trivial))
        · rintro r rfl e st hne hx
          obtain s9 := r
          obtain ⟨rfl, hw⟩ := hx
          have hr := Option.some.inj hr
          subst hr
          exact ⟨rfl, (Wk.trans hw (wk_of hX [] 4 rfl rfl ⟨⟨_, rfl, cv0⟩, ⟨_, rfl, cv0⟩, trivial⟩ trivial))⟩
      · obtain rfl := rb_f hc8 ho
        exact awc_exit (athen_exit (⟨rfl, (wk_of hX [] 4 rfl rfl ⟨⟨_, rfl, cv0⟩, ⟨_, rfl, cv0⟩, trivial⟩ trivial)⟩))
end Go.Ab

