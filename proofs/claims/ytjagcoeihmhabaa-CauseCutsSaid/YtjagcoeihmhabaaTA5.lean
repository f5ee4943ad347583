/- Lemmas for a law of the seat: what functions of the program do, each stated as a contract of its own (TA5). -/
import Derived.Test.YtjagcoeihmhabaaLayT
import Derived.Test.YtjagcoeihmhabaaAb2
import Derived.Test.YtjagcoeihmhabaaChecked
import Derived.Test.YtjagcoeihmhabaaTAd
import Derived.Test.YtjagcoeihmhabaaTA4
set_option linter.unusedVariables false
set_option maxRecDepth 100000
namespace Go.Ab
open Go.RowKit Go.Shelf Go.Proofs Go.Eng
abbrev Y2 : Ty := .st (.pair (.int .i64) (.pair (.int .i64) (.int .i64)))
abbrev Y3 : Ty := .st (.pair (.int .i64) (.int .i64))
theorem ent8 : Enters Try.prog 8 := enters_of Try.func8 (by kernel_rfl) rfl
theorem ent14 : Enters Try.prog 14 := enters_of Try.func14 (by kernel_rfl) rfl
theorem und4 : Und Try.prog 4 .bool := by unfold Und; kernel_rfl
theorem ent33 : Enters Try.prog 33 := enters_of Try.func33 (by kernel_rfl) rfl
theorem ent34 : Enters Try.prog 34 := enters_of Try.func34 (by kernel_rfl) rfl
theorem ent35 : Enters Try.prog 35 := enters_of Try.func35 (by kernel_rfl) rfl
theorem ent36 : Enters Try.prog 36 := enters_of Try.func36 (by kernel_rfl) rfl
theorem ent37 : Enters Try.prog 37 := enters_of Try.func37 (by kernel_rfl) rfl
theorem ent38 : Enters Try.prog 38 := enters_of Try.func38 (by kernel_rfl) rfl
theorem ent39 : Enters Try.prog 39 := enters_of Try.func39 (by kernel_rfl) rfl
theorem ent40 : Enters Try.prog 40 := enters_of Try.func40 (by kernel_rfl) rfl
theorem f40_runs {p0 : List Int} {p1 : List Int} {r : Bool} (hr : f40 p0 p1 = some r) : RunsP Try.prog 40 [.sl (.int .i64) p0, .sl (.int .i64) p1] [.bool r] := by
  refine runs_w Try.func40 Try.ntmps40 rfl (rs := [.tmp 4]) rfl rfl fun w0 X hX => ?_
  refine awc_seq ?_
  refine awc_region ?_
  refine awl_v (av_assign rfl) ?_
  refine awl_nil (athen_norm (awc_seq (awc_seq ?_)))
  refine awc_region ?_
  refine awl_v (av_move rfl) ?_
  refine awl_v (av_len_sl (t := (.int .i64)) rfl rfl und22 rfl) ?_
  refine awl_v (av_move rfl) ?_
  refine awl_nil (athen_norm (awc_block ?_))
  obtain ⟨o3, e4, hr⟩ := bnd_some hr
  refine awc_len (t := 0) rfl (fun hl => ?_)
  refine awc_range (S := Unit) (R := Unit) (List.length p0 : Int) (f40_b0 p0 p1) (fun p => match p with | (i1, ()) => (⟨[(0, .sl (.int .i64) p0), (1, .sl (.int .i64) p1), (4, .bool false), (7, .int .i64 (List.length p0 : Int)), (8, .int .i64 i1)], [], 0⟩ : AS)) (fun o e st => match o with | .inl () => e = .exit 0 ∧ Wk X st ⟨[(4, .bool false)], [], 0⟩ | .inr () => e = .ret ∧ Wk X st ⟨[(4, .bool false)], [], 0⟩) (len_ok hl) e4 (wk_of hX [] 4 rfl rfl ⟨⟨_, rfl, cv0⟩, ⟨_, rfl, cv0⟩, ⟨_, rfl, cv0⟩, ⟨_, rfl, cv0⟩, ⟨_, rfl, cv0⟩, trivial⟩ trivial) ?_ ?_
  · intro e st hx
    rcases o3 with _ | _
    · obtain ⟨rfl, hw⟩ := hx
      refine ablock_here (athen_norm ((awc_wk hw) (awc_seq ?_)))
      refine awc_region ?_
      refine awl_v (av_assign rfl) ?_
      have hr := Option.some.inj hr
      subst hr
      exact awl_nil (athen_norm (awc_ret (ret_q (l' := [(4, .bool true)]) (wk_of hX [] 4 rfl rfl ⟨⟨_, rfl, cv0⟩, trivial⟩ trivial) rfl ⟨rfl, trivial⟩)))
    · obtain ⟨rfl, hw⟩ := hx
      have hr := Option.some.inj hr
      subst hr
      exact ablock_ret (athen_ret (ret_q (l' := [(4, .bool false)]) (Wk.trans hw (wk_of hX [] 4 rfl rfl ⟨⟨_, rfl, cv0⟩, trivial⟩ trivial)) rfl ⟨rfl, trivial⟩))
  · rintro i1 _ o ho
    refine awc_seq ?_
    refine awc_region ?_
    refine awl_v (av_lss rfl rfl) ?_
    refine awl_nil (athen_norm (awc_seq ?_))
    refine awc_cond (b := decide (i1 < (List.length p0 : Int))) rfl (fun hc5 => ?_) (fun hc5 => ?_)
    · obtain ⟨q, hr, rfl⟩ := rb_t hc5 ho
      refine awc_skip (athen_norm (awc_seq (awc_block (awc_seq ?_))))
      refine awc_region ?_
      refine awl_v (av_move rfl) ?_
      refine awl_v (av_assign rfl) ?_
      refine awl_nil (athen_norm (awc_seq ?_))
      obtain ⟨x6, e7, hr⟩ := bnd_some hr
      obtain ⟨x8, e9, hr⟩ := bnd_some hr
      refine awc_draw mixed [0, 1, 4, 7, 8, 5] [(true, .sl (.int .i64) p0), (true, .int .i64 i1), (true, .rp [.int .i64 x6]), (true, .int .i64 x6), (true, .sl (.int .i64) p1), (true, .int .i64 i1), (true, .rp [.int .i64 x8]), (true, .int .i64 x8), (true, .bool (decide (x8 < x6)))] [[], [], [0, 1], [2], [], [], [4, 5], [6], [3, 7]] [8] rfl rfl rfl rfl rfl ⟨?_, ?_, ?_, ?_, ?_, ?_, ?_, ?_, ?_, trivial⟩ (allT_of ⟨rfl, trivial⟩) ?_
      · exact ob_v rfl (fun hg => allT_of trivial) (fun hg => av_move rfl)
      · exact ob_v rfl (fun hg => allT_of trivial) (fun hg => av_move rfl)
      · exact ob_v rfl (fun hg => allT_of ⟨rfl, rfl, trivial⟩) (fun hg => av_ia_sl (t := (.int .i64)) (e := x6) und22 sz3 rfl rfl e7)
      · exact ob_v rfl (fun hg => allT_of ⟨rfl, trivial⟩) (fun hg => av_load_rp ts3 rfl)
      · exact ob_v rfl (fun hg => allT_of trivial) (fun hg => av_move rfl)
      · exact ob_v rfl (fun hg => allT_of trivial) (fun hg => av_move rfl)
      · exact ob_v rfl (fun hg => allT_of ⟨rfl, rfl, trivial⟩) (fun hg => av_ia_sl (t := (.int .i64)) (e := x8) und22 sz3 rfl rfl e9)
      · exact ob_v rfl (fun hg => allT_of ⟨rfl, trivial⟩) (fun hg => av_load_rp ts3 rfl)
      · exact ob_v rfl (fun hg => allT_of ⟨rfl, rfl, trivial⟩) (fun hg => av_gtr rfl rfl)
      refine athen_norm ?_
      refine awc_cond (b := decide (x8 < x6)) rfl (fun hc10 => ?_) (fun hc10 => ?_)
      · have hr := if_t hc10 hr
        refine awc_seq ?_
        refine awc_region ?_
        refine awl_v (av_assign rfl) ?_
        have hr := Option.some.inj hr
        subst hr
        exact awl_nil (athen_norm (awc_ret (ablock_ret (athen_ret (⟨rfl, (wk_of hX [] 4 rfl rfl ⟨⟨_, rfl, cv0⟩, trivial⟩ trivial)⟩)))))
      · have hr := if_f hc10 hr
        refine awc_skip (ablock_norm (athen_norm ?_))
        refine awc_region ?_
        refine awl_v (av_add rfl rfl) ?_
        refine awl_v (av_move rfl) ?_
        have hr := Option.some.inj hr
        subst hr
        exact awl_nil ((wk_of hX [] 4 rfl rfl ⟨⟨_, rfl, cv0⟩, ⟨_, rfl, cv0⟩, ⟨_, rfl, cv0⟩, ⟨_, rfl, cv0⟩, ⟨_, rfl, cv0⟩, trivial⟩ trivial))
    · obtain rfl := rb_f hc5 ho
      exact awc_exit (athen_exit (⟨rfl, (wk_of hX [] 4 rfl rfl ⟨⟨_, rfl, cv0⟩, trivial⟩ trivial)⟩))
theorem f6_runs {p0 : Int} {p1 : List (Int × Int × Int × Int × Str)} {p2 : List Int} {p3 : List Int} {p4 : List Int} {r : Bool} (hr : f6 p0 p1 p2 p3 p4 = some r) : RunsP Try.prog 6 [.int .i64 p0, .sl Y1 p1, .sl (.int .i64) p2, .sl (.int .i64) p3, .sl (.int .i64) p4] [.bool r] := by
  refine runs_w Try.func6 Try.ntmps6 rfl (rs := [.tmp 10]) rfl rfl fun w0 X hX => ?_
  refine awc_seq ?_
  refine awc_region ?_
  refine awl_v (av_assign rfl) ?_
  refine awl_nil (athen_norm (awc_seq (awc_seq ?_)))
  obtain ⟨x1, e2, hr⟩ := bnd_some hr
  refine awc_text [0, 1, 2, 3, 4, 10] [(true, .sl Y1 p1), (true, .bool x1), (true, .bool (!x1)), (true, .bool (!x1)), (!(!x1), .sl (.int .i64) p2), (!(!x1), .int .i64 (List.length p2 : Int)), (!(!x1), .bool (decide (40 < (List.length p2 : Int)))), (true, .bool ((!x1) || (decide (40 < (List.length p2 : Int))))), (true, .bool ((!x1) || (decide (40 < (List.length p2 : Int))))), (!((!x1) || (decide (40 < (List.length p2 : Int)))), .sl (.int .i64) p3), (!((!x1) || (decide (40 < (List.length p2 : Int)))), .int .i64 (List.length p3 : Int)), (!((!x1) || (decide (40 < (List.length p2 : Int)))), .bool (decide (40 < (List.length p3 : Int)))), (true, .bool (((!x1) || (decide (40 < (List.length p2 : Int)))) || (decide (40 < (List.length p3 : Int))))), (true, .bool (((!x1) || (decide (40 < (List.length p2 : Int)))) || (decide (40 < (List.length p3 : Int))))), (!(((!x1) || (decide (40 < (List.length p2 : Int)))) || (decide (40 < (List.length p3 : Int)))), .sl (.int .i64) p4), (!(((!x1) || (decide (40 < (List.length p2 : Int)))) || (decide (40 < (List.length p3 : Int)))), .int .i64 (List.length p4 : Int)), (!(((!x1) || (decide (40 < (List.length p2 : Int)))) || (decide (40 < (List.length p3 : Int)))), .bool (decide (60 < (List.length p4 : Int)))), (true, .bool ((((!x1) || (decide (40 < (List.length p2 : Int)))) || (decide (40 < (List.length p3 : Int)))) || (decide (60 < (List.length p4 : Int)))))] [[], [0], [1], [2], [3], [4, 3], [5, 3], [6, 3], [7], [8], [9, 8], [10, 8], [11, 8], [12], [13], [14, 13], [15, 13], [16, 13]] [17] rfl rfl rfl rfl rfl ⟨?_, ?_, ?_, ?_, ?_, ?_, ?_, ?_, ?_, ?_, ?_, ?_, ?_, ?_, ?_, ?_, ?_, ?_, trivial⟩ (allT_of ⟨rfl, trivial⟩) ?_
  · exact ob_v rfl (fun hg => allT_of trivial) (fun hg => av_move rfl)
  · exact ob_v rfl (fun hg => allT_of ⟨rfl, trivial⟩) (fun hg => av_call (f14_runs e2) ent14 rfl rfl)
  · exact ob_v rfl (fun hg => allT_of ⟨rfl, trivial⟩) (fun hg => av_not rfl)
  · exact ob_v rfl (fun hg => allT_of ⟨rfl, trivial⟩) (fun hg => av_move rfl)
  · exact ob_v ⟨rfl, rfl, rfl, _, rfl, rfl⟩ (fun hg => allT_of ⟨rfl, trivial⟩) (fun hg => av_move rfl)
  · exact ob_v ⟨rfl, rfl, rfl, _, rfl, rfl⟩ (fun hg => allT_of ⟨hg, rfl, trivial⟩) (fun hg => av_len_sl (t := (.int .i64)) rfl rfl und22 rfl)
  · exact ob_v ⟨rfl, rfl, rfl, _, rfl, rfl⟩ (fun hg => allT_of ⟨hg, rfl, trivial⟩) (fun hg => av_gtr rfl rfl)
  · exact ob_pick (b := false) (p := !x1) (q := decide (40 < (List.length p2 : Int))) rfl rfl rfl (fun hg => allT_of ⟨rfl, trivial⟩) rfl rfl rfl rfl rfl
  · exact ob_v rfl (fun hg => allT_of ⟨rfl, trivial⟩) (fun hg => av_move rfl)
  · exact ob_v ⟨rfl, rfl, rfl, _, rfl, rfl⟩ (fun hg => allT_of ⟨rfl, trivial⟩) (fun hg => av_move rfl)
  · exact ob_v ⟨rfl, rfl, rfl, _, rfl, rfl⟩ (fun hg => allT_of ⟨hg, rfl, trivial⟩) (fun hg => av_len_sl (t := (.int .i64)) rfl rfl und22 rfl)
  · exact ob_v ⟨rfl, rfl, rfl, _, rfl, rfl⟩ (fun hg => allT_of ⟨hg, rfl, trivial⟩) (fun hg => av_gtr rfl rfl)
  · exact ob_pick (b := false) (p := (!x1) || (decide (40 < (List.length p2 : Int)))) (q := decide (40 < (List.length p3 : Int))) rfl rfl rfl (fun hg => allT_of ⟨rfl, trivial⟩) rfl rfl rfl rfl rfl
  · exact ob_v rfl (fun hg => allT_of ⟨rfl, trivial⟩) (fun hg => av_move rfl)
  · exact ob_v ⟨rfl, rfl, rfl, _, rfl, rfl⟩ (fun hg => allT_of ⟨rfl, trivial⟩) (fun hg => av_move rfl)
  · exact ob_v ⟨rfl, rfl, rfl, _, rfl, rfl⟩ (fun hg => allT_of ⟨hg, rfl, trivial⟩) (fun hg => av_len_sl (t := (.int .i64)) rfl rfl und22 rfl)
  · exact ob_v ⟨rfl, rfl, rfl, _, rfl, rfl⟩ (fun hg => allT_of ⟨hg, rfl, trivial⟩) (fun hg => av_gtr rfl rfl)
  · exact ob_pick (b := false) (p := ((!x1) || (decide (40 < (List.length p2 : Int)))) || (decide (40 < (List.length p3 : Int)))) (q := decide (60 < (List.length p4 : Int))) rfl rfl rfl (fun hg => allT_of ⟨rfl, trivial⟩) rfl rfl rfl rfl rfl
  refine athen_norm ?_
  refine awc_cond (b := (((!x1) || (decide (40 < (List.length p2 : Int)))) || (decide (40 < (List.length p3 : Int)))) || (decide (60 < (List.length p4 : Int)))) rfl (fun hc3 => ?_) (fun hc3 => ?_)
  · have hr := if_t hc3 hr
    refine awc_seq ?_
    refine awc_region ?_
    obtain ⟨x4, e5, hr⟩ := bnd_some hr
    refine awl_v (av_call (f8_runs e5) ent8 rfl rfl) ?_
    refine awl_v (av_assign rfl) ?_
    have hr := Option.some.inj hr
    subst hr
    exact awl_nil (athen_norm (awc_ret (athen_ret (ret_q (l' := [(10, .bool x4)]) (wk_of hX [] 4 rfl rfl ⟨⟨_, rfl, cv0⟩, trivial⟩ trivial) rfl ⟨rfl, trivial⟩))))
  · have hr := if_f hc3 hr
    refine awc_skip (athen_norm (awc_seq ?_))
    refine awc_region ?_
    refine awl_v (av_move rfl) ?_
    refine awl_v (av_move rfl) ?_
    refine awl_v (av_move rfl) ?_
    obtain ⟨x6, e7, hr⟩ := bnd_some hr
    refine awl_v (av_call (f32_runs e7) ent32 rfl rfl) ?_
    refine awl_v (av_move rfl) ?_
    refine awl_v (av_extract rfl rfl) ?_
    refine awl_v (av_extract rfl rfl) ?_
    refine awl_v (av_assign rfl) ?_
    refine awl_v (av_assign rfl) ?_
    refine awl_nil (athen_norm (awc_seq ?_))
    refine awc_region ?_
    refine awl_v (av_move rfl) ?_
    refine awl_v (av_move rfl) ?_
    refine awl_v (av_move rfl) ?_
    obtain ⟨x8, e9, hr⟩ := bnd_some hr
    refine awl_v (av_call (f33_runs e9) ent33 rfl rfl) ?_
    refine awl_v (av_move rfl) ?_
    refine awl_v (av_extract rfl rfl) ?_
    refine awl_v (av_extract rfl rfl) ?_
    refine awl_v (av_assign rfl) ?_
    refine awl_v (av_assign rfl) ?_
    refine awl_nil (athen_norm (awc_seq ?_))
    refine awc_region ?_
    refine awl_v (av_move rfl) ?_
    refine awl_v (av_move rfl) ?_
    refine awl_v (av_move rfl) ?_
    obtain ⟨x10, e11, hr⟩ := bnd_some hr
    refine awl_v (av_call (f34_runs e11) ent34 rfl rfl) ?_
    refine awl_v (av_move rfl) ?_
    refine awl_v (av_extract rfl rfl) ?_
    refine awl_v (av_extract rfl rfl) ?_
    refine awl_v (av_assign rfl) ?_
    refine awl_v (av_assign rfl) ?_
    refine awl_nil (athen_norm (awc_seq ?_))
    refine awc_region ?_
    refine awl_v (av_move rfl) ?_
    refine awl_v (av_move rfl) ?_
    refine awl_v (av_move rfl) ?_
    obtain ⟨x12, e13, hr⟩ := bnd_some hr
    refine awl_v (av_call (f35_runs e13) ent35 rfl rfl) ?_
    refine awl_v (av_move rfl) ?_
    refine awl_v (av_extract rfl rfl) ?_
    refine awl_v (av_extract rfl rfl) ?_
    refine awl_v (av_assign rfl) ?_
    refine awl_v (av_assign rfl) ?_
    refine awl_nil (athen_norm (awc_seq (awc_seq ?_)))
    obtain ⟨h14, hr⟩ := chk_some hr
    refine awc_text [0, 1, 2, 3, 10, 11, 12, 13, 14, 15, 16, 17, 18] [(true, .bool x6.1), (true, .bool x8.1), (true, .bool (!decide (x6.1 = x8.1))), (true, .bool (!decide (x6.1 = x8.1))), (!(!decide (x6.1 = x8.1)), .int .i64 x6.2), (!(!decide (x6.1 = x8.1)), .int .i64 x8.2), (!(!decide (x6.1 = x8.1)), .bool (!decide (x6.2 = x8.2))), (true, .bool ((!decide (x6.1 = x8.1)) || (!decide (x6.2 = x8.2)))), (true, .bool ((!decide (x6.1 = x8.1)) || (!decide (x6.2 = x8.2)))), (!((!decide (x6.1 = x8.1)) || (!decide (x6.2 = x8.2))), .sl (.int .i64) x10.1), (!((!decide (x6.1 = x8.1)) || (!decide (x6.2 = x8.2))), .sl (.int .i64) x12.1), (!((!decide (x6.1 = x8.1)) || (!decide (x6.2 = x8.2))), .bool ((f13 x10.1 x12.1).getD default)), (!((!decide (x6.1 = x8.1)) || (!decide (x6.2 = x8.2))), .bool (!((f13 x10.1 x12.1).getD default))), (true, .bool (((!decide (x6.1 = x8.1)) || (!decide (x6.2 = x8.2))) || (!((f13 x10.1 x12.1).getD default)))), (true, .bool (((!decide (x6.1 = x8.1)) || (!decide (x6.2 = x8.2))) || (!((f13 x10.1 x12.1).getD default)))), (!(((!decide (x6.1 = x8.1)) || (!decide (x6.2 = x8.2))) || (!((f13 x10.1 x12.1).getD default))), .int .i64 x10.2), (!(((!decide (x6.1 = x8.1)) || (!decide (x6.2 = x8.2))) || (!((f13 x10.1 x12.1).getD default))), .int .i64 x12.2), (!(((!decide (x6.1 = x8.1)) || (!decide (x6.2 = x8.2))) || (!((f13 x10.1 x12.1).getD default))), .bool (!decide (x10.2 = x12.2))), (true, .bool ((((!decide (x6.1 = x8.1)) || (!decide (x6.2 = x8.2))) || (!((f13 x10.1 x12.1).getD default))) || (!decide (x10.2 = x12.2))))] [[], [], [0, 1], [2], [3], [3], [4, 5, 3], [6, 3], [7], [8], [8], [9, 10, 8], [11, 8], [12, 8], [13], [14], [14], [15, 16, 14], [17, 14]] [18] rfl rfl rfl rfl rfl ⟨?_, ?_, ?_, ?_, ?_, ?_, ?_, ?_, ?_, ?_, ?_, ?_, ?_, ?_, ?_, ?_, ?_, ?_, ?_, trivial⟩ (allT_of ⟨rfl, trivial⟩) ?_
    · exact ob_v rfl (fun hg => allT_of trivial) (fun hg => av_move rfl)
    · exact ob_v rfl (fun hg => allT_of trivial) (fun hg => av_move rfl)
    · exact ob_v rfl (fun hg => allT_of ⟨rfl, rfl, trivial⟩) (fun hg => av_neqb und4 rfl rfl)
    · exact ob_v rfl (fun hg => allT_of ⟨rfl, trivial⟩) (fun hg => av_move rfl)
    · exact ob_v ⟨rfl, rfl, rfl, _, rfl, rfl⟩ (fun hg => allT_of ⟨rfl, trivial⟩) (fun hg => av_move rfl)
    · exact ob_v ⟨rfl, rfl, rfl, _, rfl, rfl⟩ (fun hg => allT_of ⟨rfl, trivial⟩) (fun hg => av_move rfl)
    · exact ob_v ⟨rfl, rfl, rfl, _, rfl, rfl⟩ (fun hg => allT_of ⟨hg, hg, rfl, trivial⟩) (fun hg => av_neq rfl rfl)
    · exact ob_pick (b := false) (p := !decide (x6.1 = x8.1)) (q := !decide (x6.2 = x8.2)) rfl rfl rfl (fun hg => allT_of ⟨rfl, trivial⟩) rfl rfl rfl rfl rfl
    · exact ob_v rfl (fun hg => allT_of ⟨rfl, trivial⟩) (fun hg => av_move rfl)
    · exact ob_v ⟨rfl, rfl, rfl, _, rfl, rfl⟩ (fun hg => allT_of ⟨rfl, trivial⟩) (fun hg => av_move rfl)
    · exact ob_v ⟨rfl, rfl, rfl, _, rfl, rfl⟩ (fun hg => allT_of ⟨rfl, trivial⟩) (fun hg => av_move rfl)
    · exact ob_v ⟨rfl, rfl, rfl, _, rfl, rfl⟩ (fun hg => allT_of ⟨hg, hg, rfl, trivial⟩) (fun hg => av_call (f13_runs (get_g h14 hg)) ent13 rfl rfl)
    · exact ob_v ⟨rfl, rfl, rfl, _, rfl, rfl⟩ (fun hg => allT_of ⟨hg, rfl, trivial⟩) (fun hg => av_not rfl)
    · exact ob_pick (b := false) (p := (!decide (x6.1 = x8.1)) || (!decide (x6.2 = x8.2))) (q := !((f13 x10.1 x12.1).getD default)) rfl rfl rfl (fun hg => allT_of ⟨rfl, trivial⟩) rfl rfl rfl rfl rfl
    · exact ob_v rfl (fun hg => allT_of ⟨rfl, trivial⟩) (fun hg => av_move rfl)
    · exact ob_v ⟨rfl, rfl, rfl, _, rfl, rfl⟩ (fun hg => allT_of ⟨rfl, trivial⟩) (fun hg => av_move rfl)
    · exact ob_v ⟨rfl, rfl, rfl, _, rfl, rfl⟩ (fun hg => allT_of ⟨rfl, trivial⟩) (fun hg => av_move rfl)
    · exact ob_v ⟨rfl, rfl, rfl, _, rfl, rfl⟩ (fun hg => allT_of ⟨hg, hg, rfl, trivial⟩) (fun hg => av_neq rfl rfl)
    · exact ob_pick (b := false) (p := ((!decide (x6.1 = x8.1)) || (!decide (x6.2 = x8.2))) || (!((f13 x10.1 x12.1).getD default))) (q := !decide (x10.2 = x12.2)) rfl rfl rfl (fun hg => allT_of ⟨rfl, trivial⟩) rfl rfl rfl rfl rfl
    refine athen_norm ?_
    refine awc_cond (b := (((!decide (x6.1 = x8.1)) || (!decide (x6.2 = x8.2))) || (!((f13 x10.1 x12.1).getD default))) || (!decide (x10.2 = x12.2))) rfl (fun hc15 => ?_) (fun hc15 => ?_)
    · have hr := if_t hc15 hr
      refine awc_seq ?_
      refine awc_region ?_
      refine awl_v (av_assign rfl) ?_
      have hr := Option.some.inj hr
      subst hr
      exact awl_nil (athen_norm (awc_ret (athen_ret (ret_q (l' := [(10, .bool false)]) (wk_of hX [] 4 rfl rfl ⟨⟨_, rfl, cv0⟩, trivial⟩ trivial) rfl ⟨rfl, trivial⟩))))
    · have hr := if_f hc15 hr
      refine awc_skip (athen_norm (awc_seq ?_))
      refine awc_region ?_
      refine awl_v (av_move rfl) ?_
      refine awl_v (av_move rfl) ?_
      refine awl_v (av_move rfl) ?_
      obtain ⟨x16, e17, hr⟩ := bnd_some hr
      refine awl_v (av_call (f36_runs e17) ent36 rfl rfl) ?_
      refine awl_v (av_move rfl) ?_
      refine awl_v (av_extract rfl rfl) ?_
      refine awl_v (av_extract rfl rfl) ?_
      refine awl_v (av_assign rfl) ?_
      refine awl_v (av_assign rfl) ?_
      refine awl_nil (athen_norm (awc_seq ?_))
      refine awc_region ?_
      refine awl_v (av_move rfl) ?_
      refine awl_v (av_move rfl) ?_
      refine awl_v (av_move rfl) ?_
      obtain ⟨x18, e19, hr⟩ := bnd_some hr
      refine awl_v (av_call (f37_runs e19) ent37 rfl rfl) ?_
      refine awl_v (av_move rfl) ?_
      refine awl_v (av_extract rfl rfl) ?_
      refine awl_v (av_extract rfl rfl) ?_
      refine awl_v (av_assign rfl) ?_
      refine awl_v (av_assign rfl) ?_
      refine awl_nil (athen_norm (awc_seq ?_))
      refine awc_region ?_
      refine awl_v (av_move rfl) ?_
      refine awl_v (av_move rfl) ?_
      refine awl_v (av_move rfl) ?_
      obtain ⟨x20, e21, hr⟩ := bnd_some hr
      refine awl_v (av_call (f38_runs e21) ent38 rfl rfl) ?_
      refine awl_v (av_move rfl) ?_
      refine awl_v (av_extract rfl rfl) ?_
      refine awl_v (av_extract rfl rfl) ?_
      refine awl_v (av_assign rfl) ?_
      refine awl_v (av_assign rfl) ?_
      refine awl_nil (athen_norm (awc_seq ?_))
      refine awc_region ?_
      refine awl_v (av_move rfl) ?_
      refine awl_v (av_move rfl) ?_
      refine awl_v (av_move rfl) ?_
      obtain ⟨x22, e23, hr⟩ := bnd_some hr
      refine awl_v (av_call (f39_runs e23) ent39 rfl rfl) ?_
      refine awl_v (av_move rfl) ?_
      refine awl_v (av_extract rfl rfl) ?_
      refine awl_v (av_extract rfl rfl) ?_
      refine awl_v (av_assign rfl) ?_
      refine awl_v (av_assign rfl) ?_
      refine awl_nil (athen_norm (awc_seq (awc_seq ?_)))
      obtain ⟨x24, e25, hr⟩ := bnd_some hr
      obtain ⟨h26, hr⟩ := chk_some hr
      refine awc_text [0, 1, 2, 3, 10, 11, 12, 15, 16, 19, 20, 21, 22, 23, 24, 25, 26] [(true, .sl (.int .i64) x16.1), (true, .sl (.int .i64) x18.1), (true, .bool x24), (true, .bool (!x24)), (true, .bool (!x24)), (!(!x24), .int .i64 x16.2), (!(!x24), .int .i64 x18.2), (!(!x24), .bool (!decide (x16.2 = x18.2))), (true, .bool ((!x24) || (!decide (x16.2 = x18.2)))), (true, .bool ((!x24) || (!decide (x16.2 = x18.2)))), (!((!x24) || (!decide (x16.2 = x18.2))), .sl (.int .i64) x20.1), (!((!x24) || (!decide (x16.2 = x18.2))), .sl (.int .i64) x22.1), (!((!x24) || (!decide (x16.2 = x18.2))), .bool ((f13 x20.1 x22.1).getD default)), (!((!x24) || (!decide (x16.2 = x18.2))), .bool (!((f13 x20.1 x22.1).getD default))), (true, .bool (((!x24) || (!decide (x16.2 = x18.2))) || (!((f13 x20.1 x22.1).getD default)))), (true, .bool (((!x24) || (!decide (x16.2 = x18.2))) || (!((f13 x20.1 x22.1).getD default)))), (!(((!x24) || (!decide (x16.2 = x18.2))) || (!((f13 x20.1 x22.1).getD default))), .int .i64 x20.2), (!(((!x24) || (!decide (x16.2 = x18.2))) || (!((f13 x20.1 x22.1).getD default))), .int .i64 x22.2), (!(((!x24) || (!decide (x16.2 = x18.2))) || (!((f13 x20.1 x22.1).getD default))), .bool (!decide (x20.2 = x22.2))), (true, .bool ((((!x24) || (!decide (x16.2 = x18.2))) || (!((f13 x20.1 x22.1).getD default))) || (!decide (x20.2 = x22.2))))] [[], [], [0, 1], [2], [3], [4], [4], [5, 6, 4], [7, 4], [8], [9], [9], [10, 11, 9], [12, 9], [13, 9], [14], [15], [15], [16, 17, 15], [18, 15]] [19] rfl rfl rfl rfl rfl ⟨?_, ?_, ?_, ?_, ?_, ?_, ?_, ?_, ?_, ?_, ?_, ?_, ?_, ?_, ?_, ?_, ?_, ?_, ?_, ?_, trivial⟩ (allT_of ⟨rfl, trivial⟩) ?_
      · exact ob_v rfl (fun hg => allT_of trivial) (fun hg => av_move rfl)
      · exact ob_v rfl (fun hg => allT_of trivial) (fun hg => av_move rfl)
      · exact ob_v rfl (fun hg => allT_of ⟨rfl, rfl, trivial⟩) (fun hg => av_call (f13_runs e25) ent13 rfl rfl)
      · exact ob_v rfl (fun hg => allT_of ⟨rfl, trivial⟩) (fun hg => av_not rfl)
      · exact ob_v rfl (fun hg => allT_of ⟨rfl, trivial⟩) (fun hg => av_move rfl)
      · exact ob_v ⟨rfl, rfl, rfl, _, rfl, rfl⟩ (fun hg => allT_of ⟨rfl, trivial⟩) (fun hg => av_move rfl)
      · exact ob_v ⟨rfl, rfl, rfl, _, rfl, rfl⟩ (fun hg => allT_of ⟨rfl, trivial⟩) (fun hg => av_move rfl)
      · exact ob_v ⟨rfl, rfl, rfl, _, rfl, rfl⟩ (fun hg => allT_of ⟨hg, hg, rfl, trivial⟩) (fun hg => av_neq rfl rfl)
      · exact ob_pick (b := false) (p := !x24) (q := !decide (x16.2 = x18.2)) rfl rfl rfl (fun hg => allT_of ⟨rfl, trivial⟩) rfl rfl rfl rfl rfl
      · exact ob_v rfl (fun hg => allT_of ⟨rfl, trivial⟩) (fun hg => av_move rfl)
      · exact ob_v ⟨rfl, rfl, rfl, _, rfl, rfl⟩ (fun hg => allT_of ⟨rfl, trivial⟩) (fun hg => av_move rfl)
      · exact ob_v ⟨rfl, rfl, rfl, _, rfl, rfl⟩ (fun hg => allT_of ⟨rfl, trivial⟩) (fun hg => av_move rfl)
      · exact ob_v ⟨rfl, rfl, rfl, _, rfl, rfl⟩ (fun hg => allT_of ⟨hg, hg, rfl, trivial⟩) (fun hg => av_call (f13_runs (get_g h26 hg)) ent13 rfl rfl)
      · exact ob_v ⟨rfl, rfl, rfl, _, rfl, rfl⟩ (fun hg => allT_of ⟨hg, rfl, trivial⟩) (fun hg => av_not rfl)
      · exact ob_pick (b := false) (p := (!x24) || (!decide (x16.2 = x18.2))) (q := !((f13 x20.1 x22.1).getD default)) rfl rfl rfl (fun hg => allT_of ⟨rfl, trivial⟩) rfl rfl rfl rfl rfl
      · exact ob_v rfl (fun hg => allT_of ⟨rfl, trivial⟩) (fun hg => av_move rfl)
      · exact ob_v ⟨rfl, rfl, rfl, _, rfl, rfl⟩ (fun hg => allT_of ⟨rfl, trivial⟩) (fun hg => av_move rfl)
      · exact ob_v ⟨rfl, rfl, rfl, _, rfl, rfl⟩ (fun hg => allT_of ⟨rfl, trivial⟩) (fun hg => av_move rfl)
      · exact ob_v ⟨rfl, rfl, rfl, _, rfl, rfl⟩ (fun hg => allT_of ⟨hg, hg, rfl, trivial⟩) (fun hg => av_neq rfl rfl)
      · exact ob_pick (b := false) (p := ((!x24) || (!decide (x16.2 = x18.2))) || (!((f13 x20.1 x22.1).getD default))) (q := !decide (x20.2 = x22.2)) rfl rfl rfl (fun hg => allT_of ⟨rfl, trivial⟩) rfl rfl rfl rfl rfl
      refine athen_norm ?_
      refine awc_cond (b := (((!x24) || (!decide (x16.2 = x18.2))) || (!((f13 x20.1 x22.1).getD default))) || (!decide (x20.2 = x22.2))) rfl (fun hc27 => ?_) (fun hc27 => ?_)
      · have hr := if_t hc27 hr
        refine awc_seq ?_
        refine awc_region ?_
        refine awl_v (av_assign rfl) ?_
        have hr := Option.some.inj hr
        subst hr
        exact awl_nil (athen_norm (awc_ret (athen_ret (ret_q (l' := [(10, .bool false)]) (wk_of hX [] 4 rfl rfl ⟨⟨_, rfl, cv0⟩, trivial⟩ trivial) rfl ⟨rfl, trivial⟩))))
      · have hr := if_f hc27 hr
        refine awc_skip (athen_norm ?_)
        obtain ⟨o28, e29, hr⟩ := bnd_some hr
        refine awc_join (S := Unit) (R := Unit) (fun s => match s with | () => (⟨[(0, .int .i64 p0), (1, .sl Y1 p1), (2, .sl (.int .i64) p2), (3, .sl (.int .i64) p3), (10, .bool false), (11, .bool x6.1), (12, .int .i64 x6.2), (19, .sl (.int .i64) x16.1), (20, .int .i64 x16.2)], [], 0⟩ : AS)) (fun r e st => match r with | () => e = .ret ∧ Wk X st ⟨[(10, .bool false)], [], 0⟩) e29 (fun hr => ?_) ?_ ?_
        · refine awc_seq ?_
          refine awc_region ?_
          refine awl_v (av_move rfl) ?_
          refine awl_v (av_eql rfl rfl) ?_
          refine awl_nil (athen_norm ?_)
          refine awc_cond (b := decide (x10.2 = 0)) rfl (fun hc30 => ?_) (fun hc30 => ?_)
          · have hr := if_t hc30 hr
            refine awc_seq ?_
            refine awc_region ?_
            refine awl_v (av_move rfl) ?_
            refine awl_v (av_move rfl) ?_
            refine awl_v (av_move rfl) ?_
            obtain ⟨x31, e32, hr⟩ := bnd_some hr
            refine awl_v (av_call (f32_runs e32) ent32 rfl rfl) ?_
            refine awl_v (av_move rfl) ?_
            refine awl_v (av_extract rfl rfl) ?_
            refine awl_v (av_extract rfl rfl) ?_
            refine awl_v (av_assign rfl) ?_
            refine awl_v (av_assign rfl) ?_
            refine awl_nil (athen_norm (awc_seq ?_))
            refine awc_text [0, 1, 2, 3, 10, 11, 12, 19, 20, 27, 28] [(true, .int .i64 x31.2), (true, .bool (!decide (x31.2 = 0))), (true, .bool (!decide (x31.2 = 0))), (!(!decide (x31.2 = 0)), .bool x31.1), (!(!decide (x31.2 = 0)), .bool (!x31.1)), (true, .bool ((!decide (x31.2 = 0)) || (!x31.1)))] [[], [0], [1], [2], [3, 2], [4, 2]] [5] rfl rfl rfl rfl rfl ⟨?_, ?_, ?_, ?_, ?_, ?_, trivial⟩ (allT_of ⟨rfl, trivial⟩) ?_
            · exact ob_v rfl (fun hg => allT_of trivial) (fun hg => av_move rfl)
            · exact ob_v rfl (fun hg => allT_of ⟨rfl, trivial⟩) (fun hg => av_neq rfl rfl)
            · exact ob_v rfl (fun hg => allT_of ⟨rfl, trivial⟩) (fun hg => av_move rfl)
            · exact ob_v ⟨rfl, rfl, rfl, _, rfl, rfl⟩ (fun hg => allT_of ⟨rfl, trivial⟩) (fun hg => av_move rfl)
            · exact ob_v ⟨rfl, rfl, rfl, _, rfl, rfl⟩ (fun hg => allT_of ⟨hg, rfl, trivial⟩) (fun hg => av_not rfl)
            · exact ob_pick (b := false) (p := !decide (x31.2 = 0)) (q := !x31.1) rfl rfl rfl (fun hg => allT_of ⟨rfl, trivial⟩) rfl rfl rfl rfl rfl
            refine athen_norm ?_
            refine awc_cond (b := (!decide (x31.2 = 0)) || (!x31.1)) rfl (fun hc33 => ?_) (fun hc33 => ?_)
            · have hr := if_t hc33 hr
              refine awc_seq ?_
              refine awc_region ?_
              refine awl_v (av_assign rfl) ?_
              have hr := Option.some.inj hr
              subst hr
              exact awl_nil (athen_norm (awc_ret (⟨rfl, (wk_of hX [] 4 rfl rfl ⟨⟨_, rfl, cv0⟩, trivial⟩ trivial)⟩)))
            · have hr := if_f hc33 hr
              have hr := Option.some.inj hr
              subst hr
              exact awc_skip ((wk_of hX [] 4 rfl rfl ⟨⟨_, rfl, cv0⟩, ⟨_, rfl, cv0⟩, ⟨_, rfl, cv0⟩, ⟨_, rfl, cv0⟩, ⟨_, rfl, cv0⟩, ⟨_, rfl, cv0⟩, ⟨_, rfl, cv0⟩, ⟨_, rfl, cv0⟩, ⟨_, rfl, cv0⟩, trivial⟩ trivial))
          · have hr := if_f hc30 hr
            have hr := Option.some.inj hr
            subst hr
            exact awc_skip ((wk_of hX [] 4 rfl rfl ⟨⟨_, rfl, cv0⟩, ⟨_, rfl, cv0⟩, ⟨_, rfl, cv0⟩, ⟨_, rfl, cv0⟩, ⟨_, rfl, cv0⟩, ⟨_, rfl, cv0⟩, ⟨_, rfl, cv0⟩, ⟨_, rfl, cv0⟩, ⟨_, rfl, cv0⟩, trivial⟩ trivial))
        · rintro _ rfl
          obtain ⟨o34, e35, hr⟩ := bnd_some hr
          refine awc_join (S := Unit) (R := Unit) (fun s => match s with | () => (⟨[(0, .int .i64 p0), (1, .sl Y1 p1), (2, .sl (.int .i64) p2), (3, .sl (.int .i64) p3), (10, .bool false), (11, .bool x6.1), (12, .int .i64 x6.2)], [], 0⟩ : AS)) (fun r e st => match r with | () => e = .ret ∧ Wk X st ⟨[(10, .bool false)], [], 0⟩) e35 (fun hr => ?_) ?_ ?_
          · refine awc_seq ?_
            refine awc_region ?_
            refine awl_v (av_move rfl) ?_
            refine awl_v (av_eql rfl rfl) ?_
            refine awl_nil (athen_norm ?_)
            refine awc_cond (b := decide (x16.2 = 0)) rfl (fun hc36 => ?_) (fun hc36 => ?_)
            · have hr := if_t hc36 hr
              refine awc_seq ?_
              refine awc_region ?_
              refine awl_v (av_move rfl) ?_
              refine awl_v (av_move rfl) ?_
              refine awl_v (av_move rfl) ?_
              obtain ⟨x37, e38, hr⟩ := bnd_some hr
              refine awl_v (av_call (f32_runs e38) ent32 rfl rfl) ?_
              refine awl_v (av_move rfl) ?_
              refine awl_v (av_extract rfl rfl) ?_
              refine awl_v (av_extract rfl rfl) ?_
              refine awl_v (av_assign rfl) ?_
              refine awl_v (av_assign rfl) ?_
              refine awl_nil (athen_norm (awc_seq ?_))
              obtain ⟨h39, hr⟩ := chk_some hr
              obtain ⟨h40, hr⟩ := chk_some hr
              refine awc_text [0, 1, 2, 3, 10, 11, 12, 19, 29, 30] [(true, .int .i64 x37.2), (true, .bool (!decide (x37.2 = 0))), (true, .bool (!decide (x37.2 = 0))), (!(!decide (x37.2 = 0)), .bool x37.1), (!(!decide (x37.2 = 0)), .bool (!x37.1)), (true, .bool ((!decide (x37.2 = 0)) || (!x37.1))), (true, .bool ((!decide (x37.2 = 0)) || (!x37.1))), (!((!decide (x37.2 = 0)) || (!x37.1)), .sl (.int .i64) x16.1), (!((!decide (x37.2 = 0)) || (!x37.1)), .sl (.int .i64) p2), (!((!decide (x37.2 = 0)) || (!x37.1)), .bool ((f40 x16.1 p2).getD default)), (!((!decide (x37.2 = 0)) || (!x37.1)), .bool (!((f40 x16.1 p2).getD default))), (true, .bool (((!decide (x37.2 = 0)) || (!x37.1)) || (!((f40 x16.1 p2).getD default)))), (true, .bool (((!decide (x37.2 = 0)) || (!x37.1)) || (!((f40 x16.1 p2).getD default)))), (!(((!decide (x37.2 = 0)) || (!x37.1)) || (!((f40 x16.1 p2).getD default))), .bool x6.1), (!(((!decide (x37.2 = 0)) || (!x37.1)) || (!((f40 x16.1 p2).getD default))), .bool x6.1), ((!(((!decide (x37.2 = 0)) || (!x37.1)) || (!((f40 x16.1 p2).getD default)))) && x6.1, .sl (.int .i64) x16.1), ((!(((!decide (x37.2 = 0)) || (!x37.1)) || (!((f40 x16.1 p2).getD default)))) && x6.1, .sl (.int .i64) p2), ((!(((!decide (x37.2 = 0)) || (!x37.1)) || (!((f40 x16.1 p2).getD default)))) && x6.1, .bool ((f13 x16.1 p2).getD default)), ((!(((!decide (x37.2 = 0)) || (!x37.1)) || (!((f40 x16.1 p2).getD default)))) && x6.1, .bool (!((f13 x16.1 p2).getD default))), (!(((!decide (x37.2 = 0)) || (!x37.1)) || (!((f40 x16.1 p2).getD default))), .bool (x6.1 && (!((f13 x16.1 p2).getD default)))), (true, .bool ((((!decide (x37.2 = 0)) || (!x37.1)) || (!((f40 x16.1 p2).getD default))) || (x6.1 && (!((f13 x16.1 p2).getD default)))))] [[], [0], [1], [2], [3, 2], [4, 2], [5], [6], [6], [7, 8, 6], [9, 6], [10, 6], [11], [12], [13, 12], [14], [14], [15, 16, 14], [17, 14], [18, 14, 12], [19, 12]] [20] rfl rfl rfl rfl rfl ⟨?_, ?_, ?_, ?_, ?_, ?_, ?_, ?_, ?_, ?_, ?_, ?_, ?_, ?_, ?_, ?_, ?_, ?_, ?_, ?_, ?_, trivial⟩ (allT_of ⟨rfl, trivial⟩) ?_
              · exact ob_v rfl (fun hg => allT_of trivial) (fun hg => av_move rfl)
              · exact ob_v rfl (fun hg => allT_of ⟨rfl, trivial⟩) (fun hg => av_neq rfl rfl)
              · exact ob_v rfl (fun hg => allT_of ⟨rfl, trivial⟩) (fun hg => av_move rfl)
              · exact ob_v ⟨rfl, rfl, rfl, _, rfl, rfl⟩ (fun hg => allT_of ⟨rfl, trivial⟩) (fun hg => av_move rfl)
              · exact ob_v ⟨rfl, rfl, rfl, _, rfl, rfl⟩ (fun hg => allT_of ⟨hg, rfl, trivial⟩) (fun hg => av_not rfl)
              · exact ob_pick (b := false) (p := !decide (x37.2 = 0)) (q := !x37.1) rfl rfl rfl (fun hg => allT_of ⟨rfl, trivial⟩) rfl rfl rfl rfl rfl
              · exact ob_v rfl (fun hg => allT_of ⟨rfl, trivial⟩) (fun hg => av_move rfl)
              · exact ob_v ⟨rfl, rfl, rfl, _, rfl, rfl⟩ (fun hg => allT_of ⟨rfl, trivial⟩) (fun hg => av_move rfl)
              · exact ob_v ⟨rfl, rfl, rfl, _, rfl, rfl⟩ (fun hg => allT_of ⟨rfl, trivial⟩) (fun hg => av_move rfl)
              · exact ob_v ⟨rfl, rfl, rfl, _, rfl, rfl⟩ (fun hg => allT_of ⟨hg, hg, rfl, trivial⟩) (fun hg => av_call (f40_runs (get_g h39 hg)) ent40 rfl rfl)
              · exact ob_v ⟨rfl, rfl, rfl, _, rfl, rfl⟩ (fun hg => allT_of ⟨hg, rfl, trivial⟩) (fun hg => av_not rfl)
              · exact ob_pick (b := false) (p := (!decide (x37.2 = 0)) || (!x37.1)) (q := !((f40 x16.1 p2).getD default)) rfl rfl rfl (fun hg => allT_of ⟨rfl, trivial⟩) rfl rfl rfl rfl rfl
              · exact ob_v rfl (fun hg => allT_of ⟨rfl, trivial⟩) (fun hg => av_move rfl)
              · exact ob_v ⟨rfl, rfl, rfl, _, rfl, rfl⟩ (fun hg => allT_of ⟨rfl, trivial⟩) (fun hg => av_move rfl)
              · exact ob_v ⟨rfl, rfl, rfl, _, rfl, rfl⟩ (fun hg => allT_of ⟨hg, rfl, trivial⟩) (fun hg => av_move rfl)
              · exact ob_v ⟨rfl, rfl, rfl, _, rfl, rfl⟩ (fun hg => allT_of ⟨(and_l hg), trivial⟩) (fun hg => av_move rfl)
              · exact ob_v ⟨rfl, rfl, rfl, _, rfl, rfl⟩ (fun hg => allT_of ⟨(and_l hg), trivial⟩) (fun hg => av_move rfl)
              · exact ob_v ⟨rfl, rfl, rfl, _, rfl, rfl⟩ (fun hg => allT_of ⟨hg, hg, (and_l hg), trivial⟩) (fun hg => av_call (f13_runs (get_g h40 hg)) ent13 rfl rfl)
              · exact ob_v ⟨rfl, rfl, rfl, _, rfl, rfl⟩ (fun hg => allT_of ⟨hg, (and_l hg), trivial⟩) (fun hg => av_not rfl)
              · exact ob_pick (b := true) (p := x6.1) (q := !((f13 x16.1 p2).getD default)) ⟨rfl, rfl, rfl, _, rfl, rfl⟩ rfl rfl (fun hg => allT_of ⟨hg, rfl, trivial⟩) rfl rfl rfl rfl rfl
              · exact ob_pick (b := false) (p := ((!decide (x37.2 = 0)) || (!x37.1)) || (!((f40 x16.1 p2).getD default))) (q := x6.1 && (!((f13 x16.1 p2).getD default))) rfl rfl rfl (fun hg => allT_of ⟨rfl, trivial⟩) rfl rfl rfl rfl rfl
              refine athen_norm ?_
              refine awc_cond (b := (((!decide (x37.2 = 0)) || (!x37.1)) || (!((f40 x16.1 p2).getD default))) || (x6.1 && (!((f13 x16.1 p2).getD default)))) rfl (fun hc41 => ?_) (fun hc41 => ?_)
              · have hr := if_t hc41 hr
                refine awc_seq ?_
                refine awc_region ?_
                refine awl_v (av_assign rfl) ?_
                have hr := Option.some.inj hr
                subst hr
                exact awl_nil (athen_norm (awc_ret (⟨rfl, (wk_of hX [] 4 rfl rfl ⟨⟨_, rfl, cv0⟩, trivial⟩ trivial)⟩)))
              · have hr := if_f hc41 hr
                have hr := Option.some.inj hr
                subst hr
                exact awc_skip ((wk_of hX [] 4 rfl rfl ⟨⟨_, rfl, cv0⟩, ⟨_, rfl, cv0⟩, ⟨_, rfl, cv0⟩, ⟨_, rfl, cv0⟩, ⟨_, rfl, cv0⟩, ⟨_, rfl, cv0⟩, ⟨_, rfl, cv0⟩, trivial⟩ trivial))
            · have hr := if_f hc36 hr
              have hr := Option.some.inj hr
              subst hr
              exact awc_skip ((wk_of hX [] 4 rfl rfl ⟨⟨_, rfl, cv0⟩, ⟨_, rfl, cv0⟩, ⟨_, rfl, cv0⟩, ⟨_, rfl, cv0⟩, ⟨_, rfl, cv0⟩, ⟨_, rfl, cv0⟩, ⟨_, rfl, cv0⟩, trivial⟩ trivial))
          · rintro _ rfl
            refine awc_seq (awc_seq ?_)
            refine awc_region ?_
            refine awl_v (av_move rfl) ?_
            refine awl_v (av_move rfl) ?_
            refine awl_v (av_move rfl) ?_
            obtain ⟨x42, e43, hr⟩ := bnd_some hr
            refine awl_v (av_call (f32_runs e43) ent32 rfl rfl) ?_
            refine awl_v (av_move rfl) ?_
            refine awl_v (av_extract rfl rfl) ?_
            refine awl_v (av_extract rfl rfl) ?_
            refine awl_v (av_assign rfl) ?_
            refine awl_v (av_assign rfl) ?_
            refine awl_nil (athen_norm (awc_seq ?_))
            refine awc_text [0, 1, 2, 3, 10, 11, 12, 31, 32] [(true, .int .i64 x6.2), (true, .bool (!decide (x6.2 = 0))), (true, .bool (!decide (x6.2 = 0))), (!(!decide (x6.2 = 0)), .int .i64 x42.2), (!(!decide (x6.2 = 0)), .bool (!decide (x42.2 = 0))), (true, .bool ((!decide (x6.2 = 0)) || (!decide (x42.2 = 0)))), (true, .bool ((!decide (x6.2 = 0)) || (!decide (x42.2 = 0)))), (!((!decide (x6.2 = 0)) || (!decide (x42.2 = 0))), .bool x6.1), (!((!decide (x6.2 = 0)) || (!decide (x42.2 = 0))), .bool (!x6.1)), (true, .bool (((!decide (x6.2 = 0)) || (!decide (x42.2 = 0))) || (!x6.1))), (true, .bool (((!decide (x6.2 = 0)) || (!decide (x42.2 = 0))) || (!x6.1))), (!(((!decide (x6.2 = 0)) || (!decide (x42.2 = 0))) || (!x6.1)), .bool x42.1), (!(((!decide (x6.2 = 0)) || (!decide (x42.2 = 0))) || (!x6.1)), .bool (!x42.1)), (true, .bool ((((!decide (x6.2 = 0)) || (!decide (x42.2 = 0))) || (!x6.1)) || (!x42.1)))] [[], [0], [1], [2], [3, 2], [4, 2], [5], [6], [7, 6], [8, 6], [9], [10], [11, 10], [12, 10]] [13] rfl rfl rfl rfl rfl ⟨?_, ?_, ?_, ?_, ?_, ?_, ?_, ?_, ?_, ?_, ?_, ?_, ?_, ?_, trivial⟩ (allT_of ⟨rfl, trivial⟩) ?_
            · exact ob_v rfl (fun hg => allT_of trivial) (fun hg => av_move rfl)
            · exact ob_v rfl (fun hg => allT_of ⟨rfl, trivial⟩) (fun hg => av_neq rfl rfl)
            · exact ob_v rfl (fun hg => allT_of ⟨rfl, trivial⟩) (fun hg => av_move rfl)
            · exact ob_v ⟨rfl, rfl, rfl, _, rfl, rfl⟩ (fun hg => allT_of ⟨rfl, trivial⟩) (fun hg => av_move rfl)
            · exact ob_v ⟨rfl, rfl, rfl, _, rfl, rfl⟩ (fun hg => allT_of ⟨hg, rfl, trivial⟩) (fun hg => av_neq rfl rfl)
            · exact ob_pick (b := false) (p := !decide (x6.2 = 0)) (q := !decide (x42.2 = 0)) rfl rfl rfl (fun hg => allT_of ⟨rfl, trivial⟩) rfl rfl rfl rfl rfl
            · exact ob_v rfl (fun hg => allT_of ⟨rfl, trivial⟩) (fun hg => av_move rfl)
            · exact ob_v ⟨rfl, rfl, rfl, _, rfl, rfl⟩ (fun hg => allT_of ⟨rfl, trivial⟩) (fun hg => av_move rfl)
            · exact ob_v ⟨rfl, rfl, rfl, _, rfl, rfl⟩ (fun hg => allT_of ⟨hg, rfl, trivial⟩) (fun hg => av_not rfl)
            · exact ob_pick (b := false) (p := (!decide (x6.2 = 0)) || (!decide (x42.2 = 0))) (q := !x6.1) rfl rfl rfl (fun hg => allT_of ⟨rfl, trivial⟩) rfl rfl rfl rfl rfl
            · exact ob_v rfl (fun hg => allT_of ⟨rfl, trivial⟩) (fun hg => av_move rfl)
            · exact ob_v ⟨rfl, rfl, rfl, _, rfl, rfl⟩ (fun hg => allT_of ⟨rfl, trivial⟩) (fun hg => av_move rfl)
            · exact ob_v ⟨rfl, rfl, rfl, _, rfl, rfl⟩ (fun hg => allT_of ⟨hg, rfl, trivial⟩) (fun hg => av_not rfl)
            · exact ob_pick (b := false) (p := ((!decide (x6.2 = 0)) || (!decide (x42.2 = 0))) || (!x6.1)) (q := !x42.1) rfl rfl rfl (fun hg => allT_of ⟨rfl, trivial⟩) rfl rfl rfl rfl rfl
            refine athen_norm ?_
            refine awc_cond (b := (((!decide (x6.2 = 0)) || (!decide (x42.2 = 0))) || (!x6.1)) || (!x42.1)) rfl (fun hc44 => ?_) (fun hc44 => ?_)
            · have hr := if_t hc44 hr
              refine awc_seq ?_
              refine awc_region ?_
              obtain ⟨x45, e46, hr⟩ := bnd_some hr
              refine awl_v (av_call (f8_runs e46) ent8 rfl rfl) ?_
              refine awl_v (av_assign rfl) ?_
              have hr := Option.some.inj hr
              subst hr
              exact awl_nil (athen_norm (awc_ret (athen_ret (ret_q (l' := [(10, .bool x45)]) (wk_of hX [] 4 rfl rfl ⟨⟨_, rfl, cv0⟩, trivial⟩ trivial) rfl ⟨rfl, trivial⟩))))
            · have hr := if_f hc44 hr
              refine awc_skip (athen_norm (awc_seq ?_))
              refine awc_region ?_
              refine awl_v (av_assign rfl) ?_
              refine awl_v (av_assign rfl) ?_
              refine awl_nil (athen_norm (awc_seq (awc_seq ?_)))
              refine awc_region ?_
              refine awl_v (av_move rfl) ?_
              refine awl_v (av_len_sl (t := (.int .i64)) rfl rfl und22 rfl) ?_
              refine awl_v (av_move rfl) ?_
              refine awl_nil (athen_norm (awc_block ?_))
              obtain ⟨o54, e55, hr⟩ := bnd_some hr
              refine awc_len (t := 2) rfl (fun hl => ?_)
              refine awc_range (S := List Int × List Int) (R := Unit) (List.length p2 : Int) (f6_b0 p2 p3) (fun p => match p with | (i47, s49, s50) => (⟨[(0, .int .i64 p0), (1, .sl Y1 p1), (2, .sl (.int .i64) p2), (3, .sl (.int .i64) p3), (10, .bool false), (33, .osl 0), (34, .osl 1), (222, .int .i64 (List.length p2 : Int)), (223, .int .i64 i47)], [(0, .sl 3 (.int .i64) s49), (1, .sl 3 (.int .i64) s50)], 2⟩ : AS)) (fun o e st => match o with | .inr _ => False | .inl (s49, s50) => e = .exit 0 ∧ Wk X st ⟨[(0, .int .i64 p0), (1, .sl Y1 p1), (10, .bool false), (33, .osl 0), (34, .osl 1)], [(0, .sl 3 (.int .i64) s49), (1, .sl 3 (.int .i64) s50)], 2⟩) (len_ok hl) e55 (Wk.trans (wk_own (t := 33) 3 (.int .i64) rfl) (Wk.trans (wk_own (t := 34) 3 (.int .i64) rfl) (wk_of hX [0, 1] 4 rfl rfl ⟨⟨_, rfl, cv0⟩, ⟨_, rfl, cv0⟩, ⟨_, rfl, cv0⟩, ⟨_, rfl, cv0⟩, ⟨_, rfl, cv0⟩, ⟨_, rfl, cv0⟩, ⟨_, rfl, cv0⟩, ⟨_, rfl, cv0⟩, ⟨_, rfl, cv0⟩, trivial⟩ ⟨cvo0, cvo0, trivial⟩))) ?_ ?_
              · intro e st hx
                rcases o54 with ⟨s49, s50⟩ | _
                · obtain ⟨rfl, hw⟩ := hx
                  refine ablock_here (athen_norm ((awc_wk hw) (awc_seq ?_)))
                  refine awc_region ?_
                  refine awl_v (av_move rfl) ?_
                  refine awl_v (av_move rfl) ?_
                  refine awl_v (av_move rfl) ?_
                  obtain ⟨x56, e57, hr⟩ := bnd_some hr
                  refine awl_v (av_callB (as' := [.int .i64 p0, .sl Y1 p1, .osl 0]) (f32_runs e57) ent32 rfl ⟨cv0, cv0, cv0, trivial⟩ rfl rfl) ?_
                  refine awl_v (av_move rfl) ?_
                  refine awl_v (av_extract rfl rfl) ?_
                  refine awl_v (av_extract rfl rfl) ?_
                  refine awl_v (av_assign rfl) ?_
                  refine awl_v (av_assign rfl) ?_
                  refine awl_nil (athen_norm (awc_seq ?_))
                  refine awc_region ?_
                  refine awl_v (av_move rfl) ?_
                  refine awl_v (av_move rfl) ?_
                  refine awl_v (av_move rfl) ?_
                  obtain ⟨x58, e59, hr⟩ := bnd_some hr
                  refine awl_v (av_callB (as' := [.int .i64 p0, .sl Y1 p1, .osl 1]) (f32_runs e59) ent32 rfl ⟨cv0, cv0, cv0, trivial⟩ rfl rfl) ?_
                  refine awl_v (av_move rfl) ?_
                  refine awl_v (av_extract rfl rfl) ?_
                  refine awl_v (av_extract rfl rfl) ?_
                  refine awl_v (av_assign rfl) ?_
                  refine awl_v (av_assign rfl) ?_
                  refine awl_nil (athen_norm (awc_seq ?_))
                  obtain ⟨h60, hr⟩ := chk_some hr
                  refine awc_text [36, 37, 38, 39] [(true, .int .i64 x56.2), (true, .bool (decide (x56.2 = 0))), (true, .bool (decide (x56.2 = 0))), (decide (x56.2 = 0), .int .i64 x58.2), (decide (x56.2 = 0), .bool (decide (x58.2 = 0))), (true, .bool ((decide (x56.2 = 0)) && (decide (x58.2 = 0)))), (true, .bool ((decide (x56.2 = 0)) && (decide (x58.2 = 0)))), ((decide (x56.2 = 0)) && (decide (x58.2 = 0)), .bool x56.1), (true, .bool (((decide (x56.2 = 0)) && (decide (x58.2 = 0))) && x56.1)), (true, .bool (((decide (x56.2 = 0)) && (decide (x58.2 = 0))) && x56.1)), (((decide (x56.2 = 0)) && (decide (x58.2 = 0))) && x56.1, .bool x58.1), (true, .bool ((((decide (x56.2 = 0)) && (decide (x58.2 = 0))) && x56.1) && x58.1)), (true, .bool ((((decide (x56.2 = 0)) && (decide (x58.2 = 0))) && x56.1) && x58.1)), ((((decide (x56.2 = 0)) && (decide (x58.2 = 0))) && x56.1) && x58.1, .bool ((f8).getD default)), (true, .bool (((((decide (x56.2 = 0)) && (decide (x58.2 = 0))) && x56.1) && x58.1) && ((f8).getD default))), (true, .bool (((((decide (x56.2 = 0)) && (decide (x58.2 = 0))) && x56.1) && x58.1) && ((f8).getD default)))] [[], [0], [1], [2], [3, 2], [4, 2], [5], [6], [7, 6], [8], [9], [10, 9], [11], [12], [13, 12], [14]] [15] rfl rfl rfl rfl rfl ⟨?_, ?_, ?_, ?_, ?_, ?_, ?_, ?_, ?_, ?_, ?_, ?_, ?_, ?_, ?_, ?_, trivial⟩ (allT_of ⟨rfl, trivial⟩) ?_
                  · exact ob_v rfl (fun hg => allT_of trivial) (fun hg => av_move rfl)
                  · exact ob_v rfl (fun hg => allT_of ⟨rfl, trivial⟩) (fun hg => av_eql rfl rfl)
                  · exact ob_v rfl (fun hg => allT_of ⟨rfl, trivial⟩) (fun hg => av_move rfl)
                  · exact ob_v ⟨rfl, rfl, rfl, _, rfl, rfl⟩ (fun hg => allT_of ⟨rfl, trivial⟩) (fun hg => av_move rfl)
                  · exact ob_v ⟨rfl, rfl, rfl, _, rfl, rfl⟩ (fun hg => allT_of ⟨hg, rfl, trivial⟩) (fun hg => av_eql rfl rfl)
                  · exact ob_pick (b := true) (p := decide (x56.2 = 0)) (q := decide (x58.2 = 0)) rfl rfl rfl (fun hg => allT_of ⟨rfl, trivial⟩) rfl rfl rfl rfl rfl
                  · exact ob_v rfl (fun hg => allT_of ⟨rfl, trivial⟩) (fun hg => av_move rfl)
                  · exact ob_v ⟨rfl, rfl, rfl, _, rfl, rfl⟩ (fun hg => allT_of ⟨rfl, trivial⟩) (fun hg => av_move rfl)
                  · exact ob_pick (b := true) (p := (decide (x56.2 = 0)) && (decide (x58.2 = 0))) (q := x56.1) rfl rfl rfl (fun hg => allT_of ⟨rfl, trivial⟩) rfl rfl rfl rfl rfl
                  · exact ob_v rfl (fun hg => allT_of ⟨rfl, trivial⟩) (fun hg => av_move rfl)
                  · exact ob_v ⟨rfl, rfl, rfl, _, rfl, rfl⟩ (fun hg => allT_of ⟨rfl, trivial⟩) (fun hg => av_move rfl)
                  · exact ob_pick (b := true) (p := ((decide (x56.2 = 0)) && (decide (x58.2 = 0))) && x56.1) (q := x58.1) rfl rfl rfl (fun hg => allT_of ⟨rfl, trivial⟩) rfl rfl rfl rfl rfl
                  · exact ob_v rfl (fun hg => allT_of ⟨rfl, trivial⟩) (fun hg => av_move rfl)
                  · exact ob_v ⟨rfl, rfl, rfl, _, rfl, rfl⟩ (fun hg => allT_of ⟨rfl, trivial⟩) (fun hg => av_call (f8_runs (get_g h60 hg)) ent8 rfl rfl)
                  · exact ob_pick (b := true) (p := (((decide (x56.2 = 0)) && (decide (x58.2 = 0))) && x56.1) && x58.1) (q := ((f8).getD default)) rfl rfl rfl (fun hg => allT_of ⟨rfl, trivial⟩) rfl rfl rfl rfl rfl
                  · exact ob_v rfl (fun hg => allT_of ⟨rfl, trivial⟩) (fun hg => av_assign rfl)
                  have hr := Option.some.inj hr
                  subst hr
                  exact athen_norm (awc_ret (ret_q (l' := [(10, .bool (((((decide (x56.2 = 0)) && (decide (x58.2 = 0))) && x56.1) && x58.1) && ((f8).getD default)))]) (wk_of hX [] 4 rfl rfl ⟨⟨_, rfl, cv0⟩, trivial⟩ trivial) rfl ⟨rfl, trivial⟩))
                · exact hx.elim
              · rintro i47 ⟨s49, s50⟩ o ho
                refine awc_seq ?_
                refine awc_region ?_
                refine awl_v (av_lss rfl rfl) ?_
                refine awl_nil (athen_norm (awc_seq ?_))
                refine awc_cond (b := decide (i47 < (List.length p2 : Int))) rfl (fun hc61 => ?_) (fun hc61 => ?_)
                · obtain ⟨q, hr, rfl⟩ := rb_t hc61 ho
                  refine awc_skip (athen_norm (awc_seq (awc_block (awc_seq ?_))))
                  refine awc_region ?_
                  refine awl_v (av_move rfl) ?_
                  refine awl_v (av_assign rfl) ?_
                  refine awl_nil (athen_norm (awc_seq ?_))
                  obtain ⟨x62, e63, hr⟩ := bnd_some hr
                  obtain ⟨x64, e65, hr⟩ := bnd_some hr
                  refine awc_draw_tail2 11 [11, 3, 3, 4, 9, 7, 7, 8, 9, 10, 11] mixed [0, 1, 2, 3, 10, 33, 34, 222, 223, 35] [(true, .osl 0), (true, .sl (.int .i64) p2), (true, .int .i64 i47), (true, .rp [.int .i64 x62]), (true, .int .i64 x62), (true, .sl (.int .i64) p3), (true, .int .i64 i47), (true, .rp [.int .i64 x64]), (true, .int .i64 x64), (true, .int .i64 (max x62 x64)), (true, .sl (.int .i64) [(max x62 x64)])] [[], [], [], [1, 2], [3], [], [], [5, 6], [7], [4, 8], [9]] [0, 10] rfl rfl rfl rfl rfl rfl rfl rfl ⟨?_, ?_, ?_, ?_, ?_, ?_, ?_, ?_, ?_, ?_, ?_, trivial⟩ (allT_of ⟨rfl, rfl, trivial⟩) ?_
                  · exact ob_v rfl (fun hg => allT_of trivial) (fun hg => av_move rfl)
                  · exact ob_v rfl (fun hg => allT_of trivial) (fun hg => av_move rfl)
                  · exact ob_v rfl (fun hg => allT_of trivial) (fun hg => av_move rfl)
                  · exact ob_v rfl (fun hg => allT_of ⟨rfl, rfl, trivial⟩) (fun hg => av_ia_sl (t := (.int .i64)) (e := x62) und22 sz3 rfl rfl e63)
                  · exact ob_v rfl (fun hg => allT_of ⟨rfl, trivial⟩) (fun hg => av_load_rp ts3 rfl)
                  · exact ob_v rfl (fun hg => allT_of trivial) (fun hg => av_move rfl)
                  · exact ob_v rfl (fun hg => allT_of trivial) (fun hg => av_move rfl)
                  · exact ob_v rfl (fun hg => allT_of ⟨rfl, rfl, trivial⟩) (fun hg => av_ia_sl (t := (.int .i64)) (e := x64) und22 sz3 rfl rfl e65)
                  · exact ob_v rfl (fun hg => allT_of ⟨rfl, trivial⟩) (fun hg => av_load_rp ts3 rfl)
                  · exact ob_v rfl (fun hg => allT_of ⟨rfl, rfl, trivial⟩) (fun hg => av_max rfl rfl rfl)
                  · exact ob_v rfl (fun hg => allT_of ⟨rfl, trivial⟩) (fun hg => av_buildSlice (t := (.int .i64)) (qs := [(0, [.int .i64 (max x62 x64)])]) (ys := [(max x62 x64)]) bs22 rfl rfl rfl rfl rfl rfl rfl rfl)
                  obtain ⟨h66, hr⟩ := chk_some hr
                  refine awl_op (aop_append rfl rfl app22 rfl rfl rfl h66 rfl ?_)
                  refine awl_v (av_assign rfl) ?_
                  refine awl_nil (athen_norm ?_)
                  refine awc_draw_tail2 11 [11, 3, 3, 4, 9, 7, 7, 8, 9, 10, 11] mixed [0, 1, 2, 3, 10, 33, 34, 222, 223, 35] [(true, .osl 1), (true, .sl (.int .i64) p2), (true, .int .i64 i47), (true, .rp [.int .i64 x62]), (true, .int .i64 x62), (true, .sl (.int .i64) p3), (true, .int .i64 i47), (true, .rp [.int .i64 x64]), (true, .int .i64 x64), (true, .int .i64 (min x62 x64)), (true, .sl (.int .i64) [(min x62 x64)])] [[], [], [], [1, 2], [3], [], [], [5, 6], [7], [4, 8], [9]] [0, 10] rfl rfl rfl rfl rfl rfl rfl rfl ⟨?_, ?_, ?_, ?_, ?_, ?_, ?_, ?_, ?_, ?_, ?_, trivial⟩ (allT_of ⟨rfl, rfl, trivial⟩) ?_
                  · exact ob_v rfl (fun hg => allT_of trivial) (fun hg => av_move rfl)
                  · exact ob_v rfl (fun hg => allT_of trivial) (fun hg => av_move rfl)
                  · exact ob_v rfl (fun hg => allT_of trivial) (fun hg => av_move rfl)
                  · exact ob_v rfl (fun hg => allT_of ⟨rfl, rfl, trivial⟩) (fun hg => av_ia_sl (t := (.int .i64)) (e := x62) und22 sz3 rfl rfl e63)
                  · exact ob_v rfl (fun hg => allT_of ⟨rfl, trivial⟩) (fun hg => av_load_rp ts3 rfl)
                  · exact ob_v rfl (fun hg => allT_of trivial) (fun hg => av_move rfl)
                  · exact ob_v rfl (fun hg => allT_of trivial) (fun hg => av_move rfl)
                  · exact ob_v rfl (fun hg => allT_of ⟨rfl, rfl, trivial⟩) (fun hg => av_ia_sl (t := (.int .i64)) (e := x64) und22 sz3 rfl rfl e65)
                  · exact ob_v rfl (fun hg => allT_of ⟨rfl, trivial⟩) (fun hg => av_load_rp ts3 rfl)
                  · exact ob_v rfl (fun hg => allT_of ⟨rfl, rfl, trivial⟩) (fun hg => av_min rfl rfl rfl)
                  · exact ob_v rfl (fun hg => allT_of ⟨rfl, trivial⟩) (fun hg => av_buildSlice (t := (.int .i64)) (qs := [(0, [.int .i64 (min x62 x64)])]) (ys := [(min x62 x64)]) bs22 rfl rfl rfl rfl rfl rfl rfl rfl)
                  obtain ⟨h67, hr⟩ := chk_some hr
                  refine awl_op (aop_append rfl rfl app22 rfl rfl rfl h67 rfl ?_)
                  refine awl_v (av_assign rfl) ?_
                  refine awl_nil (ablock_norm (athen_norm ?_))
                  refine awc_region ?_
                  refine awl_v (av_add rfl rfl) ?_
                  refine awl_v (av_move rfl) ?_
                  have hr := Option.some.inj hr
                  subst hr
                  exact awl_nil ((wk_of hX [2, 3] 4 rfl rfl ⟨⟨_, rfl, cv0⟩, ⟨_, rfl, cv0⟩, ⟨_, rfl, cv0⟩, ⟨_, rfl, cv0⟩, ⟨_, rfl, cv0⟩, ⟨_, rfl, cv0⟩, ⟨_, rfl, cv0⟩, ⟨_, rfl, cv0⟩, ⟨_, rfl, cv0⟩, trivial⟩ ⟨cvo0, cvo0, trivial⟩))
                · obtain rfl := rb_f hc61 ho
                  exact awc_exit (athen_exit (⟨rfl, (wk_of hX [0, 1] 4 rfl rfl ⟨⟨_, rfl, cv0⟩, ⟨_, rfl, cv0⟩, ⟨_, rfl, cv0⟩, ⟨_, rfl, cv0⟩, ⟨_, rfl, cv0⟩, trivial⟩ ⟨cvo0, cvo0, trivial⟩)⟩))
          · rintro r rfl e st hne hx
            obtain ⟨rfl, hw⟩ := hx
            have hr := Option.some.inj hr
            subst hr
            exact ret_q (l' := [(10, .bool false)]) (Wk.trans hw (wk_of hX [] 4 rfl rfl ⟨⟨_, rfl, cv0⟩, trivial⟩ trivial)) rfl ⟨rfl, trivial⟩
        · rintro r rfl e st hne hx
          obtain ⟨rfl, hw⟩ := hx
          have hr := Option.some.inj hr
          subst hr
          exact ret_q (l' := [(10, .bool false)]) (Wk.trans hw (wk_of hX [] 4 rfl rfl ⟨⟨_, rfl, cv0⟩, trivial⟩ trivial)) rfl ⟨rfl, trivial⟩
end Go.Ab
