/- Lemmas for a law of the seat: what functions of the program do, each stated as a contract of its own (TA4). -/
import Derived.Test.YtjagcoeihmhabaaLayT
import Derived.Test.YtjagcoeihmhabaaLayS29
import Derived.Test.YtjagcoeihmhabaaAb3
import Derived.Test.YtjagcoeihmhabaaChecked
import Derived.Test.YtjagcoeihmhabaaTAd
import Derived.Test.YtjagcoeihmhabaaTA1
set_option linter.unusedVariables false
set_option maxRecDepth 100000
namespace Go.Ab
open Go.RowKit Go.Shelf Go.Proofs Go.Eng
abbrev Y2 : Ty := .st (.pair (.int .i64) (.pair (.int .i64) (.int .i64)))
abbrev Y3 : Ty := .st (.pair (.int .i64) (.int .i64))
theorem ent8 : Enters Try.prog 8 := enters_of Try.func8 (by kernel_rfl) rfl
theorem zero22 : Eng.Zero Try.prog 22 (.slice none 0 0) := fun w => by kernel_rfl
theorem ent14 : Enters Try.prog 14 := enters_of Try.func14 (by kernel_rfl) rfl
theorem und4 : Und Try.prog 4 .bool := by unfold Und; kernel_rfl
theorem ent60 : Enters Try.prog 60 := enters_of Try.func60 (by kernel_rfl) rfl
theorem ent59 : Enters Try.prog 59 := enters_of Try.func59 (by kernel_rfl) rfl
theorem ent61 : Enters Try.prog 61 := enters_of Try.func61 (by kernel_rfl) rfl
theorem zero76 : Eng.Zero Try.prog 76 (.map none) := fun w => by kernel_rfl
theorem sz76 : Sz Try.prog 76 1 := fun w => by kernel_rfl
theorem ts76 : TyS Try.prog 76 false 1 := ⟨fun w => by kernel_rfl, fun w => by kernel_rfl⟩
theorem und76 : Und Try.prog 76 (.map 3 22) := by unfold Und; kernel_rfl
theorem zw22 : ZeroW Try.prog 22 (.slice (.int .i64)) := zeroW_of (z := .slice none 0 0) (fun w => by kernel_rfl) rfl (fun _ => rfl)
theorem ent25 : Enters Try.prog 25 := enters_of Try.func25 (by kernel_rfl) rfl
theorem ent26 : Enters Try.prog 26 := enters_of Try.func26 (by kernel_rfl) rfl
theorem ent27 : Enters Try.prog 27 := enters_of Try.func27 (by kernel_rfl) rfl
theorem ent28 : Enters Try.prog 28 := enters_of Try.func28 (by kernel_rfl) rfl
theorem ent29 : Enters Try.prog 29 := enters_of Try.func29 (by kernel_rfl) rfl
theorem ent30 : Enters Try.prog 30 := enters_of Try.func30 (by kernel_rfl) rfl
theorem ent31 : Enters Try.prog 31 := enters_of Try.func31 (by kernel_rfl) rfl
theorem f59_runs {p0 : Int} {p1 : List (Int × Int × Int × Int × Str)} {p2 : Int} {q3 : (List (List Int)) → Int → Option Bool} {r : List Int × Int} {g3 : FuncId} {c3s : List AV} (h_q3 : ∀ (y1 : List (List Int)) (y2 : Int) (r : Bool), q3 y1 y2 = some r → RunsP Try.prog g3 ([.sl (.slice (.int .i64)) y1, .int .i64 y2] ++ c3s) [.bool r]) (k_q3 : FnIn Try.prog g3 c3s) (hr : f59 p0 p1 p2 q3 = some r) : RunsP Try.prog 59 [.int .i64 p0, .sl Y1 p1, .int .i64 p2, .clo (.fn g3 [] c3s)] [.sl (.int .i64) r.1, .int .i64 r.2] := by
  refine runs_w Try.func59 Try.ntmps59 rfl (rs := [.tmp 8, .tmp 9]) rfl rfl fun w0 X hX => ?_
  refine awc_seq ?_
  refine awc_region ?_
  refine awl_v (av_assign rfl) ?_
  refine awl_v (av_assign rfl) ?_
  refine awl_nil (athen_norm (awc_seq (awc_seq ?_)))
  refine awc_region ?_
  refine awl_v (av_move rfl) ?_
  refine awl_v (av_move rfl) ?_
  refine awl_v (av_move rfl) ?_
  refine awl_v (av_buildSlice (t := (.int .i64)) (qs := [(0, [.int .i64 p2])]) (ys := [p2]) bs22 rfl rfl rfl rfl rfl rfl rfl rfl) ?_
  obtain ⟨x1, e2, hr⟩ := bnd_some hr
  refine awl_v (av_call (f57_runs e2) ent57 rfl rfl) ?_
  refine awl_v (av_assign rfl) ?_
  refine awl_nil (athen_norm (awc_seq ?_))
  refine awc_region ?_
  refine awl_v (av_move rfl) ?_
  refine awl_v (av_neq rfl rfl) ?_
  refine awl_nil (athen_norm ?_)
  refine awc_cond (b := !decide (x1 = 0)) rfl (fun hc3 => ?_) (fun hc3 => ?_)
  · have hr := if_t hc3 hr
    refine awc_seq ?_
    refine awc_region ?_
    refine awl_v (av_move rfl) ?_
    refine awl_v (av_assign rfl) ?_
    refine awl_v (av_assign rfl) ?_
    have hr := Option.some.inj hr
    subst hr
    exact awl_nil (athen_norm (awc_ret (athen_ret (ret_q (l' := [(8, .sl (.int .i64) ([] : List Int)), (9, .int .i64 x1)]) (wk_of hX [] 4 rfl rfl ⟨⟨_, rfl, cv2⟩, ⟨_, rfl, cv0⟩, trivial⟩ trivial) rfl ⟨rfl, rfl, trivial⟩))))
  · have hr := if_f hc3 hr
    refine awc_skip (athen_norm (awc_seq ?_))
    refine awc_region ?_
    refine awl_v (av_move rfl) ?_
    refine awl_v (av_move rfl) ?_
    obtain ⟨x4, e5, hr⟩ := bnd_some hr
    refine awl_v (av_call (f52_runs e5) ent52 rfl rfl) ?_
    refine awl_v (av_assign rfl) ?_
    refine awl_nil (athen_norm (awc_seq ?_))
    refine awc_region ?_
    refine awl_v (av_assign rfl) ?_
    refine awl_nil (athen_norm (awc_seq (awc_seq ?_)))
    refine awc_region ?_
    refine awl_v (av_move rfl) ?_
    refine awl_v (av_len_sl (t := Y1) rfl rfl und30 rfl) ?_
    refine awl_v (av_move rfl) ?_
    refine awl_nil (athen_norm (awc_block ?_))
    obtain ⟨o11, e12, hr⟩ := bnd_some hr
    refine awc_len (t := 1) rfl (fun hl => ?_)
    refine awc_range (S := List Int) (R := Unit) (List.length p1 : Int) (f59_b0 p2 q3 x4) (fun p => match p with | (i6, s8) => (⟨[(2, .int .i64 p2), (3, .clo (.fn g3 [] c3s)), (8, .nils), (9, .int .i64 0), (11, .sl (.slice (.int .i64)) x4), (12, .osl 0), (26, .int .i64 (List.length p1 : Int)), (27, .int .i64 i6)], [(0, .sl 3 (.int .i64) s8)], 1⟩ : AS)) (fun o e st => match o with | .inr _ => False | .inl s8 => e = .exit 0 ∧ Wk X st ⟨[(8, .nils), (9, .int .i64 0), (12, .osl 0)], [(0, .sl 3 (.int .i64) s8)], 1⟩) (len_ok hl) e12 (Wk.trans (wk_own (t := 12) 3 (.int .i64) rfl) (wk_of hX [0] 4 rfl rfl ⟨⟨_, rfl, cv0⟩, ⟨_, rfl, cv0⟩, ⟨_, rfl, cv0⟩, ⟨_, rfl, cv0⟩, ⟨_, rfl, cv0⟩, ⟨_, rfl, cv0⟩, ⟨_, rfl, cv0⟩, ⟨_, rfl, cv0⟩, trivial⟩ ⟨cvo0, trivial⟩)) ?_ ?_
    · intro e st hx
      rcases o11 with s8 | _
      · obtain ⟨rfl, hw⟩ := hx
        refine ablock_here (athen_norm ((awc_wk hw) (awc_seq ?_)))
        refine awc_region ?_
        refine awl_v (av_move rfl) ?_
        refine awl_v (av_assign rfl) ?_
        refine awl_v (av_assign rfl) ?_
        have hr := Option.some.inj hr
        subst hr
        exact awl_nil (athen_norm (awc_ret (ret_q (l' := [(8, .sl (.int .i64) s8), (9, .int .i64 0)]) (wk_of hX [] 4 rfl rfl ⟨⟨_, rfl, cv0⟩, ⟨_, rfl, cv0⟩, trivial⟩ trivial) rfl ⟨rfl, rfl, trivial⟩)))
      · exact hx.elim
    · rintro i6 s8 o ho
      refine awc_seq ?_
      refine awc_region ?_
      refine awl_v (av_lss rfl rfl) ?_
      refine awl_nil (athen_norm (awc_seq ?_))
      refine awc_cond (b := decide (i6 < (List.length p1 : Int))) rfl (fun hc13 => ?_) (fun hc13 => ?_)
      · obtain ⟨q, hr, rfl⟩ := rb_t hc13 ho
        refine awc_skip (athen_norm ?_)
        obtain ⟨o15, e16, hr⟩ := bnd_some hr
        refine awc_join (S := List Int) (R := Unit) (fun s => match s with | s14 => (⟨[(2, .int .i64 p2), (3, .clo (.fn g3 [] c3s)), (8, .nils), (9, .int .i64 0), (11, .sl (.slice (.int .i64)) x4), (12, .osl 0), (26, .int .i64 (List.length p1 : Int)), (27, .int .i64 i6)], [(0, .sl 3 (.int .i64) s14)], 1⟩ : AS)) (fun _ _ _ => False) e16 (fun hr => ?_) ?_ ?_
        · refine awc_block (awc_seq ?_)
          refine awc_region ?_
          refine awl_v (av_move rfl) ?_
          refine awl_v (av_assign rfl) ?_
          refine awl_nil (athen_norm (awc_seq ?_))
          obtain ⟨h17, hr⟩ := chk_some hr
          refine awc_text [2, 3, 8, 9, 11, 12, 26, 27, 13] [(true, .int .i64 i6), (true, .int .i64 p2), (true, .bool (!decide (i6 = p2))), (true, .bool (!decide (i6 = p2))), (!decide (i6 = p2), .clo (.fn g3 [] c3s)), (!decide (i6 = p2), .sl (.slice (.int .i64)) x4), (!decide (i6 = p2), .int .i64 i6), (!decide (i6 = p2), .bool ((q3 x4 i6).getD default)), (true, .bool ((!decide (i6 = p2)) && ((q3 x4 i6).getD default)))] [[], [], [0, 1], [2], [3], [3], [3], [4, 5, 6, 3], [7, 3]] [8] rfl rfl rfl rfl rfl ⟨?_, ?_, ?_, ?_, ?_, ?_, ?_, ?_, ?_, trivial⟩ (allT_of ⟨rfl, trivial⟩) ?_
          · exact ob_v rfl (fun hg => allT_of trivial) (fun hg => av_move rfl)
          · exact ob_v rfl (fun hg => allT_of trivial) (fun hg => av_move rfl)
          · exact ob_v rfl (fun hg => allT_of ⟨rfl, rfl, trivial⟩) (fun hg => av_neq rfl rfl)
          · exact ob_v rfl (fun hg => allT_of ⟨rfl, trivial⟩) (fun hg => av_move rfl)
          · exact ob_v ⟨rfl, rfl, rfl, _, rfl, rfl⟩ (fun hg => allT_of ⟨rfl, trivial⟩) (fun hg => av_move rfl)
          · exact ob_v ⟨rfl, rfl, rfl, _, rfl, rfl⟩ (fun hg => allT_of ⟨rfl, trivial⟩) (fun hg => av_move rfl)
          · exact ob_v ⟨rfl, rfl, rfl, _, rfl, rfl⟩ (fun hg => allT_of ⟨rfl, trivial⟩) (fun hg => av_move rfl)
          · exact ob_v ⟨rfl, rfl, rfl, _, rfl, rfl⟩ (fun hg => allT_of ⟨hg, hg, hg, rfl, trivial⟩) (fun hg => av_callq rfl (h_q3 x4 i6 ((q3 x4 i6).getD default) (get_g h17 hg)) k_q3 rfl rfl rfl)
          · exact ob_pick (b := true) (p := !decide (i6 = p2)) (q := ((q3 x4 i6).getD default)) rfl rfl rfl (fun hg => allT_of ⟨rfl, trivial⟩) rfl rfl rfl rfl rfl
          refine athen_norm ?_
          refine awc_cond (b := (!decide (i6 = p2)) && ((q3 x4 i6).getD default)) rfl (fun hc18 => ?_) (fun hc18 => ?_)
          · have hr := if_t hc18 hr
            refine awc_region ?_
            refine awl_v (av_move rfl) ?_
            refine awl_v (av_move rfl) ?_
            refine awl_v (av_buildSlice (t := (.int .i64)) (qs := [(0, [.int .i64 i6])]) (ys := [i6]) bs22 rfl rfl rfl rfl rfl rfl rfl rfl) ?_
            obtain ⟨h19, hr⟩ := chk_some hr
            refine awl_op (aop_append rfl rfl app22 rfl rfl rfl h19 rfl ?_)
            refine awl_v (av_assign rfl) ?_
            have hr := Option.some.inj hr
            subst hr
            exact awl_nil (ablock_norm ((wk_of hX [1] 4 rfl rfl ⟨⟨_, rfl, cv0⟩, ⟨_, rfl, cv0⟩, ⟨_, rfl, cv0⟩, ⟨_, rfl, cv0⟩, ⟨_, rfl, cv0⟩, ⟨_, rfl, cv0⟩, ⟨_, rfl, cv0⟩, ⟨_, rfl, cv0⟩, trivial⟩ ⟨cvo0, trivial⟩)))
          · have hr := if_f hc18 hr
            have hr := Option.some.inj hr
            subst hr
            exact awc_skip (ablock_norm ((wk_of hX [0] 4 rfl rfl ⟨⟨_, rfl, cv0⟩, ⟨_, rfl, cv0⟩, ⟨_, rfl, cv0⟩, ⟨_, rfl, cv0⟩, ⟨_, rfl, cv0⟩, ⟨_, rfl, cv0⟩, ⟨_, rfl, cv0⟩, ⟨_, rfl, cv0⟩, trivial⟩ ⟨cvo0, trivial⟩)))
        · rintro s14 rfl
          refine awc_region ?_
          refine awl_v (av_add rfl rfl) ?_
          refine awl_v (av_move rfl) ?_
          have hr := Option.some.inj hr
          subst hr
          exact awl_nil ((wk_of hX [0] 4 rfl rfl ⟨⟨_, rfl, cv0⟩, ⟨_, rfl, cv0⟩, ⟨_, rfl, cv0⟩, ⟨_, rfl, cv0⟩, ⟨_, rfl, cv0⟩, ⟨_, rfl, cv0⟩, ⟨_, rfl, cv0⟩, ⟨_, rfl, cv0⟩, trivial⟩ ⟨cvo0, trivial⟩))
        · exact fun r h e st hne hx => hx.elim
      · obtain rfl := rb_f hc13 ho
        exact awc_exit (athen_exit (⟨rfl, (wk_of hX [0] 4 rfl rfl ⟨⟨_, rfl, cv0⟩, ⟨_, rfl, cv0⟩, ⟨_, rfl, cv0⟩, trivial⟩ ⟨cvo0, trivial⟩)⟩))
theorem f26_runs {p0 : Int} {p1 : List (Int × Int × Int × Int × Str)} {p2 : Int} {r : List Int × Int} (hr : f26 p0 p1 p2 = some r) : RunsP Try.prog 26 [.int .i64 p0, .sl Y1 p1, .int .i64 p2] [.sl (.int .i64) r.1, .int .i64 r.2] := by
  refine runs_w Try.func26 Try.ntmps26 rfl (rs := [.tmp 6, .tmp 7]) rfl rfl fun w0 X hX => ?_
  refine awc_seq ?_
  refine awc_region ?_
  refine awl_op (aop_box rfl rfl ?_)
  refine awl_op (aop_box rfl rfl ?_)
  refine awl_v (av_assign rfl) ?_
  refine awl_v (av_assign rfl) ?_
  refine awl_nil (athen_norm (awc_seq ?_))
  refine awc_region ?_
  refine awl_v (av_move rfl) ?_
  refine awl_v (av_load_ptr ts30 rfl rfl rfl) ?_
  refine awl_v (av_load_ptr ts3 rfl rfl rfl) ?_
  refine awl_v (av_makeFunc (us := []) (vs := [.ptr 0 0, .ptr 1 0]) rfl rfl) ?_
  refine awl_wk (wk_of (st' := ⟨[(0, .int .i64 p0), (1, .sl Y1 p1), (2, .int .i64 p2), (4, .rp [.sl Y1 p1]), (5, .rp [.int .i64 p2]), (6, .nils), (7, .int .i64 0), (8, .int .i64 p0), (9, .sl Y1 p1), (10, .int .i64 p2), (11, .fn 60 [] [.rp [.sl Y1 p1], .rp [.int .i64 p2]])], [], 0⟩) hX [] 4 rfl rfl ⟨⟨_, rfl, cv0⟩, ⟨_, rfl, cv0⟩, ⟨_, rfl, cv0⟩, ⟨_, rfl, cv0⟩, ⟨_, rfl, cv0⟩, ⟨_, rfl, cv0⟩, ⟨_, rfl, cv0⟩, ⟨_, rfl, cv0⟩, ⟨_, rfl, cv0⟩, ⟨_, rfl, cv0⟩, ⟨_, rfl, cv0⟩, trivial⟩ trivial) ?_
  obtain ⟨x1, e2, hr⟩ := bnd_some hr
  refine awl_v (av_callN (as' := [.int .i64 p0, .sl Y1 p1, .int .i64 p2, .fn 60 [] [.rp [.sl Y1 p1], .rp [.int .i64 p2]]]) (f59_runs (g3 := 60) (c3s := [.rp [.sl Y1 p1], .rp [.int .i64 p2]]) (fun _ _ r h => f60_runs h) ⟨ent60⟩ e2) ent59 rfl ⟨cv0, cv0, cv0, (cv3 rfl), trivial⟩ rfl) ?_
  refine awl_v (av_extract rfl rfl) ?_
  refine awl_v (av_extract rfl rfl) ?_
  refine awl_v (av_assign rfl) ?_
  refine awl_v (av_assign rfl) ?_
  have hr := Option.some.inj hr
  subst hr
  exact awl_nil (athen_norm (awc_ret (ret_q (l' := [(6, .sl (.int .i64) x1.1), (7, .int .i64 x1.2)]) (wk_of hX [] 4 rfl rfl ⟨⟨_, rfl, cv0⟩, ⟨_, rfl, cv0⟩, trivial⟩ trivial) rfl ⟨rfl, rfl, trivial⟩)))
theorem f27_runs {p0 : Int} {p1 : List (Int × Int × Int × Int × Str)} {p2 : Int} {r : List Int × Int} (hr : f27 p0 p1 p2 = some r) : RunsP Try.prog 27 [.int .i64 p0, .sl Y1 p1, .int .i64 p2] [.sl (.int .i64) r.1, .int .i64 r.2] := by
  refine runs_w Try.func27 Try.ntmps27 rfl (rs := [.tmp 6, .tmp 7]) rfl rfl fun w0 X hX => ?_
  refine awc_seq ?_
  refine awc_region ?_
  refine awl_v (av_assign rfl) ?_
  refine awl_v (av_assign rfl) ?_
  refine awl_nil (athen_norm (awc_seq (awc_seq ?_)))
  refine awc_region ?_
  refine awl_v (av_move rfl) ?_
  refine awl_v (av_move rfl) ?_
  refine awl_v (av_move rfl) ?_
  refine awl_v (av_buildSlice (t := (.int .i64)) (qs := [(0, [.int .i64 p2])]) (ys := [p2]) bs22 rfl rfl rfl rfl rfl rfl rfl rfl) ?_
  obtain ⟨x1, e2, hr⟩ := bnd_some hr
  refine awl_v (av_call (f53_runs e2) ent53 rfl rfl) ?_
  refine awl_v (av_assign rfl) ?_
  refine awl_nil (athen_norm (awc_seq ?_))
  refine awc_region ?_
  refine awl_v (av_move rfl) ?_
  refine awl_v (av_neq rfl rfl) ?_
  refine awl_nil (athen_norm ?_)
  refine awc_cond (b := !decide (x1 = 0)) rfl (fun hc3 => ?_) (fun hc3 => ?_)
  · have hr := if_t hc3 hr
    refine awc_seq ?_
    refine awc_region ?_
    refine awl_v (av_move rfl) ?_
    refine awl_v (av_assign rfl) ?_
    refine awl_v (av_assign rfl) ?_
    have hr := Option.some.inj hr
    subst hr
    exact awl_nil (athen_norm (awc_ret (athen_ret (ret_q (l' := [(6, .sl (.int .i64) ([] : List Int)), (7, .int .i64 x1)]) (wk_of hX [] 4 rfl rfl ⟨⟨_, rfl, cv2⟩, ⟨_, rfl, cv0⟩, trivial⟩ trivial) rfl ⟨rfl, rfl, trivial⟩))))
  · have hr := if_f hc3 hr
    refine awc_skip (athen_norm (awc_seq ?_))
    refine awc_region ?_
    refine awl_v (av_move rfl) ?_
    obtain ⟨x4, e5, hr⟩ := bnd_some hr
    refine awl_v (av_call (f23_runs e5) ent23 rfl rfl) ?_
    refine awl_v (av_assign rfl) ?_
    refine awl_nil (athen_norm (awc_seq ?_))
    refine awc_region ?_
    refine awl_v (av_assign rfl) ?_
    refine awl_nil (athen_norm (awc_seq (awc_seq ?_)))
    refine awc_region ?_
    refine awl_v (av_move rfl) ?_
    refine awl_v (av_len_sl (t := Y1) rfl rfl und30 rfl) ?_
    refine awl_v (av_move rfl) ?_
    refine awl_nil (athen_norm (awc_block ?_))
    obtain ⟨o11, e12, hr⟩ := bnd_some hr
    refine awc_len (t := 1) rfl (fun hl => ?_)
    refine awc_range (S := List Int) (R := Unit) (List.length p1 : Int) (f27_b0 p2 x4) (fun p => match p with | (i6, s8) => (⟨[(2, .int .i64 p2), (6, .nils), (7, .int .i64 0), (9, .sl (.slice .bool) x4), (10, .osl 0), (23, .int .i64 (List.length p1 : Int)), (24, .int .i64 i6)], [(0, .sl 3 (.int .i64) s8)], 1⟩ : AS)) (fun o e st => match o with | .inr _ => False | .inl s8 => e = .exit 0 ∧ Wk X st ⟨[(6, .nils), (7, .int .i64 0), (10, .osl 0)], [(0, .sl 3 (.int .i64) s8)], 1⟩) (len_ok hl) e12 (Wk.trans (wk_own (t := 10) 3 (.int .i64) rfl) (wk_of hX [0] 4 rfl rfl ⟨⟨_, rfl, cv0⟩, ⟨_, rfl, cv0⟩, ⟨_, rfl, cv0⟩, ⟨_, rfl, cv0⟩, ⟨_, rfl, cv0⟩, ⟨_, rfl, cv0⟩, ⟨_, rfl, cv0⟩, trivial⟩ ⟨cvo0, trivial⟩)) ?_ ?_
    · intro e st hx
      rcases o11 with s8 | _
      · obtain ⟨rfl, hw⟩ := hx
        refine ablock_here (athen_norm ((awc_wk hw) (awc_seq ?_)))
        refine awc_region ?_
        refine awl_v (av_move rfl) ?_
        refine awl_v (av_assign rfl) ?_
        refine awl_v (av_assign rfl) ?_
        have hr := Option.some.inj hr
        subst hr
        exact awl_nil (athen_norm (awc_ret (ret_q (l' := [(6, .sl (.int .i64) s8), (7, .int .i64 0)]) (wk_of hX [] 4 rfl rfl ⟨⟨_, rfl, cv0⟩, ⟨_, rfl, cv0⟩, trivial⟩ trivial) rfl ⟨rfl, rfl, trivial⟩)))
      · exact hx.elim
    · rintro i6 s8 o ho
      refine awc_seq ?_
      refine awc_region ?_
      refine awl_v (av_lss rfl rfl) ?_
      refine awl_nil (athen_norm (awc_seq ?_))
      refine awc_cond (b := decide (i6 < (List.length p1 : Int))) rfl (fun hc13 => ?_) (fun hc13 => ?_)
      · obtain ⟨q, hr, rfl⟩ := rb_t hc13 ho
        refine awc_skip (athen_norm ?_)
        obtain ⟨o15, e16, hr⟩ := bnd_some hr
        refine awc_join (S := List Int) (R := Unit) (fun s => match s with | s14 => (⟨[(2, .int .i64 p2), (6, .nils), (7, .int .i64 0), (9, .sl (.slice .bool) x4), (10, .osl 0), (23, .int .i64 (List.length p1 : Int)), (24, .int .i64 i6)], [(0, .sl 3 (.int .i64) s14)], 1⟩ : AS)) (fun _ _ _ => False) e16 (fun hr => ?_) ?_ ?_
        · refine awc_block (awc_seq ?_)
          refine awc_region ?_
          refine awl_v (av_move rfl) ?_
          refine awl_v (av_assign rfl) ?_
          refine awl_nil (athen_norm (awc_seq ?_))
          obtain ⟨h17, hr⟩ := chk_some hr
          obtain ⟨h18, hr⟩ := chk_some hr
          obtain ⟨h19, hr⟩ := chk_some hr
          obtain ⟨h20, hr⟩ := chk_some hr
          refine awc_text [2, 6, 7, 9, 10, 23, 24, 11] [(true, .int .i64 i6), (true, .int .i64 p2), (true, .bool (!decide (i6 = p2))), (true, .bool (!decide (i6 = p2))), (!decide (i6 = p2), .sl (.slice .bool) x4), (!decide (i6 = p2), .int .i64 p2), (!decide (i6 = p2), .rp [.sl .bool ((ix x4 p2).getD default)]), (!decide (i6 = p2), .sl .bool ((ix x4 p2).getD default)), (!decide (i6 = p2), .int .i64 i6), (!decide (i6 = p2), .rp [.bool ((ix ((ix x4 p2).getD default) i6).getD default)]), (!decide (i6 = p2), .bool ((ix ((ix x4 p2).getD default) i6).getD default)), (!decide (i6 = p2), .bool (!((ix ((ix x4 p2).getD default) i6).getD default))), (true, .bool ((!decide (i6 = p2)) && (!((ix ((ix x4 p2).getD default) i6).getD default)))), (true, .bool ((!decide (i6 = p2)) && (!((ix ((ix x4 p2).getD default) i6).getD default)))), ((!decide (i6 = p2)) && (!((ix ((ix x4 p2).getD default) i6).getD default)), .sl (.slice .bool) x4), ((!decide (i6 = p2)) && (!((ix ((ix x4 p2).getD default) i6).getD default)), .int .i64 i6), ((!decide (i6 = p2)) && (!((ix ((ix x4 p2).getD default) i6).getD default)), .rp [.sl .bool ((ix x4 i6).getD default)]), ((!decide (i6 = p2)) && (!((ix ((ix x4 p2).getD default) i6).getD default)), .sl .bool ((ix x4 i6).getD default)), ((!decide (i6 = p2)) && (!((ix ((ix x4 p2).getD default) i6).getD default)), .int .i64 p2), ((!decide (i6 = p2)) && (!((ix ((ix x4 p2).getD default) i6).getD default)), .rp [.bool ((ix ((ix x4 i6).getD default) p2).getD default)]), ((!decide (i6 = p2)) && (!((ix ((ix x4 p2).getD default) i6).getD default)), .bool ((ix ((ix x4 i6).getD default) p2).getD default)), ((!decide (i6 = p2)) && (!((ix ((ix x4 p2).getD default) i6).getD default)), .bool (!((ix ((ix x4 i6).getD default) p2).getD default))), (true, .bool (((!decide (i6 = p2)) && (!((ix ((ix x4 p2).getD default) i6).getD default))) && (!((ix ((ix x4 i6).getD default) p2).getD default))))] [[], [], [0, 1], [2], [3], [3], [4, 5, 3], [6, 3], [3], [7, 8, 3], [9, 3], [10, 3], [11, 3], [12], [13], [13], [14, 15, 13], [16, 13], [13], [17, 18, 13], [19, 13], [20, 13], [21, 13]] [22] rfl rfl rfl rfl rfl ⟨?_, ?_, ?_, ?_, ?_, ?_, ?_, ?_, ?_, ?_, ?_, ?_, ?_, ?_, ?_, ?_, ?_, ?_, ?_, ?_, ?_, ?_, ?_, trivial⟩ (allT_of ⟨rfl, trivial⟩) ?_
          · exact ob_v rfl (fun hg => allT_of trivial) (fun hg => av_move rfl)
          · exact ob_v rfl (fun hg => allT_of trivial) (fun hg => av_move rfl)
          · exact ob_v rfl (fun hg => allT_of ⟨rfl, rfl, trivial⟩) (fun hg => av_neq rfl rfl)
          · exact ob_v rfl (fun hg => allT_of ⟨rfl, trivial⟩) (fun hg => av_move rfl)
          · exact ob_v ⟨rfl, rfl, rfl, _, rfl, rfl⟩ (fun hg => allT_of ⟨rfl, trivial⟩) (fun hg => av_move rfl)
          · exact ob_v ⟨rfl, rfl, rfl, _, rfl, rfl⟩ (fun hg => allT_of ⟨rfl, trivial⟩) (fun hg => av_move rfl)
          · exact ob_v ⟨rfl, rfl, rfl, _, rfl, rfl⟩ (fun hg => allT_of ⟨hg, hg, rfl, trivial⟩) (fun hg => av_ia_sl (t := (.slice .bool)) (e := ((ix x4 p2).getD default)) und38 sz40 rfl rfl (get_g h17 hg))
          · exact ob_v ⟨rfl, rfl, rfl, _, rfl, rfl⟩ (fun hg => allT_of ⟨hg, rfl, trivial⟩) (fun hg => av_load_rp ts40 rfl)
          · exact ob_v ⟨rfl, rfl, rfl, _, rfl, rfl⟩ (fun hg => allT_of ⟨rfl, trivial⟩) (fun hg => av_move rfl)
          · exact ob_v ⟨rfl, rfl, rfl, _, rfl, rfl⟩ (fun hg => allT_of ⟨hg, hg, rfl, trivial⟩) (fun hg => av_ia_sl (t := .bool) (e := ((ix ((ix x4 p2).getD default) i6).getD default)) und40 sz4 rfl rfl (get_g h18 hg))
          · exact ob_v ⟨rfl, rfl, rfl, _, rfl, rfl⟩ (fun hg => allT_of ⟨hg, rfl, trivial⟩) (fun hg => av_load_rp ts4 rfl)
          · exact ob_v ⟨rfl, rfl, rfl, _, rfl, rfl⟩ (fun hg => allT_of ⟨hg, rfl, trivial⟩) (fun hg => av_not rfl)
          · exact ob_pick (b := true) (p := !decide (i6 = p2)) (q := !((ix ((ix x4 p2).getD default) i6).getD default)) rfl rfl rfl (fun hg => allT_of ⟨rfl, trivial⟩) rfl rfl rfl rfl rfl
          · exact ob_v rfl (fun hg => allT_of ⟨rfl, trivial⟩) (fun hg => av_move rfl)
          · exact ob_v ⟨rfl, rfl, rfl, _, rfl, rfl⟩ (fun hg => allT_of ⟨rfl, trivial⟩) (fun hg => av_move rfl)
          · exact ob_v ⟨rfl, rfl, rfl, _, rfl, rfl⟩ (fun hg => allT_of ⟨rfl, trivial⟩) (fun hg => av_move rfl)
          · exact ob_v ⟨rfl, rfl, rfl, _, rfl, rfl⟩ (fun hg => allT_of ⟨hg, hg, rfl, trivial⟩) (fun hg => av_ia_sl (t := (.slice .bool)) (e := ((ix x4 i6).getD default)) und38 sz40 rfl rfl (get_g h19 hg))
          · exact ob_v ⟨rfl, rfl, rfl, _, rfl, rfl⟩ (fun hg => allT_of ⟨hg, rfl, trivial⟩) (fun hg => av_load_rp ts40 rfl)
          · exact ob_v ⟨rfl, rfl, rfl, _, rfl, rfl⟩ (fun hg => allT_of ⟨rfl, trivial⟩) (fun hg => av_move rfl)
          · exact ob_v ⟨rfl, rfl, rfl, _, rfl, rfl⟩ (fun hg => allT_of ⟨hg, hg, rfl, trivial⟩) (fun hg => av_ia_sl (t := .bool) (e := ((ix ((ix x4 i6).getD default) p2).getD default)) und40 sz4 rfl rfl (get_g h20 hg))
          · exact ob_v ⟨rfl, rfl, rfl, _, rfl, rfl⟩ (fun hg => allT_of ⟨hg, rfl, trivial⟩) (fun hg => av_load_rp ts4 rfl)
          · exact ob_v ⟨rfl, rfl, rfl, _, rfl, rfl⟩ (fun hg => allT_of ⟨hg, rfl, trivial⟩) (fun hg => av_not rfl)
          · exact ob_pick (b := true) (p := (!decide (i6 = p2)) && (!((ix ((ix x4 p2).getD default) i6).getD default))) (q := !((ix ((ix x4 i6).getD default) p2).getD default)) rfl rfl rfl (fun hg => allT_of ⟨rfl, trivial⟩) rfl rfl rfl rfl rfl
          refine athen_norm ?_
          refine awc_cond (b := ((!decide (i6 = p2)) && (!((ix ((ix x4 p2).getD default) i6).getD default))) && (!((ix ((ix x4 i6).getD default) p2).getD default))) rfl (fun hc21 => ?_) (fun hc21 => ?_)
          · have hr := if_t hc21 hr
            refine awc_region ?_
            refine awl_v (av_move rfl) ?_
            refine awl_v (av_move rfl) ?_
            refine awl_v (av_buildSlice (t := (.int .i64)) (qs := [(0, [.int .i64 i6])]) (ys := [i6]) bs22 rfl rfl rfl rfl rfl rfl rfl rfl) ?_
            obtain ⟨h22, hr⟩ := chk_some hr
            refine awl_op (aop_append rfl rfl app22 rfl rfl rfl h22 rfl ?_)
            refine awl_v (av_assign rfl) ?_
            have hr := Option.some.inj hr
            subst hr
            exact awl_nil (ablock_norm ((wk_of hX [1] 4 rfl rfl ⟨⟨_, rfl, cv0⟩, ⟨_, rfl, cv0⟩, ⟨_, rfl, cv0⟩, ⟨_, rfl, cv0⟩, ⟨_, rfl, cv0⟩, ⟨_, rfl, cv0⟩, ⟨_, rfl, cv0⟩, trivial⟩ ⟨cvo0, trivial⟩)))
          · have hr := if_f hc21 hr
            have hr := Option.some.inj hr
            subst hr
            exact awc_skip (ablock_norm ((wk_of hX [0] 4 rfl rfl ⟨⟨_, rfl, cv0⟩, ⟨_, rfl, cv0⟩, ⟨_, rfl, cv0⟩, ⟨_, rfl, cv0⟩, ⟨_, rfl, cv0⟩, ⟨_, rfl, cv0⟩, ⟨_, rfl, cv0⟩, trivial⟩ ⟨cvo0, trivial⟩)))
        · rintro s14 rfl
          refine awc_region ?_
          refine awl_v (av_add rfl rfl) ?_
          refine awl_v (av_move rfl) ?_
          have hr := Option.some.inj hr
          subst hr
          exact awl_nil ((wk_of hX [0] 4 rfl rfl ⟨⟨_, rfl, cv0⟩, ⟨_, rfl, cv0⟩, ⟨_, rfl, cv0⟩, ⟨_, rfl, cv0⟩, ⟨_, rfl, cv0⟩, ⟨_, rfl, cv0⟩, ⟨_, rfl, cv0⟩, trivial⟩ ⟨cvo0, trivial⟩))
        · exact fun r h e st hne hx => hx.elim
      · obtain rfl := rb_f hc13 ho
        exact awc_exit (athen_exit (⟨rfl, (wk_of hX [0] 4 rfl rfl ⟨⟨_, rfl, cv0⟩, ⟨_, rfl, cv0⟩, ⟨_, rfl, cv0⟩, trivial⟩ ⟨cvo0, trivial⟩)⟩))
theorem f61_runs {p0 : List (List Int)} {p1 : Int} {p2 : List (Int × Int × Int × Int × Str)} {p3 : Int} {r : Bool} (hr : f61 p0 p1 p2 p3 = some r) : RunsP Try.prog 61 [.sl (.slice (.int .i64)) p0, .int .i64 p1, .rp [.sl Y1 p2], .rp [.int .i64 p3]] [.bool r] := by
  refine runs_w Try.func61 Try.ntmps61 rfl (rs := [.tmp 6]) rfl rfl fun w0 X hX => ?_
  refine awc_seq ?_
  refine awc_region ?_
  refine awl_v (av_assign rfl) ?_
  refine awl_nil (athen_norm (awc_seq ?_))
  refine awc_region ?_
  refine awl_v (av_load_rp ts30 rfl) ?_
  refine awl_v (av_move rfl) ?_
  refine awl_v (av_move rfl) ?_
  refine awl_v (av_load_rp ts3 rfl) ?_
  obtain ⟨x1, e2, hr⟩ := bnd_some hr
  refine awl_v (av_call (f58_runs e2) ent58 rfl rfl) ?_
  refine awl_v (av_assign rfl) ?_
  have hr := Option.some.inj hr
  subst hr
  exact awl_nil (athen_norm (awc_ret (ret_q (l' := [(6, .bool x1)]) (wk_of hX [] 4 rfl rfl ⟨⟨_, rfl, cv0⟩, trivial⟩ trivial) rfl ⟨rfl, trivial⟩)))
theorem f28_runs {p0 : Int} {p1 : List (Int × Int × Int × Int × Str)} {p2 : Int} {r : List Int × Int} (hr : f28 p0 p1 p2 = some r) : RunsP Try.prog 28 [.int .i64 p0, .sl Y1 p1, .int .i64 p2] [.sl (.int .i64) r.1, .int .i64 r.2] := by
  refine runs_w Try.func28 Try.ntmps28 rfl (rs := [.tmp 6, .tmp 7]) rfl rfl fun w0 X hX => ?_
  refine awc_seq ?_
  refine awc_region ?_
  refine awl_op (aop_box rfl rfl ?_)
  refine awl_op (aop_box rfl rfl ?_)
  refine awl_v (av_assign rfl) ?_
  refine awl_v (av_assign rfl) ?_
  refine awl_nil (athen_norm (awc_seq ?_))
  refine awc_region ?_
  refine awl_v (av_move rfl) ?_
  refine awl_v (av_load_ptr ts30 rfl rfl rfl) ?_
  refine awl_v (av_load_ptr ts3 rfl rfl rfl) ?_
  refine awl_v (av_makeFunc (us := []) (vs := [.ptr 0 0, .ptr 1 0]) rfl rfl) ?_
  refine awl_wk (wk_of (st' := ⟨[(0, .int .i64 p0), (1, .sl Y1 p1), (2, .int .i64 p2), (4, .rp [.sl Y1 p1]), (5, .rp [.int .i64 p2]), (6, .nils), (7, .int .i64 0), (8, .int .i64 p0), (9, .sl Y1 p1), (10, .int .i64 p2), (11, .fn 61 [] [.rp [.sl Y1 p1], .rp [.int .i64 p2]])], [], 0⟩) hX [] 4 rfl rfl ⟨⟨_, rfl, cv0⟩, ⟨_, rfl, cv0⟩, ⟨_, rfl, cv0⟩, ⟨_, rfl, cv0⟩, ⟨_, rfl, cv0⟩, ⟨_, rfl, cv0⟩, ⟨_, rfl, cv0⟩, ⟨_, rfl, cv0⟩, ⟨_, rfl, cv0⟩, ⟨_, rfl, cv0⟩, ⟨_, rfl, cv0⟩, trivial⟩ trivial) ?_
  obtain ⟨x1, e2, hr⟩ := bnd_some hr
  refine awl_v (av_callN (as' := [.int .i64 p0, .sl Y1 p1, .int .i64 p2, .fn 61 [] [.rp [.sl Y1 p1], .rp [.int .i64 p2]]]) (f59_runs (g3 := 61) (c3s := [.rp [.sl Y1 p1], .rp [.int .i64 p2]]) (fun _ _ r h => f61_runs h) ⟨ent61⟩ e2) ent59 rfl ⟨cv0, cv0, cv0, (cv3 rfl), trivial⟩ rfl) ?_
  refine awl_v (av_extract rfl rfl) ?_
  refine awl_v (av_extract rfl rfl) ?_
  refine awl_v (av_assign rfl) ?_
  refine awl_v (av_assign rfl) ?_
  have hr := Option.some.inj hr
  subst hr
  exact awl_nil (athen_norm (awc_ret (ret_q (l' := [(6, .sl (.int .i64) x1.1), (7, .int .i64 x1.2)]) (wk_of hX [] 4 rfl rfl ⟨⟨_, rfl, cv0⟩, ⟨_, rfl, cv0⟩, trivial⟩ trivial) rfl ⟨rfl, rfl, trivial⟩)))
theorem f29_runs {p0 : Int} {p1 : List (Int × Int × Int × Int × Str)} {p2 : Int} {r : List Int × Int} (hr : f29 p0 p1 p2 = some r) : RunsP Try.prog 29 [.int .i64 p0, .sl Y1 p1, .int .i64 p2] [.sl (.int .i64) r.1, .int .i64 r.2] := by
  refine runs_w Try.func29 Try.ntmps29 rfl (rs := [.tmp 6, .tmp 7]) rfl rfl fun w0 X hX => ?_
  refine awc_seq ?_
  refine awc_region ?_
  refine awl_v (av_assign rfl) ?_
  refine awl_v (av_assign rfl) ?_
  refine awl_nil (athen_norm (awc_seq (awc_seq ?_)))
  refine awc_region ?_
  refine awl_v (av_move rfl) ?_
  refine awl_v (av_move rfl) ?_
  refine awl_v (av_move rfl) ?_
  refine awl_v (av_buildSlice (t := (.int .i64)) (qs := [(0, [.int .i64 p2])]) (ys := [p2]) bs22 rfl rfl rfl rfl rfl rfl rfl rfl) ?_
  obtain ⟨x1, e2, hr⟩ := bnd_some hr
  refine awl_v (av_call (f53_runs e2) ent53 rfl rfl) ?_
  refine awl_v (av_assign rfl) ?_
  refine awl_nil (athen_norm (awc_seq ?_))
  refine awc_region ?_
  refine awl_v (av_move rfl) ?_
  refine awl_v (av_neq rfl rfl) ?_
  refine awl_nil (athen_norm ?_)
  refine awc_cond (b := !decide (x1 = 0)) rfl (fun hc3 => ?_) (fun hc3 => ?_)
  · have hr := if_t hc3 hr
    refine awc_seq ?_
    refine awc_region ?_
    refine awl_v (av_move rfl) ?_
    refine awl_v (av_assign rfl) ?_
    refine awl_v (av_assign rfl) ?_
    have hr := Option.some.inj hr
    subst hr
    exact awl_nil (athen_norm (awc_ret (athen_ret (ret_q (l' := [(6, .sl (.int .i64) ([] : List Int)), (7, .int .i64 x1)]) (wk_of hX [] 4 rfl rfl ⟨⟨_, rfl, cv2⟩, ⟨_, rfl, cv0⟩, trivial⟩ trivial) rfl ⟨rfl, rfl, trivial⟩))))
  · have hr := if_f hc3 hr
    refine awc_skip (athen_norm (awc_seq ?_))
    refine awc_region ?_
    refine awl_v (av_assign rfl) ?_
    refine awl_nil (athen_norm (awc_seq (awc_seq ?_)))
    refine awc_region ?_
    refine awl_v (av_move rfl) ?_
    obtain ⟨x4, e5, hr⟩ := bnd_some hr
    refine awl_v (av_call (f23_runs e5) ent23 rfl rfl) ?_
    refine awl_v (av_move rfl) ?_
    obtain ⟨x6, e7, hr⟩ := bnd_some hr
    refine awl_v (av_ia_sl (t := (.slice .bool)) (e := x6) und38 sz40 rfl rfl e7) ?_
    refine awl_v (av_load_rp ts40 rfl) ?_
    refine awl_v (av_len_sl (t := .bool) rfl rfl und40 rfl) ?_
    refine awl_v (av_move rfl) ?_
    refine awl_nil (athen_norm (awc_block ?_))
    obtain ⟨o13, e14, hr⟩ := bnd_some hr
    refine awc_len (t := 24) rfl (fun hl => ?_)
    refine awc_range (S := List Int) (R := Unit) (List.length x6 : Int) (f29_b0 x6) (fun p => match p with | (i8, s10) => (⟨[(6, .nils), (7, .int .i64 0), (9, .osl 0), (24, .sl .bool x6), (25, .int .i64 (List.length x6 : Int)), (26, .int .i64 i8)], [(0, .sl 3 (.int .i64) s10)], 1⟩ : AS)) (fun o e st => match o with | .inr _ => False | .inl s10 => e = .exit 0 ∧ Wk X st ⟨[(6, .nils), (7, .int .i64 0), (9, .osl 0)], [(0, .sl 3 (.int .i64) s10)], 1⟩) (len_ok hl) e14 (Wk.trans (wk_own (t := 9) 3 (.int .i64) rfl) (wk_of hX [0] 4 rfl rfl ⟨⟨_, rfl, cv0⟩, ⟨_, rfl, cv0⟩, ⟨_, rfl, cv0⟩, ⟨_, rfl, cv0⟩, ⟨_, rfl, cv0⟩, ⟨_, rfl, cv0⟩, trivial⟩ ⟨cvo0, trivial⟩)) ?_ ?_
    · intro e st hx
      rcases o13 with s10 | _
      · obtain ⟨rfl, hw⟩ := hx
        refine ablock_here (athen_norm ((awc_wk hw) (awc_seq ?_)))
        refine awc_region ?_
        refine awl_v (av_move rfl) ?_
        refine awl_v (av_assign rfl) ?_
        refine awl_v (av_assign rfl) ?_
        have hr := Option.some.inj hr
        subst hr
        exact awl_nil (athen_norm (awc_ret (ret_q (l' := [(6, .sl (.int .i64) s10), (7, .int .i64 0)]) (wk_of hX [] 4 rfl rfl ⟨⟨_, rfl, cv0⟩, ⟨_, rfl, cv0⟩, trivial⟩ trivial) rfl ⟨rfl, rfl, trivial⟩)))
      · exact hx.elim
    · rintro i8 s10 o ho
      refine awc_seq ?_
      refine awc_region ?_
      refine awl_v (av_lss rfl rfl) ?_
      refine awl_nil (athen_norm (awc_seq ?_))
      refine awc_cond (b := decide (i8 < (List.length x6 : Int))) rfl (fun hc15 => ?_) (fun hc15 => ?_)
      · obtain ⟨q, hr, rfl⟩ := rb_t hc15 ho
        refine awc_skip (athen_norm ?_)
        obtain ⟨o17, e18, hr⟩ := bnd_some hr
        refine awc_join (S := List Int) (R := Unit) (fun s => match s with | s16 => (⟨[(6, .nils), (7, .int .i64 0), (9, .osl 0), (24, .sl .bool x6), (25, .int .i64 (List.length x6 : Int)), (26, .int .i64 i8)], [(0, .sl 3 (.int .i64) s16)], 1⟩ : AS)) (fun _ _ _ => False) e18 (fun hr => ?_) ?_ ?_
        · refine awc_block (awc_seq ?_)
          refine awc_region ?_
          refine awl_v (av_move rfl) ?_
          obtain ⟨x19, e20, hr⟩ := bnd_some hr
          refine awl_v (av_ia_sl (t := .bool) (e := x19) und40 sz4 rfl rfl e20) ?_
          refine awl_v (av_load_rp ts4 rfl) ?_
          refine awl_v (av_assign rfl) ?_
          refine awl_v (av_assign rfl) ?_
          refine awl_nil (athen_norm (awc_seq ?_))
          refine awc_region ?_
          refine awl_v (av_move rfl) ?_
          refine awl_nil (athen_norm ?_)
          refine awc_cond (b := x19) rfl (fun hc21 => ?_) (fun hc21 => ?_)
          · have hr := if_t hc21 hr
            refine awc_region ?_
            refine awl_v (av_move rfl) ?_
            refine awl_v (av_move rfl) ?_
            refine awl_v (av_buildSlice (t := (.int .i64)) (qs := [(0, [.int .i64 i8])]) (ys := [i8]) bs22 rfl rfl rfl rfl rfl rfl rfl rfl) ?_
            obtain ⟨h22, hr⟩ := chk_some hr
            refine awl_op (aop_append rfl rfl app22 rfl rfl rfl h22 rfl ?_)
            refine awl_v (av_assign rfl) ?_
            have hr := Option.some.inj hr
            subst hr
            exact awl_nil (ablock_norm ((wk_of hX [1] 4 rfl rfl ⟨⟨_, rfl, cv0⟩, ⟨_, rfl, cv0⟩, ⟨_, rfl, cv0⟩, ⟨_, rfl, cv0⟩, ⟨_, rfl, cv0⟩, ⟨_, rfl, cv0⟩, trivial⟩ ⟨cvo0, trivial⟩)))
          · have hr := if_f hc21 hr
            have hr := Option.some.inj hr
            subst hr
            exact awc_skip (ablock_norm ((wk_of hX [0] 4 rfl rfl ⟨⟨_, rfl, cv0⟩, ⟨_, rfl, cv0⟩, ⟨_, rfl, cv0⟩, ⟨_, rfl, cv0⟩, ⟨_, rfl, cv0⟩, ⟨_, rfl, cv0⟩, trivial⟩ ⟨cvo0, trivial⟩)))
        · rintro s16 rfl
          refine awc_region ?_
          refine awl_v (av_add rfl rfl) ?_
          refine awl_v (av_move rfl) ?_
          have hr := Option.some.inj hr
          subst hr
          exact awl_nil ((wk_of hX [0] 4 rfl rfl ⟨⟨_, rfl, cv0⟩, ⟨_, rfl, cv0⟩, ⟨_, rfl, cv0⟩, ⟨_, rfl, cv0⟩, ⟨_, rfl, cv0⟩, ⟨_, rfl, cv0⟩, trivial⟩ ⟨cvo0, trivial⟩))
        · exact fun r h e st hne hx => hx.elim
      · obtain rfl := rb_f hc15 ho
        exact awc_exit (athen_exit (⟨rfl, (wk_of hX [0] 4 rfl rfl ⟨⟨_, rfl, cv0⟩, ⟨_, rfl, cv0⟩, ⟨_, rfl, cv0⟩, trivial⟩ ⟨cvo0, trivial⟩)⟩))
theorem f30_runs {p0 : Int} {p1 : List (Int × Int × Int × Int × Str)} {p2 : Int} {p3 : Int} {r : List Int × Int} (hr : f30 p0 p1 p2 p3 = some r) : RunsP Try.prog 30 [.int .i64 p0, .sl Y1 p1, .int .i64 p2, .int .i64 p3] [.sl (.int .i64) r.1, .int .i64 r.2] := by
  refine runs_wM Try.func30 Try.ntmps30 rfl (rs := [.tmp 8, .tmp 9]) rfl rfl fun w0 X hX => ?_
  refine awc_seq ?_
  refine awc_region ?_
  refine awl_v (av_assign rfl) ?_
  refine awl_v (av_assign rfl) ?_
  refine awl_nil (athen_norm (awc_scope_ (awc_seq (awc_seq ?_))))
  refine awc_region ?_
  refine awl_v (av_move rfl) ?_
  refine awl_v (av_move rfl) ?_
  refine awl_v (av_move rfl) ?_
  refine awl_v (av_move rfl) ?_
  refine awl_v (av_buildSlice (t := (.int .i64)) (qs := [(0, [.int .i64 p2]), (1, [.int .i64 p3])]) (ys := [p2, p3]) bs22 rfl rfl rfl rfl rfl rfl rfl rfl) ?_
  obtain ⟨x1, e2, hr⟩ := bnd_some hr
  refine awl_v (av_call (f57_runs e2) ent57 rfl rfl) ?_
  refine awl_v (av_assign rfl) ?_
  refine awl_nil (athen_norm (awc_seq ?_))
  refine awc_region ?_
  refine awl_v (av_move rfl) ?_
  refine awl_v (av_neq rfl rfl) ?_
  refine awl_nil (athen_norm ?_)
  refine awc_cond (b := !decide (x1 = 0)) rfl (fun hc3 => ?_) (fun hc3 => ?_)
  · have hr := if_t hc3 hr
    refine awc_seq ?_
    refine awc_region ?_
    refine awl_v (av_move rfl) ?_
    refine awl_v (av_assign rfl) ?_
    refine awl_v (av_assign rfl) ?_
    have hr := Option.some.inj hr
    subst hr
    exact awl_nil (athen_norm (awc_ret (athen_ret (nogoto_ret (ret_q (l' := [(8, .sl (.int .i64) ([] : List Int)), (9, .int .i64 x1)]) (wk_of hX [] 4 rfl rfl ⟨⟨_, rfl, cv2⟩, ⟨_, rfl, cv0⟩, trivial⟩ trivial) rfl ⟨rfl, rfl, trivial⟩)))))
  · have hr := if_f hc3 hr
    refine awc_skip (athen_norm (awc_seq ?_))
    refine awc_region ?_
    refine awl_op (aop_makeMap (.int .i64) (.int .i64) rfl ?_)
    refine awl_v (av_move rfl) ?_
    refine awl_op (aop_mapSet (kx := p3) (vx := 0) und62 kt3 (.inr rfl) rfl rfl rfl rfl rfl rfl rfl ?_)
    refine awl_v (av_move rfl) ?_
    refine awl_v (av_assign rfl) ?_
    refine awl_nil (athen_norm (awc_seq ?_))
    refine awc_region ?_
    refine awl_op (aop_makeMap (.int .i64) (.slice (.int .i64)) rfl ?_)
    refine awl_wk (wk_mpt (i := 1) (.sl 3 (.dat (.int .i64))) rfl rfl) ?_
    refine awl_op (aop_alloc zero76 rfl ?_)
    refine awl_op (aop_store sz76 rfl rfl rfl rfl rfl rfl rfl ?_)
    refine awl_nil (athen_norm (awc_seq (awc_seq ?_)))
    refine awc_region ?_
    refine awl_v (av_move rfl) ?_
    refine awl_v (av_move rfl) ?_
    obtain ⟨x4, e5, hr⟩ := bnd_some hr
    refine awl_v (av_call (f62_runs e5) ent62 rfl rfl) ?_
    refine awl_nil (athen_norm (awc_block ?_))
    obtain ⟨s8, e13, hr⟩ := bnd_some hr
    refine awc_wk (st' := ⟨[(2, .int .i64 p2), (3, .int .i64 p3), (8, .nils), (9, .int .i64 0), (11, .map 0), (12, .ptr 1 0), (47, .fn 82 [] [.rp [.int .i64 p0], .rp [.sl Y1 p1]])], [(0, .map (.int .i64) (.int .i64) (mset [] p3 0)), (1, .var 76 [.map 2]), (2, .mpt (.int .i64) (.sl 3 (.dat (.int .i64))) [] [])], 3⟩) (wk_of hX [0, 2, 1] 4 rfl rfl ⟨⟨_, rfl, cv0⟩, ⟨_, rfl, cv0⟩, ⟨_, rfl, cv0⟩, ⟨_, rfl, cv0⟩, ⟨_, rfl, cv0⟩, ⟨_, rfl, cv0⟩, ⟨_, rfl, cv0⟩, trivial⟩ ⟨cvo0, cvo0, cvo0, trivial⟩) (awc_rangeF (σ := (List (Int × List Int))) (α := Int × List Int) 2 (f30_b0) (fun x => [.int .i64 x.1, .sl (.int .i64) x.2]) [(2, .int .i64 p2), (3, .int .i64 p3), (8, .nils), (9, .int .i64 0), (11, .map 0), (12, .ptr 1 0), (47, .fn 82 [] [.rp [.int .i64 p0], .rp [.sl Y1 p1]])] (fun p => match p with | s8 => ([(0, .map (.int .i64) (.int .i64) (mset [] p3 0)), (1, .var 76 [.map 2]), (2, .mpt (.int .i64) (.sl 3 (.dat (.int .i64))) s8 [])] : AH)) 3 rfl rfl rfl ent82 rfl rfl (fun _ => rfl) rfl (by rw [hX]; rfl) rfl (fun L rec G hrec hY => f82_iter (q := f30_b0) e13 hrec hY) ?_ ?_)
    · intro w0 L X hX
      rintro s8 ⟨y14, y15⟩ s' hr
      refine awc_seq ?_
      refine awc_region ?_
      refine awl_v (av_assign rfl) ?_
      refine awl_nil (athen_norm ?_)
      refine awc_region ?_
      refine awl_v (av_assign rfl) ?_
      refine awl_nil (ranged ?_)
      intro w0
      refine awc_block (awc_seq ?_)
      refine awc_region ?_
      refine awl_v (av_move rfl) ?_
      refine awl_v (av_len_sl (t := (.int .i64)) rfl rfl und22 rfl) ?_
      refine awl_v (av_move rfl) ?_
      refine awl_nil (athen_norm (awc_block ?_))
      obtain ⟨o21, e22, hr⟩ := bnd_some hr
      refine awc_len (t := 49) rfl (fun hl => ?_)
      refine awc_range (S := (List (Int × List Int))) (R := Unit) (List.length y15 : Int) (f30_b1 y14 y15) (fun p => match p with | (i16, s18) => (⟨[(2, .int .i64 p2), (3, .int .i64 p3), (8, .nils), (9, .int .i64 0), (11, .map 0), (12, .ptr 1 0), (13, .int .i64 y14), (14, .sl (.int .i64) y15), (48, .int .i64 y14), (49, .sl (.int .i64) y15), (50, .sl (.int .i64) y15), (51, .int .i64 (List.length y15 : Int)), (52, .int .i64 i16)], [(0, .map (.int .i64) (.int .i64) (mset [] p3 0)), (1, .var 76 [.map 2]), (2, .mpt (.int .i64) (.sl 3 (.dat (.int .i64))) s18 [])], 3⟩ : AS)) (fun o e st => match o with | .inr _ => False | .inl s18 => e = .exit 2 ∧ Wk X st ⟨[(2, .int .i64 p2), (3, .int .i64 p3), (8, .nils), (9, .int .i64 0), (11, .map 0), (12, .ptr 1 0), (13, .int .i64 y14), (14, .sl (.int .i64) y15), (48, .int .i64 y14), (49, .sl (.int .i64) y15)], [(0, .map (.int .i64) (.int .i64) (mset [] p3 0)), (1, .var 76 [.map 2]), (2, .mpt (.int .i64) (.sl 3 (.dat (.int .i64))) s18 [])], 3⟩) (len_ok hl) e22 (wk_of hX [0, 1, 2] 4 rfl rfl ⟨⟨_, rfl, cv0⟩, ⟨_, rfl, cv0⟩, ⟨_, rfl, cv0⟩, ⟨_, rfl, cv0⟩, ⟨_, rfl, cv0⟩, ⟨_, rfl, cv0⟩, ⟨_, rfl, cv0⟩, ⟨_, rfl, cv0⟩, ⟨_, rfl, cv0⟩, ⟨_, rfl, cv0⟩, ⟨_, rfl, cv0⟩, ⟨_, rfl, cv0⟩, ⟨_, rfl, cv0⟩, trivial⟩ ⟨cvo0, cvo0, cvo0, trivial⟩) ?_ ?_
      · intro e st hx
        rcases o21 with s18 | _
        · obtain ⟨rfl, hw⟩ := hx
          have hr := Option.some.inj hr
          subst hr
          exact ablock_here (ablock_norm ((Wk.trans hw (wk_of hX [0, 1, 2] 4 rfl rfl trivial ⟨cvo0, cvo0, cvo0, trivial⟩))))
        · exact hx.elim
      · rintro i16 s18 o ho
        refine awc_seq ?_
        refine awc_region ?_
        refine awl_v (av_lss rfl rfl) ?_
        refine awl_nil (athen_norm (awc_seq ?_))
        refine awc_cond (b := decide (i16 < (List.length y15 : Int))) rfl (fun hc23 => ?_) (fun hc23 => ?_)
        · obtain ⟨q, hr, rfl⟩ := rb_t hc23 ho
          refine awc_skip (athen_norm (awc_seq (awc_block (awc_seq ?_))))
          refine awc_region ?_
          obtain ⟨x24, e25, hr⟩ := bnd_some hr
          refine awl_v (av_ia_sl (t := (.int .i64)) (e := x24) und22 sz3 rfl rfl e25) ?_
          refine awl_v (av_load_rp ts3 rfl) ?_
          refine awl_v (av_assign rfl) ?_
          refine awl_nil (athen_norm ?_)
          refine awc_wk (wk_open_sl (i := 2) (kx := x24) rfl rfl (fun _ h => by cases h)) ?_
          obtain ⟨h26, hr⟩ := chk_some hr
          refine awc_draw_late (st2 := ⟨[(2, .int .i64 p2), (3, .int .i64 p3), (8, .nils), (9, .int .i64 0), (11, .map 0), (12, .ptr 1 0), (13, .int .i64 y14), (14, .sl (.int .i64) y15), (48, .int .i64 y14), (49, .sl (.int .i64) y15), (50, .sl (.int .i64) y15), (51, .int .i64 (List.length y15 : Int)), (52, .int .i64 i16), (16, .int .i64 x24), (63, .osl 4)], [(0, .map (.int .i64) (.int .i64) (mset [] p3 0)), (1, .var 76 [.map 2]), (2, .mpt (.int .i64) (.sl 3 (.dat (.int .i64))) s18 [(x24, 3)]), (3, .dead), (4, .sl 3 (.int .i64) (((mget s18 x24).getD []) ++ [y14]))], 5⟩) 7 [0, 1] [0, 0, 4, 4, 7, 6, 7] mixed [2, 3, 8, 9, 11, 12, 13, 14, 48, 49, 50, 51, 52, 16] [(true, .map 2), (true, .int .i64 x24), (true, .map 2), (true, .int .i64 x24), (true, .osl 3), (true, .int .i64 y14), (true, .sl (.int .i64) [y14])] [[], [], [], [], [2, 3], [], [5]] [4, 6] [2, 3, 8, 9, 11, 12, 13, 14, 48, 49, 50, 51, 52, 16, 63] rfl rfl rfl rfl rfl rfl rfl rfl rfl rfl rfl rfl ⟨?_, ?_, ?_, ?_, ?_, ?_, ?_, trivial⟩ (allT_of ⟨rfl, rfl, trivial⟩) ⟨(fun X' o ho => by obtain rfl := Option.some.inj ho; exact av_load_ptr ts76 rfl rfl rfl), (fun X' o ho => by obtain rfl := Option.some.inj ho; exact av_move rfl), trivial⟩ rfl (fun X' => aop_append rfl rfl app22 rfl rfl rfl h26 rfl ⟨⟨rfl, rfl, rfl, rfl, rfl, rfl, rfl, rfl, rfl, rfl, rfl, rfl, rfl, rfl, rfl, trivial⟩, ⟨rfl, rfl, rfl, rfl, rfl, trivial⟩, rfl⟩) ?_
          · exact ob_v rfl (fun hg => allT_of trivial) (fun hg => av_load_ptr ts76 rfl rfl rfl)
          · exact ob_v rfl (fun hg => allT_of trivial) (fun hg => av_move rfl)
          · exact ob_v rfl (fun hg => allT_of trivial) (fun hg => av_load_ptr ts76 rfl rfl rfl)
          · exact ob_v rfl (fun hg => allT_of trivial) (fun hg => av_move rfl)
          · exact ob_v rfl (fun hg => allT_of ⟨rfl, rfl, trivial⟩) (fun hg => av_look_sl (kx := x24) und76 kt3 zero22 rfl rfl rfl rfl (List.mem_cons.2 (.inl rfl)))
          · exact ob_v rfl (fun hg => allT_of trivial) (fun hg => av_move rfl)
          · exact ob_v rfl (fun hg => allT_of ⟨rfl, trivial⟩) (fun hg => av_buildSlice (t := (.int .i64)) (qs := [(0, [.int .i64 y14])]) (ys := [y14]) bs22 rfl rfl rfl rfl rfl rfl rfl rfl)
          refine awl_op (aop_mptSet (kx := x24) (yx := (((mget s18 x24).getD []) ++ [y14])) (js := [4]) und76 kt3 (.inl rfl) rfl rfl rfl rfl rfl rfl (.inl ⟨4, rfl, rfl, rfl⟩) rfl holes1 ?_)
          refine awl_nil (ablock_norm (athen_norm ?_))
          refine awc_region ?_
          refine awl_v (av_add rfl rfl) ?_
          refine awl_v (av_move rfl) ?_
          have hr := Option.some.inj hr
          subst hr
          exact awl_nil ((wk_of hX [0, 1, 2] 4 rfl rfl ⟨⟨_, rfl, cv0⟩, ⟨_, rfl, cv0⟩, ⟨_, rfl, cv0⟩, ⟨_, rfl, cv0⟩, ⟨_, rfl, cv0⟩, ⟨_, rfl, cv0⟩, ⟨_, rfl, cv0⟩, ⟨_, rfl, cv0⟩, ⟨_, rfl, cv0⟩, ⟨_, rfl, cv0⟩, ⟨_, rfl, cv0⟩, ⟨_, rfl, cv0⟩, ⟨_, rfl, cv0⟩, trivial⟩ ⟨cvo0, cvo0, cvo0, trivial⟩))
        · obtain rfl := rb_f hc23 ho
          exact awc_exit (athen_exit (⟨rfl, (wk_of hX [0, 1, 2] 4 rfl rfl ⟨⟨_, rfl, cv0⟩, ⟨_, rfl, cv0⟩, ⟨_, rfl, cv0⟩, ⟨_, rfl, cv0⟩, ⟨_, rfl, cv0⟩, ⟨_, rfl, cv0⟩, ⟨_, rfl, cv0⟩, ⟨_, rfl, cv0⟩, ⟨_, rfl, cv0⟩, ⟨_, rfl, cv0⟩, trivial⟩ ⟨cvo0, cvo0, cvo0, trivial⟩)⟩))
    refine ablock_norm (athen_norm (awc_seq (awc_seq ?_)))
    refine awc_region ?_
    refine awl_v (av_move rfl) ?_
    refine awl_v (av_sub rfl rfl) ?_
    refine awl_v (av_assign rfl) ?_
    refine awl_nil (athen_norm (awc_block ?_))
    refine awc_wk (wk_frzM (i := 2) rfl rfl) ?_
    obtain ⟨s32, e34, hr⟩ := bnd_some hr
    refine awc_loop (S := Int × (List (Int × Int))) (R := (List (Int × Int))) (fun p => match p with | (s27, s28) => (⟨[(2, .int .i64 p2), (3, .int .i64 p3), (8, .nils), (9, .int .i64 0), (11, .map 0), (12, .ptr 1 0), (17, .int .i64 s27)], [(0, .map (.int .i64) (.int .i64) s28), (1, .var 76 [.map 2]), (2, .map (.int .i64) (.slice (.int .i64)) s8)], 3⟩ : AS)) (f30_b2 p2 s8) (fun r e st => match r with | s32 => e = .exit 4 ∧ Wk X st ⟨[(2, .int .i64 p2), (3, .int .i64 p3), (8, .nils), (9, .int .i64 0), (11, .map 0), (12, .ptr 1 0)], [(0, .map (.int .i64) (.int .i64) s32), (1, .var 76 [.map 2]), (2, .map (.int .i64) (.slice (.int .i64)) s8)], 3⟩) e34 (wk_of hX [0, 1, 2] 4 rfl rfl ⟨⟨_, rfl, cv0⟩, ⟨_, rfl, cv0⟩, ⟨_, rfl, cv0⟩, ⟨_, rfl, cv0⟩, ⟨_, rfl, cv0⟩, ⟨_, rfl, cv0⟩, ⟨_, rfl, cv0⟩, trivial⟩ ⟨cvo0, cvo0, cvo0, trivial⟩) ?_ ?_
    · intro e st hx
      obtain ⟨rfl, hw⟩ := hx
      refine ablock_here (athen_norm ((awc_wk hw) (awc_seq (awc_seq ?_))))
      refine awc_region ?_
      refine awl_v (av_move rfl) ?_
      refine awl_v (av_move rfl) ?_
      refine awl_v (av_lookup2 (kx := p2) (r := .tup [.int .i64 ((mget s32 p2).getD 0), .bool ((mget s32 p2).isSome)]) und62 kt3 zw3 rfl rfl rfl rfl rfl) ?_
      refine awl_v (av_move rfl) ?_
      refine awl_v (av_extract rfl rfl) ?_
      refine awl_v (av_extract rfl rfl) ?_
      refine awl_v (av_assign rfl) ?_
      refine awl_v (av_assign rfl) ?_
      refine awl_nil (athen_norm (awc_seq ?_))
      refine awc_region ?_
      refine awl_v (av_move rfl) ?_
      refine awl_v (av_not rfl) ?_
      refine awl_nil (athen_norm ?_)
      refine awc_cond (b := !((mget s32 p2).isSome)) rfl (fun hc35 => ?_) (fun hc35 => ?_)
      · have hr := if_t hc35 hr
        refine awc_seq ?_
        refine awc_region ?_
        refine awl_v (av_assign rfl) ?_
        refine awl_v (av_assign rfl) ?_
        have hr := Option.some.inj hr
        subst hr
        exact awl_nil (athen_norm (awc_ret (athen_ret (nogoto_ret (ret_q (l' := [(8, .sl (.int .i64) ([] : List Int)), (9, .int .i64 8)]) (wk_of hX [] 4 rfl rfl ⟨⟨_, rfl, cv2⟩, ⟨_, rfl, cv0⟩, trivial⟩ trivial) rfl ⟨rfl, rfl, trivial⟩)))))
      · have hr := if_f hc35 hr
        refine awc_skip (athen_norm (awc_seq ?_))
        refine awc_region ?_
        refine awl_v (av_move rfl) ?_
        refine awl_op (aop_buildSlice (t := (.int .i64)) (qs := [(0, [.int .i64 p2])]) (ys := [p2]) bs22 rfl rfl rfl rfl rfl rfl rfl rfl ?_)
        refine awl_v (av_assign rfl) ?_
        refine awl_nil (athen_norm (awc_seq (awc_label (athen_norm (awc_seq (awc_seq ?_))))))
        refine awc_region ?_
        refine awl_v (av_move rfl) ?_
        refine awl_v (av_assign rfl) ?_
        refine awl_nil (athen_norm (awc_block ?_))
        obtain ⟨s41, e43, hr⟩ := bnd_some hr
        refine awc_loop (S := Int × List Int) (R := List Int) (fun p => match p with | (s36, s37) => (⟨[(3, .int .i64 p3), (8, .nils), (9, .int .i64 0), (11, .map 0), (12, .ptr 1 0), (26, .osl 2), (27, .int .i64 s36)], [(0, .map (.int .i64) (.int .i64) s32), (1, .var 76 [.map 3]), (2, .sl 3 (.int .i64) s37), (3, .map (.int .i64) (.slice (.int .i64)) s8)], 4⟩ : AS)) (f30_b3 p3 s8 s32) (fun r e st => match r with | s41 => e = .exit 8 ∧ Wk X st ⟨[(8, .nils), (9, .int .i64 0), (26, .osl 0)], [(0, .sl 3 (.int .i64) s41)], 1⟩) e43 (wk_of hX [0, 1, 3, 2] 4 rfl rfl ⟨⟨_, rfl, cv0⟩, ⟨_, rfl, cv0⟩, ⟨_, rfl, cv0⟩, ⟨_, rfl, cv0⟩, ⟨_, rfl, cv0⟩, ⟨_, rfl, cv0⟩, ⟨_, rfl, cv0⟩, trivial⟩ ⟨cvo0, cvo0, cvo0, cvo0, trivial⟩) ?_ ?_
        · intro e st hx
          obtain ⟨rfl, hw⟩ := hx
          refine ablock_here (athen_norm ((awc_wk hw) (awc_seq ?_)))
          refine awc_region ?_
          refine awl_v (av_move rfl) ?_
          refine awl_v (av_assign rfl) ?_
          refine awl_v (av_assign rfl) ?_
          have hr := Option.some.inj hr
          subst hr
          exact awl_nil (athen_norm (awc_ret (nogoto_ret (ret_q (l' := [(8, .sl (.int .i64) s41), (9, .int .i64 0)]) (wk_of hX [] 4 rfl rfl ⟨⟨_, rfl, cv0⟩, ⟨_, rfl, cv0⟩, trivial⟩ trivial) rfl ⟨rfl, rfl, trivial⟩))))
        · rintro ⟨s36, s37⟩ o hr
          refine awc_seq (awc_seq ?_)
          refine awc_region ?_
          refine awl_v (av_move rfl) ?_
          refine awl_v (av_move rfl) ?_
          refine awl_v (av_neq rfl rfl) ?_
          refine awl_nil (athen_norm ?_)
          refine awc_cond (b := !decide (s36 = p3)) rfl (fun hc44 => ?_) (fun hc44 => ?_)
          · have hr := if_t hc44 hr
            refine awc_skip (athen_norm (awc_block (awc_seq ?_)))
            refine awc_region ?_
            refine awl_v (av_load_ptr ts76 rfl rfl rfl) ?_
            refine awl_v (av_move rfl) ?_
            refine awl_v (av_lookup (kx := s36) (r := .sl (.int .i64) ((mget s8 s36).getD [])) und76 kt3 zw22 rfl rfl rfl rfl rfl) ?_
            refine awl_v (av_len_sl (t := (.int .i64)) rfl rfl und22 rfl) ?_
            refine awl_v (av_move rfl) ?_
            refine awl_nil (athen_norm (awc_block ?_))
            obtain ⟨o49, e50, hr⟩ := bnd_some hr
            refine awc_len (t := 122) rfl (fun hl => ?_)
            refine awc_range (S := Unit) (R := Int × List Int) (List.length ((mget s8 s36).getD []) : Int) (f30_b4 s8 s32 s36 s37) (fun p => match p with | (i45, ()) => (⟨[(3, .int .i64 p3), (8, .nils), (9, .int .i64 0), (11, .map 0), (12, .ptr 1 0), (26, .osl 2), (27, .int .i64 s36), (122, .sl (.int .i64) ((mget s8 s36).getD [])), (123, .int .i64 (List.length ((mget s8 s36).getD []) : Int)), (124, .int .i64 i45)], [(0, .map (.int .i64) (.int .i64) s32), (1, .var 76 [.map 3]), (2, .sl 3 (.int .i64) s37), (3, .map (.int .i64) (.slice (.int .i64)) s8)], 4⟩ : AS)) (fun o e st => match o with | .inl () => e = .exit 10 ∧ Wk X st ⟨[(3, .int .i64 p3), (8, .nils), (9, .int .i64 0), (11, .map 0), (12, .ptr 1 0), (26, .osl 2), (27, .int .i64 s36)], [(0, .map (.int .i64) (.int .i64) s32), (1, .var 76 [.map 3]), (2, .sl 3 (.int .i64) s37), (3, .map (.int .i64) (.slice (.int .i64)) s8)], 4⟩ | .inr (s47, s48) => e = .exit 9 ∧ Wk X st ⟨[(3, .int .i64 p3), (8, .nils), (9, .int .i64 0), (11, .map 0), (12, .ptr 1 0), (26, .osl 2), (27, .int .i64 s47)], [(0, .map (.int .i64) (.int .i64) s32), (1, .var 76 [.map 3]), (2, .sl 3 (.int .i64) s48), (3, .map (.int .i64) (.slice (.int .i64)) s8)], 4⟩) (len_ok hl) e50 (wk_of hX [0, 1, 2, 3] 4 rfl rfl ⟨⟨_, rfl, cv0⟩, ⟨_, rfl, cv0⟩, ⟨_, rfl, cv0⟩, ⟨_, rfl, cv0⟩, ⟨_, rfl, cv0⟩, ⟨_, rfl, cv0⟩, ⟨_, rfl, cv0⟩, ⟨_, rfl, cv0⟩, ⟨_, rfl, cv0⟩, ⟨_, rfl, cv0⟩, trivial⟩ ⟨cvo0, cvo0, cvo0, cvo0, trivial⟩) ?_ ?_
            · intro e st hx
              rcases o49 with _ | ⟨s47, s48⟩
              · obtain ⟨rfl, hw⟩ := hx
                have hr := Option.some.inj hr
                subst hr
                exact ablock_here (ablock_norm ((Wk.trans hw (wk_of hX [0, 1, 2, 3] 4 rfl rfl ⟨⟨_, rfl, cv0⟩, ⟨_, rfl, cv0⟩, ⟨_, rfl, cv0⟩, ⟨_, rfl, cv0⟩, ⟨_, rfl, cv0⟩, ⟨_, rfl, cv0⟩, ⟨_, rfl, cv0⟩, trivial⟩ ⟨cvo0, cvo0, cvo0, cvo0, trivial⟩))))
              · obtain ⟨rfl, hw⟩ := hx
                have hr := Option.some.inj hr
                subst hr
                exact (ablock_far rfl) (ablock_here ((Wk.trans hw (wk_of hX [0, 1, 2, 3] 4 rfl rfl ⟨⟨_, rfl, cv0⟩, ⟨_, rfl, cv0⟩, ⟨_, rfl, cv0⟩, ⟨_, rfl, cv0⟩, ⟨_, rfl, cv0⟩, ⟨_, rfl, cv0⟩, ⟨_, rfl, cv0⟩, trivial⟩ ⟨cvo0, cvo0, cvo0, cvo0, trivial⟩))))
            · rintro i45 _ o ho
              refine awc_seq ?_
              refine awc_region ?_
              refine awl_v (av_lss rfl rfl) ?_
              refine awl_nil (athen_norm (awc_seq ?_))
              refine awc_cond (b := decide (i45 < (List.length ((mget s8 s36).getD []) : Int))) rfl (fun hc51 => ?_) (fun hc51 => ?_)
              · obtain ⟨q, hr, rfl⟩ := rb_t hc51 ho
                refine awc_skip (athen_norm (awc_seq (awc_block (awc_seq ?_))))
                refine awc_region ?_
                obtain ⟨x52, e53, hr⟩ := bnd_some hr
                refine awl_v (av_ia_sl (t := (.int .i64)) (e := x52) und22 sz3 rfl rfl e53) ?_
                refine awl_v (av_load_rp ts3 rfl) ?_
                refine awl_v (av_assign rfl) ?_
                refine awl_nil (athen_norm (awc_seq ?_))
                refine awc_region ?_
                refine awl_v (av_move rfl) ?_
                refine awl_v (av_move rfl) ?_
                refine awl_v (av_lookup2 (kx := x52) (r := .tup [.int .i64 ((mget s32 x52).getD 0), .bool ((mget s32 x52).isSome)]) und62 kt3 zw3 rfl rfl rfl rfl rfl) ?_
                refine awl_v (av_move rfl) ?_
                refine awl_v (av_extract rfl rfl) ?_
                refine awl_v (av_extract rfl rfl) ?_
                refine awl_v (av_assign rfl) ?_
                refine awl_v (av_assign rfl) ?_
                refine awl_nil (athen_norm (awc_seq ?_))
                refine awc_text [3, 8, 9, 11, 12, 26, 27, 122, 123, 124, 29, 30, 31] [(true, .bool ((mget s32 x52).isSome)), (true, .bool ((mget s32 x52).isSome)), ((mget s32 x52).isSome, .int .i64 ((mget s32 x52).getD 0)), ((mget s32 x52).isSome, .map 0), ((mget s32 x52).isSome, .int .i64 s36), ((mget s32 x52).isSome, .int .i64 ((mget s32 s36).getD 0)), ((mget s32 x52).isSome, .int .i64 (w64 (((mget s32 s36).getD 0) - 1))), ((mget s32 x52).isSome, .bool (decide (((mget s32 x52).getD 0) = (w64 (((mget s32 s36).getD 0) - 1))))), (true, .bool (((mget s32 x52).isSome) && (decide (((mget s32 x52).getD 0) = (w64 (((mget s32 s36).getD 0) - 1))))))] [[], [0], [1], [1], [1], [3, 4, 1], [5, 1], [2, 6, 1], [7, 1]] [8] rfl rfl rfl rfl rfl ⟨?_, ?_, ?_, ?_, ?_, ?_, ?_, ?_, ?_, trivial⟩ (allT_of ⟨rfl, trivial⟩) ?_
                · exact ob_v rfl (fun hg => allT_of trivial) (fun hg => av_move rfl)
                · exact ob_v rfl (fun hg => allT_of ⟨rfl, trivial⟩) (fun hg => av_move rfl)
                · exact ob_v ⟨rfl, rfl, rfl, _, rfl, rfl⟩ (fun hg => allT_of ⟨rfl, trivial⟩) (fun hg => av_move rfl)
                · exact ob_v ⟨rfl, rfl, rfl, _, rfl, rfl⟩ (fun hg => allT_of ⟨rfl, trivial⟩) (fun hg => av_move rfl)
                · exact ob_v ⟨rfl, rfl, rfl, _, rfl, rfl⟩ (fun hg => allT_of ⟨rfl, trivial⟩) (fun hg => av_move rfl)
                · exact ob_v ⟨rfl, rfl, rfl, _, rfl, rfl⟩ (fun hg => allT_of ⟨hg, hg, rfl, trivial⟩) (fun hg => av_lookup (kx := s36) (r := .int .i64 ((mget s32 s36).getD 0)) und62 kt3 zw3 rfl rfl rfl rfl rfl)
                · exact ob_v ⟨rfl, rfl, rfl, _, rfl, rfl⟩ (fun hg => allT_of ⟨hg, rfl, trivial⟩) (fun hg => av_sub rfl rfl)
                · exact ob_v ⟨rfl, rfl, rfl, _, rfl, rfl⟩ (fun hg => allT_of ⟨hg, hg, rfl, trivial⟩) (fun hg => av_eql rfl rfl)
                · exact ob_pick (b := true) (p := (mget s32 x52).isSome) (q := decide (((mget s32 x52).getD 0) = (w64 (((mget s32 s36).getD 0) - 1)))) rfl rfl rfl (fun hg => allT_of ⟨rfl, trivial⟩) rfl rfl rfl rfl rfl
                refine athen_norm ?_
                refine awc_cond (b := ((mget s32 x52).isSome) && (decide (((mget s32 x52).getD 0) = (w64 (((mget s32 s36).getD 0) - 1))))) rfl (fun hc54 => ?_) (fun hc54 => ?_)
                · have hr := if_t hc54 hr
                  refine awc_seq ?_
                  refine awc_region ?_
                  refine awl_v (av_move rfl) ?_
                  refine awl_v (av_move rfl) ?_
                  refine awl_v (av_buildSlice (t := (.int .i64)) (qs := [(0, [.int .i64 x52])]) (ys := [x52]) bs22 rfl rfl rfl rfl rfl rfl rfl rfl) ?_
                  obtain ⟨h55, hr⟩ := chk_some hr
                  refine awl_op (aop_append rfl rfl app22 rfl rfl rfl h55 rfl ?_)
                  refine awl_v (av_move rfl) ?_
                  refine awl_v (av_assign rfl) ?_
                  refine awl_v (av_assign rfl) ?_
                  have hr := Option.some.inj hr
                  subst hr
                  exact awl_nil (athen_norm (awc_exit ((ablock_far rfl) (athen_exit (⟨rfl, (wk_of hX [0, 1, 4, 3] 4 rfl rfl ⟨⟨_, rfl, cv0⟩, ⟨_, rfl, cv0⟩, ⟨_, rfl, cv0⟩, ⟨_, rfl, cv0⟩, ⟨_, rfl, cv0⟩, ⟨_, rfl, cv0⟩, ⟨_, rfl, cv0⟩, trivial⟩ ⟨cvo0, cvo0, cvo0, cvo0, trivial⟩)⟩)))))
                · have hr := if_f hc54 hr
                  refine awc_skip (ablock_norm (athen_norm ?_))
                  refine awc_region ?_
                  refine awl_v (av_add rfl rfl) ?_
                  refine awl_v (av_move rfl) ?_
                  have hr := Option.some.inj hr
                  subst hr
                  exact awl_nil ((wk_of hX [0, 1, 2, 3] 4 rfl rfl ⟨⟨_, rfl, cv0⟩, ⟨_, rfl, cv0⟩, ⟨_, rfl, cv0⟩, ⟨_, rfl, cv0⟩, ⟨_, rfl, cv0⟩, ⟨_, rfl, cv0⟩, ⟨_, rfl, cv0⟩, ⟨_, rfl, cv0⟩, ⟨_, rfl, cv0⟩, ⟨_, rfl, cv0⟩, trivial⟩ ⟨cvo0, cvo0, cvo0, cvo0, trivial⟩))
              · obtain rfl := rb_f hc51 ho
                exact awc_exit (athen_exit (⟨rfl, (wk_of hX [0, 1, 2, 3] 4 rfl rfl ⟨⟨_, rfl, cv0⟩, ⟨_, rfl, cv0⟩, ⟨_, rfl, cv0⟩, ⟨_, rfl, cv0⟩, ⟨_, rfl, cv0⟩, ⟨_, rfl, cv0⟩, ⟨_, rfl, cv0⟩, trivial⟩ ⟨cvo0, cvo0, cvo0, cvo0, trivial⟩)⟩))
          · have hr := if_f hc44 hr
            have hr := Option.some.inj hr
            subst hr
            exact awc_exit (athen_exit (⟨rfl, (wk_of hX [2] 4 rfl rfl ⟨⟨_, rfl, cv0⟩, ⟨_, rfl, cv0⟩, ⟨_, rfl, cv0⟩, trivial⟩ ⟨cvo0, trivial⟩)⟩))
    · rintro ⟨s27, s28⟩ o hr
      refine awc_seq (awc_seq ?_)
      refine awc_region ?_
      refine awl_v (av_move rfl) ?_
      refine awl_v (av_move rfl) ?_
      refine awl_v (av_geq rfl rfl) ?_
      refine awl_nil (athen_norm ?_)
      refine awc_cond (b := decide (p2 ≤ s27)) rfl (fun hc56 => ?_) (fun hc56 => ?_)
      · have hr := if_t hc56 hr
        refine awc_skip (athen_norm (awc_seq (awc_block (awc_seq ?_))))
        refine awc_region ?_
        refine awl_v (av_load_ptr ts76 rfl rfl rfl) ?_
        refine awl_v (av_move rfl) ?_
        refine awl_v (av_lookup (kx := s27) (r := .sl (.int .i64) ((mget s8 s27).getD [])) und76 kt3 zw22 rfl rfl rfl rfl rfl) ?_
        refine awl_v (av_len_sl (t := (.int .i64)) rfl rfl und22 rfl) ?_
        refine awl_v (av_move rfl) ?_
        refine awl_nil (athen_norm (awc_block ?_))
        obtain ⟨o62, e63, hr⟩ := bnd_some hr
        refine awc_len (t := 74) rfl (fun hl => ?_)
        refine awc_range (S := (List (Int × Int))) (R := Unit) (List.length ((mget s8 s27).getD []) : Int) (f30_b5 s8 s27) (fun p => match p with | (i57, s59) => (⟨[(2, .int .i64 p2), (3, .int .i64 p3), (8, .nils), (9, .int .i64 0), (11, .map 0), (12, .ptr 1 0), (17, .int .i64 s27), (74, .sl (.int .i64) ((mget s8 s27).getD [])), (75, .int .i64 (List.length ((mget s8 s27).getD []) : Int)), (76, .int .i64 i57)], [(0, .map (.int .i64) (.int .i64) s59), (1, .var 76 [.map 2]), (2, .map (.int .i64) (.slice (.int .i64)) s8)], 3⟩ : AS)) (fun o e st => match o with | .inr _ => False | .inl s59 => e = .exit 6 ∧ Wk X st ⟨[(2, .int .i64 p2), (3, .int .i64 p3), (8, .nils), (9, .int .i64 0), (11, .map 0), (12, .ptr 1 0), (17, .int .i64 s27)], [(0, .map (.int .i64) (.int .i64) s59), (1, .var 76 [.map 2]), (2, .map (.int .i64) (.slice (.int .i64)) s8)], 3⟩) (len_ok hl) e63 (wk_of hX [0, 1, 2] 4 rfl rfl ⟨⟨_, rfl, cv0⟩, ⟨_, rfl, cv0⟩, ⟨_, rfl, cv0⟩, ⟨_, rfl, cv0⟩, ⟨_, rfl, cv0⟩, ⟨_, rfl, cv0⟩, ⟨_, rfl, cv0⟩, ⟨_, rfl, cv0⟩, ⟨_, rfl, cv0⟩, ⟨_, rfl, cv0⟩, trivial⟩ ⟨cvo0, cvo0, cvo0, trivial⟩) ?_ ?_
        · intro e st hx
          rcases o62 with s59 | _
          · obtain ⟨rfl, hw⟩ := hx
            refine ablock_here (ablock_norm (athen_norm ((awc_wk hw) ?_)))
            refine awc_region ?_
            refine awl_v (av_move rfl) ?_
            refine awl_v (av_sub rfl rfl) ?_
            refine awl_v (av_assign rfl) ?_
            have hr := Option.some.inj hr
            subst hr
            exact awl_nil ((wk_of hX [0, 1, 2] 4 rfl rfl ⟨⟨_, rfl, cv0⟩, ⟨_, rfl, cv0⟩, ⟨_, rfl, cv0⟩, ⟨_, rfl, cv0⟩, ⟨_, rfl, cv0⟩, ⟨_, rfl, cv0⟩, ⟨_, rfl, cv0⟩, trivial⟩ ⟨cvo0, cvo0, cvo0, trivial⟩))
          · exact hx.elim
        · rintro i57 s59 o ho
          refine awc_seq ?_
          refine awc_region ?_
          refine awl_v (av_lss rfl rfl) ?_
          refine awl_nil (athen_norm (awc_seq ?_))
          refine awc_cond (b := decide (i57 < (List.length ((mget s8 s27).getD []) : Int))) rfl (fun hc64 => ?_) (fun hc64 => ?_)
          · obtain ⟨q, hr, rfl⟩ := rb_t hc64 ho
            refine awc_skip (athen_norm ?_)
            obtain ⟨o66, e67, hr⟩ := bnd_some hr
            refine awc_join (S := (List (Int × Int))) (R := Unit) (fun s => match s with | s65 => (⟨[(2, .int .i64 p2), (3, .int .i64 p3), (8, .nils), (9, .int .i64 0), (11, .map 0), (12, .ptr 1 0), (17, .int .i64 s27), (74, .sl (.int .i64) ((mget s8 s27).getD [])), (75, .int .i64 (List.length ((mget s8 s27).getD []) : Int)), (76, .int .i64 i57)], [(0, .map (.int .i64) (.int .i64) s65), (1, .var 76 [.map 2]), (2, .map (.int .i64) (.slice (.int .i64)) s8)], 3⟩ : AS)) (fun _ _ _ => False) e67 (fun hr => ?_) ?_ ?_
            · refine awc_block (awc_seq ?_)
              refine awc_region ?_
              obtain ⟨x68, e69, hr⟩ := bnd_some hr
              refine awl_v (av_ia_sl (t := (.int .i64)) (e := x68) und22 sz3 rfl rfl e69) ?_
              refine awl_v (av_load_rp ts3 rfl) ?_
              refine awl_v (av_assign rfl) ?_
              refine awl_nil (athen_norm (awc_seq ?_))
              refine awc_region ?_
              refine awl_v (av_move rfl) ?_
              refine awl_v (av_move rfl) ?_
              refine awl_v (av_lookup2 (kx := x68) (r := .tup [.int .i64 ((mget s59 x68).getD 0), .bool ((mget s59 x68).isSome)]) und62 kt3 zw3 rfl rfl rfl rfl rfl) ?_
              refine awl_v (av_move rfl) ?_
              refine awl_v (av_extract rfl rfl) ?_
              refine awl_v (av_extract rfl rfl) ?_
              refine awl_v (av_assign rfl) ?_
              refine awl_v (av_assign rfl) ?_
              refine awl_nil (athen_norm (awc_seq ?_))
              refine awc_region ?_
              refine awl_v (av_move rfl) ?_
              refine awl_nil (athen_norm ?_)
              refine awc_cond (b := (mget s59 x68).isSome) rfl (fun hc70 => ?_) (fun hc70 => ?_)
              · have hr := if_t hc70 hr
                refine awc_seq ?_
                refine awc_region ?_
                refine awl_v (av_move rfl) ?_
                refine awl_v (av_move rfl) ?_
                refine awl_v (av_lookup2 (kx := s27) (r := .tup [.int .i64 ((mget s59 s27).getD 0), .bool ((mget s59 s27).isSome)]) und62 kt3 zw3 rfl rfl rfl rfl rfl) ?_
                refine awl_v (av_move rfl) ?_
                refine awl_v (av_extract rfl rfl) ?_
                refine awl_v (av_extract rfl rfl) ?_
                refine awl_v (av_assign rfl) ?_
                refine awl_v (av_assign rfl) ?_
                refine awl_nil (athen_norm (awc_seq ?_))
                refine awc_text [2, 3, 8, 9, 11, 12, 17, 74, 75, 76, 20, 22, 23] [(true, .bool ((mget s59 s27).isSome)), (true, .bool (!((mget s59 s27).isSome))), (true, .bool (!((mget s59 s27).isSome))), (!(!((mget s59 s27).isSome)), .int .i64 ((mget s59 x68).getD 0)), (!(!((mget s59 s27).isSome)), .int .i64 (w64 (((mget s59 x68).getD 0) + 1))), (!(!((mget s59 s27).isSome)), .int .i64 ((mget s59 s27).getD 0)), (!(!((mget s59 s27).isSome)), .bool (decide ((w64 (((mget s59 x68).getD 0) + 1)) < ((mget s59 s27).getD 0)))), (true, .bool ((!((mget s59 s27).isSome)) || (decide ((w64 (((mget s59 x68).getD 0) + 1)) < ((mget s59 s27).getD 0)))))] [[], [0], [1], [2], [3, 2], [2], [4, 5, 2], [6, 2]] [7] rfl rfl rfl rfl rfl ⟨?_, ?_, ?_, ?_, ?_, ?_, ?_, ?_, trivial⟩ (allT_of ⟨rfl, trivial⟩) ?_
                · exact ob_v rfl (fun hg => allT_of trivial) (fun hg => av_move rfl)
                · exact ob_v rfl (fun hg => allT_of ⟨rfl, trivial⟩) (fun hg => av_not rfl)
                · exact ob_v rfl (fun hg => allT_of ⟨rfl, trivial⟩) (fun hg => av_move rfl)
                · exact ob_v ⟨rfl, rfl, rfl, _, rfl, rfl⟩ (fun hg => allT_of ⟨rfl, trivial⟩) (fun hg => av_move rfl)
                · exact ob_v ⟨rfl, rfl, rfl, _, rfl, rfl⟩ (fun hg => allT_of ⟨hg, rfl, trivial⟩) (fun hg => av_add rfl rfl)
                · exact ob_v ⟨rfl, rfl, rfl, _, rfl, rfl⟩ (fun hg => allT_of ⟨rfl, trivial⟩) (fun hg => av_move rfl)
                · exact ob_v ⟨rfl, rfl, rfl, _, rfl, rfl⟩ (fun hg => allT_of ⟨hg, hg, rfl, trivial⟩) (fun hg => av_lss rfl rfl)
                · exact ob_pick (b := false) (p := !((mget s59 s27).isSome)) (q := decide ((w64 (((mget s59 x68).getD 0) + 1)) < ((mget s59 s27).getD 0))) rfl rfl rfl (fun hg => allT_of ⟨rfl, trivial⟩) rfl rfl rfl rfl rfl
                refine athen_norm ?_
                refine awc_cond (b := (!((mget s59 s27).isSome)) || (decide ((w64 (((mget s59 x68).getD 0) + 1)) < ((mget s59 s27).getD 0)))) rfl (fun hc71 => ?_) (fun hc71 => ?_)
                · have hr := if_t hc71 hr
                  refine awc_region ?_
                  refine awl_v (av_move rfl) ?_
                  refine awl_v (av_move rfl) ?_
                  refine awl_v (av_move rfl) ?_
                  refine awl_v (av_add rfl rfl) ?_
                  refine awl_op (aop_mapSet (kx := s27) (vx := (w64 (((mget s59 x68).getD 0) + 1))) und62 kt3 (.inl rfl) rfl rfl rfl rfl rfl rfl rfl ?_)
                  have hr := Option.some.inj hr
                  subst hr
                  exact awl_nil (ablock_norm ((wk_of hX [0, 1, 2] 4 rfl rfl ⟨⟨_, rfl, cv0⟩, ⟨_, rfl, cv0⟩, ⟨_, rfl, cv0⟩, ⟨_, rfl, cv0⟩, ⟨_, rfl, cv0⟩, ⟨_, rfl, cv0⟩, ⟨_, rfl, cv0⟩, ⟨_, rfl, cv0⟩, ⟨_, rfl, cv0⟩, ⟨_, rfl, cv0⟩, trivial⟩ ⟨cvo0, cvo0, cvo0, trivial⟩)))
                · have hr := if_f hc71 hr
                  have hr := Option.some.inj hr
                  subst hr
                  exact awc_skip (ablock_norm ((wk_of hX [0, 1, 2] 4 rfl rfl ⟨⟨_, rfl, cv0⟩, ⟨_, rfl, cv0⟩, ⟨_, rfl, cv0⟩, ⟨_, rfl, cv0⟩, ⟨_, rfl, cv0⟩, ⟨_, rfl, cv0⟩, ⟨_, rfl, cv0⟩, ⟨_, rfl, cv0⟩, ⟨_, rfl, cv0⟩, ⟨_, rfl, cv0⟩, trivial⟩ ⟨cvo0, cvo0, cvo0, trivial⟩)))
              · have hr := if_f hc70 hr
                have hr := Option.some.inj hr
                subst hr
                exact awc_skip (ablock_norm ((wk_of hX [0, 1, 2] 4 rfl rfl ⟨⟨_, rfl, cv0⟩, ⟨_, rfl, cv0⟩, ⟨_, rfl, cv0⟩, ⟨_, rfl, cv0⟩, ⟨_, rfl, cv0⟩, ⟨_, rfl, cv0⟩, ⟨_, rfl, cv0⟩, ⟨_, rfl, cv0⟩, ⟨_, rfl, cv0⟩, ⟨_, rfl, cv0⟩, trivial⟩ ⟨cvo0, cvo0, cvo0, trivial⟩)))
            · rintro s65 rfl
              refine awc_region ?_
              refine awl_v (av_add rfl rfl) ?_
              refine awl_v (av_move rfl) ?_
              have hr := Option.some.inj hr
              subst hr
              exact awl_nil ((wk_of hX [0, 1, 2] 4 rfl rfl ⟨⟨_, rfl, cv0⟩, ⟨_, rfl, cv0⟩, ⟨_, rfl, cv0⟩, ⟨_, rfl, cv0⟩, ⟨_, rfl, cv0⟩, ⟨_, rfl, cv0⟩, ⟨_, rfl, cv0⟩, ⟨_, rfl, cv0⟩, ⟨_, rfl, cv0⟩, ⟨_, rfl, cv0⟩, trivial⟩ ⟨cvo0, cvo0, cvo0, trivial⟩))
            · exact fun r h e st hne hx => hx.elim
          · obtain rfl := rb_f hc64 ho
            exact awc_exit (athen_exit (⟨rfl, (wk_of hX [0, 1, 2] 4 rfl rfl ⟨⟨_, rfl, cv0⟩, ⟨_, rfl, cv0⟩, ⟨_, rfl, cv0⟩, ⟨_, rfl, cv0⟩, ⟨_, rfl, cv0⟩, ⟨_, rfl, cv0⟩, ⟨_, rfl, cv0⟩, trivial⟩ ⟨cvo0, cvo0, cvo0, trivial⟩)⟩))
      · have hr := if_f hc56 hr
        have hr := Option.some.inj hr
        subst hr
        exact awc_exit (athen_exit (⟨rfl, (wk_of hX [0, 1, 2] 4 rfl rfl ⟨⟨_, rfl, cv0⟩, ⟨_, rfl, cv0⟩, ⟨_, rfl, cv0⟩, ⟨_, rfl, cv0⟩, ⟨_, rfl, cv0⟩, ⟨_, rfl, cv0⟩, trivial⟩ ⟨cvo0, cvo0, cvo0, trivial⟩)⟩))
theorem f31_runs {p0 : Int} {p1 : List (Int × Int × Int × Int × Str)} {p2 : Int} {p3 : Int} {r : List Int × Int} (hr : f31 p0 p1 p2 p3 = some r) : RunsP Try.prog 31 [.int .i64 p0, .sl Y1 p1, .int .i64 p2, .int .i64 p3] [.sl (.int .i64) r.1, .int .i64 r.2] := by
  refine runs_w Try.func31 Try.ntmps31 rfl (rs := [.tmp 8, .tmp 9]) rfl rfl fun w0 X hX => ?_
  refine awc_seq ?_
  refine awc_region ?_
  refine awl_v (av_assign rfl) ?_
  refine awl_v (av_assign rfl) ?_
  refine awl_nil (athen_norm (awc_seq (awc_seq ?_)))
  refine awc_region ?_
  refine awl_v (av_move rfl) ?_
  refine awl_v (av_move rfl) ?_
  refine awl_v (av_move rfl) ?_
  refine awl_v (av_move rfl) ?_
  refine awl_v (av_buildSlice (t := (.int .i64)) (qs := [(0, [.int .i64 p2]), (1, [.int .i64 p3])]) (ys := [p2, p3]) bs22 rfl rfl rfl rfl rfl rfl rfl rfl) ?_
  obtain ⟨x1, e2, hr⟩ := bnd_some hr
  refine awl_v (av_call (f53_runs e2) ent53 rfl rfl) ?_
  refine awl_v (av_assign rfl) ?_
  refine awl_nil (athen_norm (awc_seq ?_))
  refine awc_region ?_
  refine awl_v (av_move rfl) ?_
  refine awl_v (av_neq rfl rfl) ?_
  refine awl_nil (athen_norm ?_)
  refine awc_cond (b := !decide (x1 = 0)) rfl (fun hc3 => ?_) (fun hc3 => ?_)
  · have hr := if_t hc3 hr
    refine awc_seq ?_
    refine awc_region ?_
    refine awl_v (av_move rfl) ?_
    refine awl_v (av_assign rfl) ?_
    refine awl_v (av_assign rfl) ?_
    have hr := Option.some.inj hr
    subst hr
    exact awl_nil (athen_norm (awc_ret (athen_ret (ret_q (l' := [(8, .sl (.int .i64) ([] : List Int)), (9, .int .i64 x1)]) (wk_of hX [] 4 rfl rfl ⟨⟨_, rfl, cv2⟩, ⟨_, rfl, cv0⟩, trivial⟩ trivial) rfl ⟨rfl, rfl, trivial⟩))))
  · have hr := if_f hc3 hr
    refine awc_skip (athen_norm (awc_seq ?_))
    refine awc_region ?_
    refine awl_v (av_move rfl) ?_
    refine awl_v (av_len_sl (t := Y1) rfl rfl und30 rfl) ?_
    obtain ⟨h4, hr⟩ := chk_some hr
    refine awl_op (aop_make (t := (.int .i64)) und22 zt3 rfl rfl h4 rfl ?_)
    refine awl_v (av_assign rfl) ?_
    refine awl_nil (athen_norm (awc_seq (awc_seq ?_)))
    refine awc_region ?_
    refine awl_v (av_move rfl) ?_
    refine awl_v (av_len_sl (t := Y1) rfl rfl und30 rfl) ?_
    refine awl_v (av_sub rfl rfl) ?_
    refine awl_v (av_assign rfl) ?_
    refine awl_nil (athen_norm (awc_block ?_))
    obtain ⟨s10, e12, hr⟩ := bnd_some hr
    refine awc_loop (S := Int × List Int) (R := List Int) (fun p => match p with | (s5, s6) => (⟨[(1, .sl Y1 p1), (2, .int .i64 p2), (3, .int .i64 p3), (8, .nils), (9, .int .i64 0), (11, .osl 0), (12, .int .i64 s5)], [(0, .sl 3 (.int .i64) s6)], 1⟩ : AS)) (f31_b0 p1 p3) (fun r e st => match r with | s10 => e = .exit 0 ∧ Wk X st ⟨[(1, .sl Y1 p1), (2, .int .i64 p2), (3, .int .i64 p3), (8, .nils), (9, .int .i64 0), (11, .osl 0)], [(0, .sl 3 (.int .i64) s10)], 1⟩) e12 (wk_of hX [0] 4 rfl rfl ⟨⟨_, rfl, cv0⟩, ⟨_, rfl, cv0⟩, ⟨_, rfl, cv0⟩, ⟨_, rfl, cv0⟩, ⟨_, rfl, cv0⟩, ⟨_, rfl, cv0⟩, ⟨_, rfl, cv0⟩, trivial⟩ ⟨cvo0, trivial⟩) ?_ ?_
    · intro e st hx
      obtain ⟨rfl, hw⟩ := hx
      refine ablock_here (athen_norm ((awc_wk hw) (awc_seq (awc_seq ?_))))
      refine awc_region ?_
      refine awl_v (av_move rfl) ?_
      refine awl_v (av_move rfl) ?_
      obtain ⟨x13, e14, hr⟩ := bnd_some hr
      refine awl_v (av_ia_osl (t := (.int .i64)) und22 sz3 rfl rfl rfl e14) ?_
      refine awl_v (av_load_ep ts3 rfl rfl rfl (ix_at e14) rfl) ?_
      refine awl_v (av_lss rfl rfl) ?_
      refine awl_nil (athen_norm ?_)
      refine awc_cond (b := decide (x13 < 0)) rfl (fun hc15 => ?_) (fun hc15 => ?_)
      · have hr := if_t hc15 hr
        refine awc_seq ?_
        refine awc_region ?_
        refine awl_v (av_assign rfl) ?_
        refine awl_v (av_assign rfl) ?_
        have hr := Option.some.inj hr
        subst hr
        exact awl_nil (athen_norm (awc_ret (athen_ret (ret_q (l' := [(8, .sl (.int .i64) ([] : List Int)), (9, .int .i64 8)]) (wk_of hX [] 4 rfl rfl ⟨⟨_, rfl, cv2⟩, ⟨_, rfl, cv0⟩, trivial⟩ trivial) rfl ⟨rfl, rfl, trivial⟩))))
      · have hr := if_f hc15 hr
        refine awc_skip (athen_norm (awc_seq ?_))
        refine awc_region ?_
        refine awl_v (av_move rfl) ?_
        refine awl_op (aop_buildSlice (t := (.int .i64)) (qs := [(0, [.int .i64 p2])]) (ys := [p2]) bs22 rfl rfl rfl rfl rfl rfl rfl rfl ?_)
        refine awl_v (av_assign rfl) ?_
        refine awl_nil (athen_norm (awc_seq (awc_seq ?_)))
        refine awc_region ?_
        refine awl_v (av_move rfl) ?_
        refine awl_v (av_assign rfl) ?_
        refine awl_nil (athen_norm (awc_block ?_))
        obtain ⟨s21, e23, hr⟩ := bnd_some hr
        refine awc_loop (S := Int × List Int) (R := List Int) (fun p => match p with | (s16, s17) => (⟨[(1, .sl Y1 p1), (3, .int .i64 p3), (8, .nils), (9, .int .i64 0), (11, .osl 0), (14, .osl 1), (15, .int .i64 s16)], [(0, .sl 3 (.int .i64) s10), (1, .sl 3 (.int .i64) s17)], 2⟩ : AS)) (f31_b1 p1 p3 s10) (fun r e st => match r with | s21 => e = .exit 4 ∧ Wk X st ⟨[(8, .nils), (9, .int .i64 0), (14, .osl 0)], [(0, .sl 3 (.int .i64) s21)], 1⟩) e23 (wk_of hX [0, 1] 4 rfl rfl ⟨⟨_, rfl, cv0⟩, ⟨_, rfl, cv0⟩, ⟨_, rfl, cv0⟩, ⟨_, rfl, cv0⟩, ⟨_, rfl, cv0⟩, ⟨_, rfl, cv0⟩, ⟨_, rfl, cv0⟩, trivial⟩ ⟨cvo0, cvo0, trivial⟩) ?_ ?_
        · intro e st hx
          obtain ⟨rfl, hw⟩ := hx
          refine ablock_here (athen_norm ((awc_wk hw) (awc_seq ?_)))
          refine awc_region ?_
          refine awl_v (av_move rfl) ?_
          refine awl_v (av_assign rfl) ?_
          refine awl_v (av_assign rfl) ?_
          have hr := Option.some.inj hr
          subst hr
          exact awl_nil (athen_norm (awc_ret (ret_q (l' := [(8, .sl (.int .i64) s21), (9, .int .i64 0)]) (wk_of hX [] 4 rfl rfl ⟨⟨_, rfl, cv0⟩, ⟨_, rfl, cv0⟩, trivial⟩ trivial) rfl ⟨rfl, rfl, trivial⟩)))
        · rintro ⟨s16, s17⟩ o hr
          refine awc_seq (awc_seq ?_)
          refine awc_region ?_
          refine awl_v (av_move rfl) ?_
          refine awl_v (av_move rfl) ?_
          refine awl_v (av_neq rfl rfl) ?_
          refine awl_nil (athen_norm ?_)
          refine awc_cond (b := !decide (s16 = p3)) rfl (fun hc24 => ?_) (fun hc24 => ?_)
          · have hr := if_t hc24 hr
            refine awc_skip (athen_norm (awc_block (awc_seq (awc_seq ?_))))
            refine awc_region ?_
            refine awl_v (av_move rfl) ?_
            refine awl_v (av_len_sl (t := Y1) rfl rfl und30 rfl) ?_
            refine awl_v (av_move rfl) ?_
            refine awl_nil (athen_norm (awc_block ?_))
            obtain ⟨o28, e29, hr⟩ := bnd_some hr
            refine awc_len (t := 1) rfl (fun hl => ?_)
            refine awc_range (S := Unit) (R := Int) (List.length p1 : Int) (f31_b2 p1 s10 s16) (fun p => match p with | (i25, ()) => (⟨[(1, .sl Y1 p1), (3, .int .i64 p3), (8, .nils), (9, .int .i64 0), (11, .osl 0), (14, .osl 1), (15, .int .i64 s16), (108, .int .i64 (List.length p1 : Int)), (109, .int .i64 i25)], [(0, .sl 3 (.int .i64) s10), (1, .sl 3 (.int .i64) s17)], 2⟩ : AS)) (fun o e st => match o with | .inl () => e = .exit 6 ∧ Wk X st ⟨[(1, .sl Y1 p1), (3, .int .i64 p3), (8, .nils), (9, .int .i64 0), (11, .osl 0), (14, .osl 1), (15, .int .i64 s16)], [(0, .sl 3 (.int .i64) s10), (1, .sl 3 (.int .i64) s17)], 2⟩ | .inr s27 => e = .exit 6 ∧ Wk X st ⟨[(1, .sl Y1 p1), (3, .int .i64 p3), (8, .nils), (9, .int .i64 0), (11, .osl 0), (14, .osl 1), (15, .int .i64 s27)], [(0, .sl 3 (.int .i64) s10), (1, .sl 3 (.int .i64) s17)], 2⟩) (len_ok hl) e29 (wk_of hX [0, 1] 4 rfl rfl ⟨⟨_, rfl, cv0⟩, ⟨_, rfl, cv0⟩, ⟨_, rfl, cv0⟩, ⟨_, rfl, cv0⟩, ⟨_, rfl, cv0⟩, ⟨_, rfl, cv0⟩, ⟨_, rfl, cv0⟩, ⟨_, rfl, cv0⟩, ⟨_, rfl, cv0⟩, trivial⟩ ⟨cvo0, cvo0, trivial⟩) ?_ ?_
            · intro e st hx
              rcases o28 with _ | s27
              · obtain ⟨rfl, hw⟩ := hx
                refine ablock_here (athen_norm ((awc_wk hw) ?_))
                refine awc_region ?_
                refine awl_v (av_move rfl) ?_
                refine awl_v (av_move rfl) ?_
                refine awl_v (av_buildSlice (t := (.int .i64)) (qs := [(0, [.int .i64 s16])]) (ys := [s16]) bs22 rfl rfl rfl rfl rfl rfl rfl rfl) ?_
                obtain ⟨h30, hr⟩ := chk_some hr
                refine awl_op (aop_append rfl rfl app22 rfl rfl rfl h30 rfl ?_)
                refine awl_v (av_assign rfl) ?_
                have hr := Option.some.inj hr
                subst hr
                exact awl_nil (ablock_norm ((wk_of hX [0, 2] 4 rfl rfl ⟨⟨_, rfl, cv0⟩, ⟨_, rfl, cv0⟩, ⟨_, rfl, cv0⟩, ⟨_, rfl, cv0⟩, ⟨_, rfl, cv0⟩, ⟨_, rfl, cv0⟩, ⟨_, rfl, cv0⟩, trivial⟩ ⟨cvo0, cvo0, trivial⟩)))
              · obtain ⟨rfl, hw⟩ := hx
                refine ablock_here (athen_norm ((awc_wk hw) ?_))
                refine awc_region ?_
                refine awl_v (av_move rfl) ?_
                refine awl_v (av_move rfl) ?_
                refine awl_v (av_buildSlice (t := (.int .i64)) (qs := [(0, [.int .i64 s27])]) (ys := [s27]) bs22 rfl rfl rfl rfl rfl rfl rfl rfl) ?_
                obtain ⟨h31, hr⟩ := chk_some hr
                refine awl_op (aop_append rfl rfl app22 rfl rfl rfl h31 rfl ?_)
                refine awl_v (av_assign rfl) ?_
                have hr := Option.some.inj hr
                subst hr
                exact awl_nil (ablock_norm ((wk_of hX [0, 2] 4 rfl rfl ⟨⟨_, rfl, cv0⟩, ⟨_, rfl, cv0⟩, ⟨_, rfl, cv0⟩, ⟨_, rfl, cv0⟩, ⟨_, rfl, cv0⟩, ⟨_, rfl, cv0⟩, ⟨_, rfl, cv0⟩, trivial⟩ ⟨cvo0, cvo0, trivial⟩)))
            · rintro i25 _ o ho
              refine awc_seq ?_
              refine awc_region ?_
              refine awl_v (av_lss rfl rfl) ?_
              refine awl_nil (athen_norm (awc_seq ?_))
              refine awc_cond (b := decide (i25 < (List.length p1 : Int))) rfl (fun hc32 => ?_) (fun hc32 => ?_)
              · obtain ⟨q, hr, rfl⟩ := rb_t hc32 ho
                refine awc_skip (athen_norm (awc_seq (awc_block (awc_seq ?_))))
                refine awc_region ?_
                refine awl_v (av_move rfl) ?_
                refine awl_v (av_assign rfl) ?_
                refine awl_nil (athen_norm (awc_seq ?_))
                obtain ⟨x33, e34, hr⟩ := bnd_some hr
                obtain ⟨x35, e36, hr⟩ := bnd_some hr
                obtain ⟨h37, hr⟩ := chk_some hr
                refine awc_draw mixed [1, 3, 8, 9, 11, 14, 15, 108, 109, 16] [(true, .osl 0), (true, .int .i64 i25), (true, .ep 0 1 (Int.toNat i25) 0), (true, .int .i64 x33), (true, .osl 0), (true, .int .i64 s16), (true, .ep 0 1 (Int.toNat s16) 0), (true, .int .i64 x35), (true, .int .i64 (w64 (x35 - 1))), (true, .bool (decide (x33 = (w64 (x35 - 1))))), (true, .bool (decide (x33 = (w64 (x35 - 1))))), (decide (x33 = (w64 (x35 - 1))), .sl Y1 p1), (decide (x33 = (w64 (x35 - 1))), .int .i64 s16), (decide (x33 = (w64 (x35 - 1))), .int .i64 i25), (decide (x33 = (w64 (x35 - 1))), .bool ((f56 p1 s16 i25).getD default)), (true, .bool ((decide (x33 = (w64 (x35 - 1)))) && ((f56 p1 s16 i25).getD default)))] [[], [], [0, 1], [2], [], [], [4, 5], [6], [7], [3, 8], [9], [10], [10], [10], [11, 12, 13, 10], [14, 10]] [15] rfl rfl rfl rfl rfl ⟨?_, ?_, ?_, ?_, ?_, ?_, ?_, ?_, ?_, ?_, ?_, ?_, ?_, ?_, ?_, ?_, trivial⟩ (allT_of ⟨rfl, trivial⟩) ?_
                · exact ob_v rfl (fun hg => allT_of trivial) (fun hg => av_move rfl)
                · exact ob_v rfl (fun hg => allT_of trivial) (fun hg => av_move rfl)
                · exact ob_v rfl (fun hg => allT_of ⟨rfl, rfl, trivial⟩) (fun hg => av_ia_osl (t := (.int .i64)) und22 sz3 rfl rfl rfl e34)
                · exact ob_v rfl (fun hg => allT_of ⟨rfl, trivial⟩) (fun hg => av_load_ep ts3 rfl rfl rfl (ix_at e34) rfl)
                · exact ob_v rfl (fun hg => allT_of trivial) (fun hg => av_move rfl)
                · exact ob_v rfl (fun hg => allT_of trivial) (fun hg => av_move rfl)
                · exact ob_v rfl (fun hg => allT_of ⟨rfl, rfl, trivial⟩) (fun hg => av_ia_osl (t := (.int .i64)) und22 sz3 rfl rfl rfl e36)
                · exact ob_v rfl (fun hg => allT_of ⟨rfl, trivial⟩) (fun hg => av_load_ep ts3 rfl rfl rfl (ix_at e36) rfl)
                · exact ob_v rfl (fun hg => allT_of ⟨rfl, trivial⟩) (fun hg => av_sub rfl rfl)
                · exact ob_v rfl (fun hg => allT_of ⟨rfl, rfl, trivial⟩) (fun hg => av_eql rfl rfl)
                · exact ob_v rfl (fun hg => allT_of ⟨rfl, trivial⟩) (fun hg => av_move rfl)
                · exact ob_v ⟨rfl, rfl, rfl, _, rfl, rfl⟩ (fun hg => allT_of ⟨rfl, trivial⟩) (fun hg => av_move rfl)
                · exact ob_v ⟨rfl, rfl, rfl, _, rfl, rfl⟩ (fun hg => allT_of ⟨rfl, trivial⟩) (fun hg => av_move rfl)
                · exact ob_v ⟨rfl, rfl, rfl, _, rfl, rfl⟩ (fun hg => allT_of ⟨rfl, trivial⟩) (fun hg => av_move rfl)
                · exact ob_v ⟨rfl, rfl, rfl, _, rfl, rfl⟩ (fun hg => allT_of ⟨hg, hg, hg, rfl, trivial⟩) (fun hg => av_call (f56_runs (get_g h37 hg)) ent56 rfl rfl)
                · exact ob_pick (b := true) (p := decide (x33 = (w64 (x35 - 1)))) (q := ((f56 p1 s16 i25).getD default)) rfl rfl rfl (fun hg => allT_of ⟨rfl, trivial⟩) rfl rfl rfl rfl rfl
                refine athen_norm ?_
                refine awc_cond (b := (decide (x33 = (w64 (x35 - 1)))) && ((f56 p1 s16 i25).getD default)) rfl (fun hc38 => ?_) (fun hc38 => ?_)
                · have hr := if_t hc38 hr
                  refine awc_seq ?_
                  refine awc_region ?_
                  refine awl_v (av_move rfl) ?_
                  refine awl_v (av_assign rfl) ?_
                  have hr := Option.some.inj hr
                  subst hr
                  exact awl_nil (athen_norm (awc_exit ((ablock_far rfl) (athen_exit (⟨rfl, (wk_of hX [0, 1] 4 rfl rfl ⟨⟨_, rfl, cv0⟩, ⟨_, rfl, cv0⟩, ⟨_, rfl, cv0⟩, ⟨_, rfl, cv0⟩, ⟨_, rfl, cv0⟩, ⟨_, rfl, cv0⟩, ⟨_, rfl, cv0⟩, trivial⟩ ⟨cvo0, cvo0, trivial⟩)⟩)))))
                · have hr := if_f hc38 hr
                  refine awc_skip (ablock_norm (athen_norm ?_))
                  refine awc_region ?_
                  refine awl_v (av_add rfl rfl) ?_
                  refine awl_v (av_move rfl) ?_
                  have hr := Option.some.inj hr
                  subst hr
                  exact awl_nil ((wk_of hX [0, 1] 4 rfl rfl ⟨⟨_, rfl, cv0⟩, ⟨_, rfl, cv0⟩, ⟨_, rfl, cv0⟩, ⟨_, rfl, cv0⟩, ⟨_, rfl, cv0⟩, ⟨_, rfl, cv0⟩, ⟨_, rfl, cv0⟩, ⟨_, rfl, cv0⟩, ⟨_, rfl, cv0⟩, trivial⟩ ⟨cvo0, cvo0, trivial⟩))
              · obtain rfl := rb_f hc32 ho
                exact awc_exit (athen_exit (⟨rfl, (wk_of hX [0, 1] 4 rfl rfl ⟨⟨_, rfl, cv0⟩, ⟨_, rfl, cv0⟩, ⟨_, rfl, cv0⟩, ⟨_, rfl, cv0⟩, ⟨_, rfl, cv0⟩, ⟨_, rfl, cv0⟩, ⟨_, rfl, cv0⟩, trivial⟩ ⟨cvo0, cvo0, trivial⟩)⟩))
          · have hr := if_f hc24 hr
            have hr := Option.some.inj hr
            subst hr
            exact awc_exit (athen_exit (⟨rfl, (wk_of hX [1] 4 rfl rfl ⟨⟨_, rfl, cv0⟩, ⟨_, rfl, cv0⟩, ⟨_, rfl, cv0⟩, trivial⟩ ⟨cvo0, trivial⟩)⟩))
    · rintro ⟨s5, s6⟩ o hr
      refine awc_seq (awc_seq ?_)
      refine awc_region ?_
      refine awl_v (av_move rfl) ?_
      refine awl_v (av_geq rfl rfl) ?_
      refine awl_nil (athen_norm ?_)
      refine awc_cond (b := decide (0 ≤ s5)) rfl (fun hc39 => ?_) (fun hc39 => ?_)
      · have hr := if_t hc39 hr
        refine awc_skip (athen_norm (awc_seq (awc_block (awc_seq ?_))))
        refine awc_region ?_
        refine awl_v (av_move rfl) ?_
        refine awl_v (av_move rfl) ?_
        obtain ⟨x40, e41, hr⟩ := bnd_some hr
        refine awl_v (av_ia_osl (t := (.int .i64)) und22 sz3 rfl rfl rfl e41) ?_
        refine awl_op (aop_store_ep (e' := (-1)) sz3 rfl rfl rfl rfl (ix_at e41) rfl rfl rfl rfl rfl ?_)
        refine awl_nil (athen_norm ?_)
        obtain ⟨o43, e44, hr⟩ := bnd_some hr
        refine awc_join (S := List Int) (R := Unit) (fun s => match s with | s42 => (⟨[(1, .sl Y1 p1), (2, .int .i64 p2), (3, .int .i64 p3), (8, .nils), (9, .int .i64 0), (11, .osl 0), (12, .int .i64 s5)], [(0, .sl 3 (.int .i64) s42)], 1⟩ : AS)) (fun _ _ _ => False) e44 (fun hr => ?_) ?_ ?_
        · refine awc_seq ?_
          refine awc_region ?_
          refine awl_v (av_move rfl) ?_
          refine awl_v (av_move rfl) ?_
          refine awl_v (av_eql rfl rfl) ?_
          refine awl_nil (athen_norm ?_)
          refine awc_cond (b := decide (s5 = p3)) rfl (fun hc45 => ?_) (fun hc45 => ?_)
          · have hr := if_t hc45 hr
            refine awc_region ?_
            refine awl_v (av_move rfl) ?_
            refine awl_v (av_move rfl) ?_
            obtain ⟨x46, e47, hr⟩ := bnd_some hr
            refine awl_v (av_ia_osl (t := (.int .i64)) und22 sz3 rfl rfl rfl e47) ?_
            refine awl_op (aop_store_ep (e' := 0) sz3 rfl rfl rfl rfl (ix_at e47) rfl rfl rfl rfl rfl ?_)
            have hr := Option.some.inj hr
            subst hr
            exact awl_nil ((wk_of hX [0] 4 rfl rfl ⟨⟨_, rfl, cv0⟩, ⟨_, rfl, cv0⟩, ⟨_, rfl, cv0⟩, ⟨_, rfl, cv0⟩, ⟨_, rfl, cv0⟩, ⟨_, rfl, cv0⟩, ⟨_, rfl, cv0⟩, trivial⟩ ⟨cvo0, trivial⟩))
          · have hr := if_f hc45 hr
            have hr := Option.some.inj hr
            subst hr
            exact awc_skip ((wk_of hX [0] 4 rfl rfl ⟨⟨_, rfl, cv0⟩, ⟨_, rfl, cv0⟩, ⟨_, rfl, cv0⟩, ⟨_, rfl, cv0⟩, ⟨_, rfl, cv0⟩, ⟨_, rfl, cv0⟩, ⟨_, rfl, cv0⟩, trivial⟩ ⟨cvo0, trivial⟩))
        · rintro s42 rfl
          refine awc_seq ?_
          refine awc_region ?_
          refine awl_v (av_move rfl) ?_
          refine awl_v (av_add rfl rfl) ?_
          refine awl_v (av_assign rfl) ?_
          refine awl_nil (athen_norm (awc_block ?_))
          obtain ⟨s53, e55, hr⟩ := bnd_some hr
          refine awc_loop (S := Int × List Int) (R := List Int) (fun p => match p with | (s48, s49) => (⟨[(1, .sl Y1 p1), (2, .int .i64 p2), (3, .int .i64 p3), (8, .nils), (9, .int .i64 0), (11, .osl 0), (12, .int .i64 s5), (13, .int .i64 s48)], [(0, .sl 3 (.int .i64) s49)], 1⟩ : AS)) (f31_b3 p1 p3 s5) (fun r e st => match r with | s53 => e = .exit 2 ∧ Wk X st ⟨[(1, .sl Y1 p1), (2, .int .i64 p2), (3, .int .i64 p3), (8, .nils), (9, .int .i64 0), (11, .osl 0), (12, .int .i64 s5)], [(0, .sl 3 (.int .i64) s53)], 1⟩) e55 (wk_of hX [0] 4 rfl rfl ⟨⟨_, rfl, cv0⟩, ⟨_, rfl, cv0⟩, ⟨_, rfl, cv0⟩, ⟨_, rfl, cv0⟩, ⟨_, rfl, cv0⟩, ⟨_, rfl, cv0⟩, ⟨_, rfl, cv0⟩, ⟨_, rfl, cv0⟩, trivial⟩ ⟨cvo0, trivial⟩) ?_ ?_
          · intro e st hx
            obtain ⟨rfl, hw⟩ := hx
            refine ablock_here (ablock_norm (athen_norm ((awc_wk hw) ?_)))
            refine awc_region ?_
            refine awl_v (av_move rfl) ?_
            refine awl_v (av_sub rfl rfl) ?_
            refine awl_v (av_assign rfl) ?_
            have hr := Option.some.inj hr
            subst hr
            exact awl_nil ((wk_of hX [0] 4 rfl rfl ⟨⟨_, rfl, cv0⟩, ⟨_, rfl, cv0⟩, ⟨_, rfl, cv0⟩, ⟨_, rfl, cv0⟩, ⟨_, rfl, cv0⟩, ⟨_, rfl, cv0⟩, ⟨_, rfl, cv0⟩, trivial⟩ ⟨cvo0, trivial⟩))
          · rintro ⟨s48, s49⟩ o hr
            refine awc_seq (awc_seq ?_)
            refine awc_region ?_
            refine awl_v (av_move rfl) ?_
            refine awl_v (av_move rfl) ?_
            refine awl_v (av_len_sl (t := Y1) rfl rfl und30 rfl) ?_
            refine awl_v (av_lss rfl rfl) ?_
            refine awl_nil (athen_norm ?_)
            refine awc_cond (b := decide (s48 < (List.length p1 : Int))) rfl (fun hc56 => ?_) (fun hc56 => ?_)
            · have hr := if_t hc56 hr
              refine awc_skip (athen_norm ?_)
              obtain ⟨o58, e59, hr⟩ := bnd_some hr
              refine awc_join (S := List Int) (R := Unit) (fun s => match s with | s57 => (⟨[(1, .sl Y1 p1), (2, .int .i64 p2), (3, .int .i64 p3), (8, .nils), (9, .int .i64 0), (11, .osl 0), (12, .int .i64 s5), (13, .int .i64 s48)], [(0, .sl 3 (.int .i64) s57)], 1⟩ : AS)) (fun _ _ _ => False) e59 (fun hr => ?_) ?_ ?_
              · refine awc_block (awc_seq ?_)
                obtain ⟨x60, e61, hr⟩ := bnd_some hr
                obtain ⟨h62, hr⟩ := chk_some hr
                obtain ⟨h63, hr⟩ := chk_some hr
                obtain ⟨h64, hr⟩ := chk_some hr
                obtain ⟨h65, hr⟩ := chk_some hr
                refine awc_draw mixed [1, 2, 3, 8, 9, 11, 12, 13] [(true, .osl 0), (true, .int .i64 s48), (true, .ep 0 1 (Int.toNat s48) 0), (true, .int .i64 x60), (true, .bool (decide (0 ≤ x60))), (true, .bool (decide (0 ≤ x60))), (decide (0 ≤ x60), .sl Y1 p1), (decide (0 ≤ x60), .int .i64 s5), (decide (0 ≤ x60), .int .i64 s48), (decide (0 ≤ x60), .bool ((f56 p1 s5 s48).getD default)), (true, .bool ((decide (0 ≤ x60)) && ((f56 p1 s5 s48).getD default))), (true, .bool ((decide (0 ≤ x60)) && ((f56 p1 s5 s48).getD default))), ((decide (0 ≤ x60)) && ((f56 p1 s5 s48).getD default), .int .i64 s5), ((decide (0 ≤ x60)) && ((f56 p1 s5 s48).getD default), .int .i64 p3), ((decide (0 ≤ x60)) && ((f56 p1 s5 s48).getD default), .bool (!decide (s5 = p3))), (true, .bool (((decide (0 ≤ x60)) && ((f56 p1 s5 s48).getD default)) && (!decide (s5 = p3)))), (true, .bool (((decide (0 ≤ x60)) && ((f56 p1 s5 s48).getD default)) && (!decide (s5 = p3)))), (((decide (0 ≤ x60)) && ((f56 p1 s5 s48).getD default)) && (!decide (s5 = p3)), .osl 0), (((decide (0 ≤ x60)) && ((f56 p1 s5 s48).getD default)) && (!decide (s5 = p3)), .int .i64 s5), (((decide (0 ≤ x60)) && ((f56 p1 s5 s48).getD default)) && (!decide (s5 = p3)), .ep 0 1 (Int.toNat s5) 0), (((decide (0 ≤ x60)) && ((f56 p1 s5 s48).getD default)) && (!decide (s5 = p3)), .int .i64 ((ix s49 s5).getD default)), (((decide (0 ≤ x60)) && ((f56 p1 s5 s48).getD default)) && (!decide (s5 = p3)), .bool (decide (((ix s49 s5).getD default) < 0))), (((decide (0 ≤ x60)) && ((f56 p1 s5 s48).getD default)) && (!decide (s5 = p3)), .bool (decide (((ix s49 s5).getD default) < 0))), ((((decide (0 ≤ x60)) && ((f56 p1 s5 s48).getD default)) && (!decide (s5 = p3))) && (!(decide (((ix s49 s5).getD default) < 0))), .osl 0), ((((decide (0 ≤ x60)) && ((f56 p1 s5 s48).getD default)) && (!decide (s5 = p3))) && (!(decide (((ix s49 s5).getD default) < 0))), .int .i64 s48), ((((decide (0 ≤ x60)) && ((f56 p1 s5 s48).getD default)) && (!decide (s5 = p3))) && (!(decide (((ix s49 s5).getD default) < 0))), .ep 0 1 (Int.toNat s48) 0), ((((decide (0 ≤ x60)) && ((f56 p1 s5 s48).getD default)) && (!decide (s5 = p3))) && (!(decide (((ix s49 s5).getD default) < 0))), .int .i64 ((ix s49 s48).getD default)), ((((decide (0 ≤ x60)) && ((f56 p1 s5 s48).getD default)) && (!decide (s5 = p3))) && (!(decide (((ix s49 s5).getD default) < 0))), .int .i64 (w64 (((ix s49 s48).getD default) + 1))), ((((decide (0 ≤ x60)) && ((f56 p1 s5 s48).getD default)) && (!decide (s5 = p3))) && (!(decide (((ix s49 s5).getD default) < 0))), .osl 0), ((((decide (0 ≤ x60)) && ((f56 p1 s5 s48).getD default)) && (!decide (s5 = p3))) && (!(decide (((ix s49 s5).getD default) < 0))), .int .i64 s5), ((((decide (0 ≤ x60)) && ((f56 p1 s5 s48).getD default)) && (!decide (s5 = p3))) && (!(decide (((ix s49 s5).getD default) < 0))), .ep 0 1 (Int.toNat s5) 0), ((((decide (0 ≤ x60)) && ((f56 p1 s5 s48).getD default)) && (!decide (s5 = p3))) && (!(decide (((ix s49 s5).getD default) < 0))), .int .i64 ((ix s49 s5).getD default)), ((((decide (0 ≤ x60)) && ((f56 p1 s5 s48).getD default)) && (!decide (s5 = p3))) && (!(decide (((ix s49 s5).getD default) < 0))), .bool (decide ((w64 (((ix s49 s48).getD default) + 1)) < ((ix s49 s5).getD default)))), (((decide (0 ≤ x60)) && ((f56 p1 s5 s48).getD default)) && (!decide (s5 = p3)), .bool ((decide (((ix s49 s5).getD default) < 0)) || (decide ((w64 (((ix s49 s48).getD default) + 1)) < ((ix s49 s5).getD default))))), (true, .bool ((((decide (0 ≤ x60)) && ((f56 p1 s5 s48).getD default)) && (!decide (s5 = p3))) && ((decide (((ix s49 s5).getD default) < 0)) || (decide ((w64 (((ix s49 s48).getD default) + 1)) < ((ix s49 s5).getD default))))))] [[], [], [0, 1], [2], [3], [4], [5], [5], [5], [6, 7, 8, 5], [9, 5], [10], [11], [11], [12, 13, 11], [14, 11], [15], [16], [16], [17, 18, 16], [19, 16], [20, 16], [21, 16], [22], [22], [23, 24, 22], [25, 22], [26, 22], [22], [22], [28, 29, 22], [30, 22], [27, 31, 22], [32, 22, 16], [33, 16]] [34] rfl rfl rfl rfl rfl ⟨?_, ?_, ?_, ?_, ?_, ?_, ?_, ?_, ?_, ?_, ?_, ?_, ?_, ?_, ?_, ?_, ?_, ?_, ?_, ?_, ?_, ?_, ?_, ?_, ?_, ?_, ?_, ?_, ?_, ?_, ?_, ?_, ?_, ?_, ?_, trivial⟩ (allT_of ⟨rfl, trivial⟩) ?_
                · exact ob_v rfl (fun hg => allT_of trivial) (fun hg => av_move rfl)
                · exact ob_v rfl (fun hg => allT_of trivial) (fun hg => av_move rfl)
                · exact ob_v rfl (fun hg => allT_of ⟨rfl, rfl, trivial⟩) (fun hg => av_ia_osl (t := (.int .i64)) und22 sz3 rfl rfl rfl e61)
                · exact ob_v rfl (fun hg => allT_of ⟨rfl, trivial⟩) (fun hg => av_load_ep ts3 rfl rfl rfl (ix_at e61) rfl)
                · exact ob_v rfl (fun hg => allT_of ⟨rfl, trivial⟩) (fun hg => av_geq rfl rfl)
                · exact ob_v rfl (fun hg => allT_of ⟨rfl, trivial⟩) (fun hg => av_move rfl)
                · exact ob_v ⟨rfl, rfl, rfl, _, rfl, rfl⟩ (fun hg => allT_of ⟨rfl, trivial⟩) (fun hg => av_move rfl)
                · exact ob_v ⟨rfl, rfl, rfl, _, rfl, rfl⟩ (fun hg => allT_of ⟨rfl, trivial⟩) (fun hg => av_move rfl)
                · exact ob_v ⟨rfl, rfl, rfl, _, rfl, rfl⟩ (fun hg => allT_of ⟨rfl, trivial⟩) (fun hg => av_move rfl)
                · exact ob_v ⟨rfl, rfl, rfl, _, rfl, rfl⟩ (fun hg => allT_of ⟨hg, hg, hg, rfl, trivial⟩) (fun hg => av_call (f56_runs (get_g h62 hg)) ent56 rfl rfl)
                · exact ob_pick (b := true) (p := decide (0 ≤ x60)) (q := ((f56 p1 s5 s48).getD default)) rfl rfl rfl (fun hg => allT_of ⟨rfl, trivial⟩) rfl rfl rfl rfl rfl
                · exact ob_v rfl (fun hg => allT_of ⟨rfl, trivial⟩) (fun hg => av_move rfl)
                · exact ob_v ⟨rfl, rfl, rfl, _, rfl, rfl⟩ (fun hg => allT_of ⟨rfl, trivial⟩) (fun hg => av_move rfl)
                · exact ob_v ⟨rfl, rfl, rfl, _, rfl, rfl⟩ (fun hg => allT_of ⟨rfl, trivial⟩) (fun hg => av_move rfl)
                · exact ob_v ⟨rfl, rfl, rfl, _, rfl, rfl⟩ (fun hg => allT_of ⟨hg, hg, rfl, trivial⟩) (fun hg => av_neq rfl rfl)
                · exact ob_pick (b := true) (p := (decide (0 ≤ x60)) && ((f56 p1 s5 s48).getD default)) (q := !decide (s5 = p3)) rfl rfl rfl (fun hg => allT_of ⟨rfl, trivial⟩) rfl rfl rfl rfl rfl
                · exact ob_v rfl (fun hg => allT_of ⟨rfl, trivial⟩) (fun hg => av_move rfl)
                · exact ob_v ⟨rfl, rfl, rfl, _, rfl, rfl⟩ (fun hg => allT_of ⟨rfl, trivial⟩) (fun hg => av_move rfl)
                · exact ob_v ⟨rfl, rfl, rfl, _, rfl, rfl⟩ (fun hg => allT_of ⟨rfl, trivial⟩) (fun hg => av_move rfl)
                · exact ob_v ⟨rfl, rfl, rfl, _, rfl, rfl⟩ (fun hg => allT_of ⟨hg, hg, rfl, trivial⟩) (fun hg => av_ia_osl (t := (.int .i64)) und22 sz3 rfl rfl rfl (get_g h63 hg))
                · exact ob_v ⟨rfl, rfl, rfl, _, rfl, rfl⟩ (fun hg => allT_of ⟨hg, rfl, trivial⟩) (fun hg => av_load_ep ts3 rfl rfl rfl (ix_at (get_g h63 hg)) rfl)
                · exact ob_v ⟨rfl, rfl, rfl, _, rfl, rfl⟩ (fun hg => allT_of ⟨hg, rfl, trivial⟩) (fun hg => av_lss rfl rfl)
                · exact ob_v ⟨rfl, rfl, rfl, _, rfl, rfl⟩ (fun hg => allT_of ⟨hg, rfl, trivial⟩) (fun hg => av_move rfl)
                · exact ob_v ⟨rfl, rfl, rfl, _, rfl, rfl⟩ (fun hg => allT_of ⟨(and_l hg), trivial⟩) (fun hg => av_move rfl)
                · exact ob_v ⟨rfl, rfl, rfl, _, rfl, rfl⟩ (fun hg => allT_of ⟨(and_l hg), trivial⟩) (fun hg => av_move rfl)
                · exact ob_v ⟨rfl, rfl, rfl, _, rfl, rfl⟩ (fun hg => allT_of ⟨hg, hg, (and_l hg), trivial⟩) (fun hg => av_ia_osl (t := (.int .i64)) und22 sz3 rfl rfl rfl (get_g h64 hg))
                · exact ob_v ⟨rfl, rfl, rfl, _, rfl, rfl⟩ (fun hg => allT_of ⟨hg, (and_l hg), trivial⟩) (fun hg => av_load_ep ts3 rfl rfl rfl (ix_at (get_g h64 hg)) rfl)
                · exact ob_v ⟨rfl, rfl, rfl, _, rfl, rfl⟩ (fun hg => allT_of ⟨hg, (and_l hg), trivial⟩) (fun hg => av_add rfl rfl)
                · exact ob_v ⟨rfl, rfl, rfl, _, rfl, rfl⟩ (fun hg => allT_of ⟨(and_l hg), trivial⟩) (fun hg => av_move rfl)
                · exact ob_v ⟨rfl, rfl, rfl, _, rfl, rfl⟩ (fun hg => allT_of ⟨(and_l hg), trivial⟩) (fun hg => av_move rfl)
                · exact ob_v ⟨rfl, rfl, rfl, _, rfl, rfl⟩ (fun hg => allT_of ⟨hg, hg, (and_l hg), trivial⟩) (fun hg => av_ia_osl (t := (.int .i64)) und22 sz3 rfl rfl rfl (get_g h65 hg))
                · exact ob_v ⟨rfl, rfl, rfl, _, rfl, rfl⟩ (fun hg => allT_of ⟨hg, (and_l hg), trivial⟩) (fun hg => av_load_ep ts3 rfl rfl rfl (ix_at (get_g h65 hg)) rfl)
                · exact ob_v ⟨rfl, rfl, rfl, _, rfl, rfl⟩ (fun hg => allT_of ⟨hg, hg, (and_l hg), trivial⟩) (fun hg => av_lss rfl rfl)
                · exact ob_pick (b := false) (p := decide (((ix s49 s5).getD default) < 0)) (q := decide ((w64 (((ix s49 s48).getD default) + 1)) < ((ix s49 s5).getD default))) ⟨rfl, rfl, rfl, _, rfl, rfl⟩ rfl rfl (fun hg => allT_of ⟨hg, rfl, trivial⟩) rfl rfl rfl rfl rfl
                · exact ob_pick (b := true) (p := ((decide (0 ≤ x60)) && ((f56 p1 s5 s48).getD default)) && (!decide (s5 = p3))) (q := (decide (((ix s49 s5).getD default) < 0)) || (decide ((w64 (((ix s49 s48).getD default) + 1)) < ((ix s49 s5).getD default)))) rfl rfl rfl (fun hg => allT_of ⟨rfl, trivial⟩) rfl rfl rfl rfl rfl
                refine athen_norm ?_
                refine awc_cond (b := (((decide (0 ≤ x60)) && ((f56 p1 s5 s48).getD default)) && (!decide (s5 = p3))) && ((decide (((ix s49 s5).getD default) < 0)) || (decide ((w64 (((ix s49 s48).getD default) + 1)) < ((ix s49 s5).getD default))))) rfl (fun hc66 => ?_) (fun hc66 => ?_)
                · have hr := if_t hc66 hr
                  refine awc_region ?_
                  refine awl_v (av_move rfl) ?_
                  refine awl_v (av_move rfl) ?_
                  refine awl_v (av_move rfl) ?_
                  refine awl_v (av_move rfl) ?_
                  refine awl_v (av_ia_osl (t := (.int .i64)) und22 sz3 rfl rfl rfl e61) ?_
                  refine awl_v (av_load_ep ts3 rfl rfl rfl (ix_at e61) rfl) ?_
                  refine awl_v (av_add rfl rfl) ?_
                  obtain ⟨x67, e68, hr⟩ := bnd_some hr
                  refine awl_v (av_ia_osl (t := (.int .i64)) und22 sz3 rfl rfl rfl e68) ?_
                  refine awl_op (aop_store_ep (e' := (w64 (x60 + 1))) sz3 rfl rfl rfl rfl (ix_at e68) rfl rfl rfl rfl rfl ?_)
                  have hr := Option.some.inj hr
                  subst hr
                  exact awl_nil (ablock_norm ((wk_of hX [0] 4 rfl rfl ⟨⟨_, rfl, cv0⟩, ⟨_, rfl, cv0⟩, ⟨_, rfl, cv0⟩, ⟨_, rfl, cv0⟩, ⟨_, rfl, cv0⟩, ⟨_, rfl, cv0⟩, ⟨_, rfl, cv0⟩, ⟨_, rfl, cv0⟩, trivial⟩ ⟨cvo0, trivial⟩)))
                · have hr := if_f hc66 hr
                  have hr := Option.some.inj hr
                  subst hr
                  exact awc_skip (ablock_norm ((wk_of hX [0] 4 rfl rfl ⟨⟨_, rfl, cv0⟩, ⟨_, rfl, cv0⟩, ⟨_, rfl, cv0⟩, ⟨_, rfl, cv0⟩, ⟨_, rfl, cv0⟩, ⟨_, rfl, cv0⟩, ⟨_, rfl, cv0⟩, ⟨_, rfl, cv0⟩, trivial⟩ ⟨cvo0, trivial⟩)))
              · rintro s57 rfl
                refine awc_region ?_
                refine awl_v (av_move rfl) ?_
                refine awl_v (av_add rfl rfl) ?_
                refine awl_v (av_assign rfl) ?_
                have hr := Option.some.inj hr
                subst hr
                exact awl_nil ((wk_of hX [0] 4 rfl rfl ⟨⟨_, rfl, cv0⟩, ⟨_, rfl, cv0⟩, ⟨_, rfl, cv0⟩, ⟨_, rfl, cv0⟩, ⟨_, rfl, cv0⟩, ⟨_, rfl, cv0⟩, ⟨_, rfl, cv0⟩, ⟨_, rfl, cv0⟩, trivial⟩ ⟨cvo0, trivial⟩))
              · exact fun r h e st hne hx => hx.elim
            · have hr := if_f hc56 hr
              have hr := Option.some.inj hr
              subst hr
              exact awc_exit (athen_exit (⟨rfl, (wk_of hX [0] 4 rfl rfl ⟨⟨_, rfl, cv0⟩, ⟨_, rfl, cv0⟩, ⟨_, rfl, cv0⟩, ⟨_, rfl, cv0⟩, ⟨_, rfl, cv0⟩, ⟨_, rfl, cv0⟩, ⟨_, rfl, cv0⟩, trivial⟩ ⟨cvo0, trivial⟩)⟩))
        · exact fun r h e st hne hx => hx.elim
      · have hr := if_f hc39 hr
        have hr := Option.some.inj hr
        subst hr
        exact awc_exit (athen_exit (⟨rfl, (wk_of hX [0] 4 rfl rfl ⟨⟨_, rfl, cv0⟩, ⟨_, rfl, cv0⟩, ⟨_, rfl, cv0⟩, ⟨_, rfl, cv0⟩, ⟨_, rfl, cv0⟩, ⟨_, rfl, cv0⟩, trivial⟩ ⟨cvo0, trivial⟩)⟩))
theorem f5_runs {p0 : Int} {p1 : List (Int × Int × Int × Int × Str)} {p2 : Int} {p3 : Int} {r : Bool} (hr : f5 p0 p1 p2 p3 = some r) : RunsP Try.prog 5 [.int .i64 p0, .sl Y1 p1, .int .i64 p2, .int .i64 p3] [.bool r] := by
  refine runs_w Try.func5 Try.ntmps5 rfl (rs := [.tmp 8]) rfl rfl fun w0 X hX => ?_
  refine awc_seq ?_
  refine awc_region ?_
  refine awl_v (av_assign rfl) ?_
  refine awl_nil (athen_norm (awc_seq (awc_seq ?_)))
  refine awc_region ?_
  refine awl_v (av_move rfl) ?_
  obtain ⟨x1, e2, hr⟩ := bnd_some hr
  refine awl_v (av_call (f14_runs e2) ent14 rfl rfl) ?_
  refine awl_v (av_not rfl) ?_
  refine awl_nil (athen_norm ?_)
  refine awc_cond (b := !x1) rfl (fun hc3 => ?_) (fun hc3 => ?_)
  · have hr := if_t hc3 hr
    refine awc_seq ?_
    refine awc_region ?_
    obtain ⟨x4, e5, hr⟩ := bnd_some hr
    refine awl_v (av_call (f8_runs e5) ent8 rfl rfl) ?_
    refine awl_v (av_assign rfl) ?_
    have hr := Option.some.inj hr
    subst hr
    exact awl_nil (athen_norm (awc_ret (athen_ret (ret_q (l' := [(8, .bool x4)]) (wk_of hX [] 4 rfl rfl ⟨⟨_, rfl, cv0⟩, trivial⟩ trivial) rfl ⟨rfl, trivial⟩))))
  · have hr := if_f hc3 hr
    refine awc_skip (athen_norm (awc_seq ?_))
    refine awc_region ?_
    refine awl_v (av_move rfl) ?_
    refine awl_v (av_move rfl) ?_
    refine awl_v (av_move rfl) ?_
    refine awl_v (av_move rfl) ?_
    obtain ⟨x6, e7, hr⟩ := bnd_some hr
    refine awl_v (av_call (f24_runs e7) ent24 rfl rfl) ?_
    refine awl_v (av_move rfl) ?_
    refine awl_v (av_extract rfl rfl) ?_
    refine awl_v (av_extract rfl rfl) ?_
    refine awl_v (av_assign rfl) ?_
    refine awl_v (av_assign rfl) ?_
    refine awl_nil (athen_norm (awc_seq ?_))
    refine awc_region ?_
    refine awl_v (av_move rfl) ?_
    refine awl_v (av_move rfl) ?_
    refine awl_v (av_move rfl) ?_
    refine awl_v (av_move rfl) ?_
    obtain ⟨x8, e9, hr⟩ := bnd_some hr
    refine awl_v (av_call (f25_runs e9) ent25 rfl rfl) ?_
    refine awl_v (av_move rfl) ?_
    refine awl_v (av_extract rfl rfl) ?_
    refine awl_v (av_extract rfl rfl) ?_
    refine awl_v (av_assign rfl) ?_
    refine awl_v (av_assign rfl) ?_
    refine awl_nil (athen_norm (awc_seq (awc_seq ?_)))
    refine awc_text [0, 1, 2, 3, 8, 9, 10, 11, 12] [(true, .bool x6.1), (true, .bool x8.1), (true, .bool (!decide (x6.1 = x8.1))), (true, .bool (!decide (x6.1 = x8.1))), (!(!decide (x6.1 = x8.1)), .int .i64 x6.2), (!(!decide (x6.1 = x8.1)), .int .i64 x8.2), (!(!decide (x6.1 = x8.1)), .bool (!decide (x6.2 = x8.2))), (true, .bool ((!decide (x6.1 = x8.1)) || (!decide (x6.2 = x8.2))))] [[], [], [0, 1], [2], [3], [3], [4, 5, 3], [6, 3]] [7] rfl rfl rfl rfl rfl ⟨?_, ?_, ?_, ?_, ?_, ?_, ?_, ?_, trivial⟩ (allT_of ⟨rfl, trivial⟩) ?_
    · exact ob_v rfl (fun hg => allT_of trivial) (fun hg => av_move rfl)
    · exact ob_v rfl (fun hg => allT_of trivial) (fun hg => av_move rfl)
    · exact ob_v rfl (fun hg => allT_of ⟨rfl, rfl, trivial⟩) (fun hg => av_neqb und4 rfl rfl)
    · exact ob_v rfl (fun hg => allT_of ⟨rfl, trivial⟩) (fun hg => av_move rfl)
    · exact ob_v ⟨rfl, rfl, rfl, _, rfl, rfl⟩ (fun hg => allT_of ⟨rfl, trivial⟩) (fun hg => av_move rfl)
    · exact ob_v ⟨rfl, rfl, rfl, _, rfl, rfl⟩ (fun hg => allT_of ⟨rfl, trivial⟩) (fun hg => av_move rfl)
    · exact ob_v ⟨rfl, rfl, rfl, _, rfl, rfl⟩ (fun hg => allT_of ⟨hg, hg, rfl, trivial⟩) (fun hg => av_neq rfl rfl)
    · exact ob_pick (b := false) (p := !decide (x6.1 = x8.1)) (q := !decide (x6.2 = x8.2)) rfl rfl rfl (fun hg => allT_of ⟨rfl, trivial⟩) rfl rfl rfl rfl rfl
    refine athen_norm ?_
    refine awc_cond (b := (!decide (x6.1 = x8.1)) || (!decide (x6.2 = x8.2))) rfl (fun hc10 => ?_) (fun hc10 => ?_)
    · have hr := if_t hc10 hr
      refine awc_seq ?_
      refine awc_region ?_
      refine awl_v (av_assign rfl) ?_
      have hr := Option.some.inj hr
      subst hr
      exact awl_nil (athen_norm (awc_ret (athen_ret (ret_q (l' := [(8, .bool false)]) (wk_of hX [] 4 rfl rfl ⟨⟨_, rfl, cv0⟩, trivial⟩ trivial) rfl ⟨rfl, trivial⟩))))
    · have hr := if_f hc10 hr
      refine awc_skip (athen_norm (awc_seq ?_))
      refine awc_region ?_
      refine awl_v (av_move rfl) ?_
      refine awl_v (av_move rfl) ?_
      refine awl_v (av_move rfl) ?_
      obtain ⟨x11, e12, hr⟩ := bnd_some hr
      refine awl_v (av_call (f26_runs e12) ent26 rfl rfl) ?_
      refine awl_v (av_move rfl) ?_
      refine awl_v (av_extract rfl rfl) ?_
      refine awl_v (av_extract rfl rfl) ?_
      refine awl_v (av_assign rfl) ?_
      refine awl_v (av_assign rfl) ?_
      refine awl_nil (athen_norm (awc_seq ?_))
      refine awc_region ?_
      refine awl_v (av_move rfl) ?_
      refine awl_v (av_move rfl) ?_
      refine awl_v (av_move rfl) ?_
      obtain ⟨x13, e14, hr⟩ := bnd_some hr
      refine awl_v (av_call (f27_runs e14) ent27 rfl rfl) ?_
      refine awl_v (av_move rfl) ?_
      refine awl_v (av_extract rfl rfl) ?_
      refine awl_v (av_extract rfl rfl) ?_
      refine awl_v (av_assign rfl) ?_
      refine awl_v (av_assign rfl) ?_
      refine awl_nil (athen_norm (awc_seq (awc_seq ?_)))
      obtain ⟨x15, e16, hr⟩ := bnd_some hr
      refine awc_text [0, 1, 2, 3, 8, 13, 14, 15, 16] [(true, .sl (.int .i64) x11.1), (true, .sl (.int .i64) x13.1), (true, .bool x15), (true, .bool (!x15)), (true, .bool (!x15)), (!(!x15), .int .i64 x11.2), (!(!x15), .int .i64 x13.2), (!(!x15), .bool (!decide (x11.2 = x13.2))), (true, .bool ((!x15) || (!decide (x11.2 = x13.2))))] [[], [], [0, 1], [2], [3], [4], [4], [5, 6, 4], [7, 4]] [8] rfl rfl rfl rfl rfl ⟨?_, ?_, ?_, ?_, ?_, ?_, ?_, ?_, ?_, trivial⟩ (allT_of ⟨rfl, trivial⟩) ?_
      · exact ob_v rfl (fun hg => allT_of trivial) (fun hg => av_move rfl)
      · exact ob_v rfl (fun hg => allT_of trivial) (fun hg => av_move rfl)
      · exact ob_v rfl (fun hg => allT_of ⟨rfl, rfl, trivial⟩) (fun hg => av_call (f13_runs e16) ent13 rfl rfl)
      · exact ob_v rfl (fun hg => allT_of ⟨rfl, trivial⟩) (fun hg => av_not rfl)
      · exact ob_v rfl (fun hg => allT_of ⟨rfl, trivial⟩) (fun hg => av_move rfl)
      · exact ob_v ⟨rfl, rfl, rfl, _, rfl, rfl⟩ (fun hg => allT_of ⟨rfl, trivial⟩) (fun hg => av_move rfl)
      · exact ob_v ⟨rfl, rfl, rfl, _, rfl, rfl⟩ (fun hg => allT_of ⟨rfl, trivial⟩) (fun hg => av_move rfl)
      · exact ob_v ⟨rfl, rfl, rfl, _, rfl, rfl⟩ (fun hg => allT_of ⟨hg, hg, rfl, trivial⟩) (fun hg => av_neq rfl rfl)
      · exact ob_pick (b := false) (p := !x15) (q := !decide (x11.2 = x13.2)) rfl rfl rfl (fun hg => allT_of ⟨rfl, trivial⟩) rfl rfl rfl rfl rfl
      refine athen_norm ?_
      refine awc_cond (b := (!x15) || (!decide (x11.2 = x13.2))) rfl (fun hc17 => ?_) (fun hc17 => ?_)
      · have hr := if_t hc17 hr
        refine awc_seq ?_
        refine awc_region ?_
        refine awl_v (av_assign rfl) ?_
        have hr := Option.some.inj hr
        subst hr
        exact awl_nil (athen_norm (awc_ret (athen_ret (ret_q (l' := [(8, .bool false)]) (wk_of hX [] 4 rfl rfl ⟨⟨_, rfl, cv0⟩, trivial⟩ trivial) rfl ⟨rfl, trivial⟩))))
      · have hr := if_f hc17 hr
        refine awc_skip (athen_norm (awc_seq ?_))
        refine awc_region ?_
        refine awl_v (av_move rfl) ?_
        refine awl_v (av_move rfl) ?_
        refine awl_v (av_move rfl) ?_
        obtain ⟨x18, e19, hr⟩ := bnd_some hr
        refine awl_v (av_call (f28_runs e19) ent28 rfl rfl) ?_
        refine awl_v (av_move rfl) ?_
        refine awl_v (av_extract rfl rfl) ?_
        refine awl_v (av_extract rfl rfl) ?_
        refine awl_v (av_assign rfl) ?_
        refine awl_v (av_assign rfl) ?_
        refine awl_nil (athen_norm (awc_seq (awc_seq ?_)))
        refine awc_region ?_
        refine awl_v (av_move rfl) ?_
        refine awl_v (av_move rfl) ?_
        refine awl_v (av_move rfl) ?_
        obtain ⟨x20, e21, hr⟩ := bnd_some hr
        refine awl_v (av_call (f29_runs e21) ent29 rfl rfl) ?_
        refine awl_v (av_move rfl) ?_
        refine awl_v (av_extract rfl rfl) ?_
        refine awl_v (av_extract rfl rfl) ?_
        refine awl_v (av_assign rfl) ?_
        refine awl_v (av_assign rfl) ?_
        refine awl_nil (athen_norm (awc_seq ?_))
        obtain ⟨x22, e23, hr⟩ := bnd_some hr
        refine awc_text [0, 1, 2, 3, 8, 13, 14, 15, 16] [(true, .sl (.int .i64) x18.1), (true, .sl (.int .i64) x20.1), (true, .bool x22), (true, .bool (!x22)), (true, .bool (!x22)), (!(!x22), .int .i64 x18.2), (!(!x22), .int .i64 x20.2), (!(!x22), .bool (!decide (x18.2 = x20.2))), (true, .bool ((!x22) || (!decide (x18.2 = x20.2))))] [[], [], [0, 1], [2], [3], [4], [4], [5, 6, 4], [7, 4]] [8] rfl rfl rfl rfl rfl ⟨?_, ?_, ?_, ?_, ?_, ?_, ?_, ?_, ?_, trivial⟩ (allT_of ⟨rfl, trivial⟩) ?_
        · exact ob_v rfl (fun hg => allT_of trivial) (fun hg => av_move rfl)
        · exact ob_v rfl (fun hg => allT_of trivial) (fun hg => av_move rfl)
        · exact ob_v rfl (fun hg => allT_of ⟨rfl, rfl, trivial⟩) (fun hg => av_call (f13_runs e23) ent13 rfl rfl)
        · exact ob_v rfl (fun hg => allT_of ⟨rfl, trivial⟩) (fun hg => av_not rfl)
        · exact ob_v rfl (fun hg => allT_of ⟨rfl, trivial⟩) (fun hg => av_move rfl)
        · exact ob_v ⟨rfl, rfl, rfl, _, rfl, rfl⟩ (fun hg => allT_of ⟨rfl, trivial⟩) (fun hg => av_move rfl)
        · exact ob_v ⟨rfl, rfl, rfl, _, rfl, rfl⟩ (fun hg => allT_of ⟨rfl, trivial⟩) (fun hg => av_move rfl)
        · exact ob_v ⟨rfl, rfl, rfl, _, rfl, rfl⟩ (fun hg => allT_of ⟨hg, hg, rfl, trivial⟩) (fun hg => av_neq rfl rfl)
        · exact ob_pick (b := false) (p := !x22) (q := !decide (x18.2 = x20.2)) rfl rfl rfl (fun hg => allT_of ⟨rfl, trivial⟩) rfl rfl rfl rfl rfl
        refine athen_norm ?_
        refine awc_cond (b := (!x22) || (!decide (x18.2 = x20.2))) rfl (fun hc24 => ?_) (fun hc24 => ?_)
        · have hr := if_t hc24 hr
          refine awc_seq ?_
          refine awc_region ?_
          refine awl_v (av_assign rfl) ?_
          have hr := Option.some.inj hr
          subst hr
          exact awl_nil (athen_norm (awc_ret (athen_ret (ret_q (l' := [(8, .bool false)]) (wk_of hX [] 4 rfl rfl ⟨⟨_, rfl, cv0⟩, trivial⟩ trivial) rfl ⟨rfl, trivial⟩))))
        · have hr := if_f hc24 hr
          refine awc_skip (athen_norm (awc_seq ?_))
          refine awc_region ?_
          refine awl_v (av_move rfl) ?_
          refine awl_v (av_move rfl) ?_
          refine awl_v (av_move rfl) ?_
          refine awl_v (av_move rfl) ?_
          obtain ⟨x25, e26, hr⟩ := bnd_some hr
          refine awl_v (av_call (f30_runs e26) ent30 rfl rfl) ?_
          refine awl_v (av_move rfl) ?_
          refine awl_v (av_extract rfl rfl) ?_
          refine awl_v (av_extract rfl rfl) ?_
          refine awl_v (av_assign rfl) ?_
          refine awl_v (av_assign rfl) ?_
          refine awl_nil (athen_norm (awc_seq ?_))
          refine awc_region ?_
          refine awl_v (av_move rfl) ?_
          refine awl_v (av_move rfl) ?_
          refine awl_v (av_move rfl) ?_
          refine awl_v (av_move rfl) ?_
          obtain ⟨x27, e28, hr⟩ := bnd_some hr
          refine awl_v (av_call (f31_runs e28) ent31 rfl rfl) ?_
          refine awl_v (av_move rfl) ?_
          refine awl_v (av_extract rfl rfl) ?_
          refine awl_v (av_extract rfl rfl) ?_
          refine awl_v (av_assign rfl) ?_
          refine awl_v (av_assign rfl) ?_
          refine awl_nil (athen_norm (awc_seq ?_))
          obtain ⟨x29, e30, hr⟩ := bnd_some hr
          obtain ⟨h31, hr⟩ := chk_some hr
          refine awc_text [13, 14, 15, 16] [(true, .sl (.int .i64) x25.1), (true, .sl (.int .i64) x27.1), (true, .bool x29), (true, .bool x29), (x29, .int .i64 x25.2), (x29, .int .i64 x27.2), (x29, .bool (decide (x25.2 = x27.2))), (true, .bool (x29 && (decide (x25.2 = x27.2)))), (true, .bool (x29 && (decide (x25.2 = x27.2)))), (x29 && (decide (x25.2 = x27.2)), .bool ((f8).getD default)), (true, .bool ((x29 && (decide (x25.2 = x27.2))) && ((f8).getD default))), (true, .bool ((x29 && (decide (x25.2 = x27.2))) && ((f8).getD default)))] [[], [], [0, 1], [2], [3], [3], [4, 5, 3], [6, 3], [7], [8], [9, 8], [10]] [11] rfl rfl rfl rfl rfl ⟨?_, ?_, ?_, ?_, ?_, ?_, ?_, ?_, ?_, ?_, ?_, ?_, trivial⟩ (allT_of ⟨rfl, trivial⟩) ?_
          · exact ob_v rfl (fun hg => allT_of trivial) (fun hg => av_move rfl)
          · exact ob_v rfl (fun hg => allT_of trivial) (fun hg => av_move rfl)
          · exact ob_v rfl (fun hg => allT_of ⟨rfl, rfl, trivial⟩) (fun hg => av_call (f13_runs e30) ent13 rfl rfl)
          · exact ob_v rfl (fun hg => allT_of ⟨rfl, trivial⟩) (fun hg => av_move rfl)
          · exact ob_v ⟨rfl, rfl, rfl, _, rfl, rfl⟩ (fun hg => allT_of ⟨rfl, trivial⟩) (fun hg => av_move rfl)
          · exact ob_v ⟨rfl, rfl, rfl, _, rfl, rfl⟩ (fun hg => allT_of ⟨rfl, trivial⟩) (fun hg => av_move rfl)
          · exact ob_v ⟨rfl, rfl, rfl, _, rfl, rfl⟩ (fun hg => allT_of ⟨hg, hg, rfl, trivial⟩) (fun hg => av_eql rfl rfl)
          · exact ob_pick (b := true) (p := x29) (q := decide (x25.2 = x27.2)) rfl rfl rfl (fun hg => allT_of ⟨rfl, trivial⟩) rfl rfl rfl rfl rfl
          · exact ob_v rfl (fun hg => allT_of ⟨rfl, trivial⟩) (fun hg => av_move rfl)
          · exact ob_v ⟨rfl, rfl, rfl, _, rfl, rfl⟩ (fun hg => allT_of ⟨rfl, trivial⟩) (fun hg => av_call (f8_runs (get_g h31 hg)) ent8 rfl rfl)
          · exact ob_pick (b := true) (p := x29 && (decide (x25.2 = x27.2))) (q := ((f8).getD default)) rfl rfl rfl (fun hg => allT_of ⟨rfl, trivial⟩) rfl rfl rfl rfl rfl
          · exact ob_v rfl (fun hg => allT_of ⟨rfl, trivial⟩) (fun hg => av_assign rfl)
          have hr := Option.some.inj hr
          subst hr
          exact athen_norm (awc_ret (ret_q (l' := [(8, .bool ((x29 && (decide (x25.2 = x27.2))) && ((f8).getD default)))]) (wk_of hX [] 4 rfl rfl ⟨⟨_, rfl, cv0⟩, trivial⟩ trivial) rfl ⟨rfl, trivial⟩))
end Go.Ab
