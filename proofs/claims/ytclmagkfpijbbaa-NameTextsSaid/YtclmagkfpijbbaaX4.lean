/- Lemmas for a law of the seat: what functions of the program do, each stated as a contract of its own (X4). -/
import Derived.Test.YtclmagkfpijbbaaX3
import Derived.Laws.RangeString
import Derived.Laws.RangeAny
set_option linter.unusedVariables false
set_option maxRecDepth 100000
set_option maxHeartbeats 4000000
namespace Go.Ab
open Go.RowKit Go.Shelf Go.Proofs Go.Eng
theorem ent43 : Enters Try.prog 43 := enters_of Try.func43 (by kernel_rfl) rfl
theorem ent31 : Enters Try.prog 31 := enters_of Try.func31 (by kernel_rfl) rfl
theorem ent10 : Enters Try.prog 10 := enters_of Try.func10 (by kernel_rfl) rfl
theorem ent18 : Enters Try.prog 18 := enters_of Try.func18 (by kernel_rfl) rfl
theorem und92 : Und Try.prog 92 (.slice 3) := by unfold Und; kernel_rfl
theorem ent24 : Enters Try.prog 24 := enters_of Try.func24 (by kernel_rfl) rfl
theorem bs92 : BuildS Try.prog 92 3 (.int .i64) := buildS_of (z := .int .i64 0) (by kernel_rfl) (by kernel_rfl) rfl
theorem ent35 : Enters Try.prog 35 := enters_of Try.func35 (by kernel_rfl) rfl
theorem ent23 : Enters Try.prog 23 := enters_of Try.func23 (by kernel_rfl) rfl
theorem ent4 : Enters Try.prog 4 := enters_of Try.func4 (by kernel_rfl) rfl
theorem ent5 : Enters Try.prog 5 := enters_of Try.func5 (by kernel_rfl) rfl
theorem ent6 : Enters Try.prog 6 := enters_of Try.func6 (by kernel_rfl) rfl
theorem ent8 : Enters Try.prog 8 := enters_of Try.func8 (by kernel_rfl) rfl
theorem und4 : Und Try.prog 4 .bool := by unfold Und; kernel_rfl
theorem ent11 : Enters Try.prog 11 := enters_of Try.func11 (by kernel_rfl) rfl
theorem ent12 : Enters Try.prog 12 := enters_of Try.func12 (by kernel_rfl) rfl
theorem ent13 : Enters Try.prog 13 := enters_of Try.func13 (by kernel_rfl) rfl
theorem f43_runs {p0 : Str} {r : Str} (hr : f43 p0 = some r) : RunsP Try.prog 43 [.str p0] [.str r] := by
  refine runs_w Try.func43 Try.ntmps43 rfl (rs := [.tmp 2]) rfl rfl fun w0 X hX => ?_
  refine awc_seq ?_
  refine awc_region ?_
  refine awl_v (av_assign rfl) ?_
  refine awl_nil (athen_norm (awc_seq ?_))
  refine awc_region ?_
  refine awl_v (av_assign rfl) ?_
  refine awl_nil (athen_norm (awc_seq (awc_seq ?_)))
  refine awc_region ?_
  refine awl_v (av_move rfl) ?_
  refine awl_v (av_len_str rfl rfl und9 rfl) ?_
  refine awl_v (av_move rfl) ?_
  refine awl_nil (athen_norm (awc_block ?_))
  obtain ⟨h6, hr⟩ := chk_some hr
  obtain ⟨o7, e8, hr⟩ := bnd_some hr
  refine awc_range (S := Str) (R := Unit) (List.length p0 : Int) (f43_b0 p0) (fun p => match p with | (i1, s2) => (⟨[(0, .str p0), (2, .str ([] : Str)), (3, .str s2), (6, .int .i64 (List.length p0 : Int)), (7, .int .i64 i1)], [], 0⟩ : AS)) (fun o e st => match o with | .inr _ => False | .inl s2 => e = .exit 0 ∧ Wk X st ⟨[(2, .str ([] : Str)), (3, .str s2)], [], 0⟩) (of_decide_eq_true h6) e8 (wk_of hX [] 4 rfl rfl ⟨⟨_, rfl, cv0⟩, ⟨_, rfl, cv0⟩, ⟨_, rfl, cv0⟩, ⟨_, rfl, cv0⟩, ⟨_, rfl, cv0⟩, trivial⟩ trivial) ?_ ?_
  · intro e st hx
    rcases o7 with s2 | _
    · obtain ⟨rfl, hw⟩ := hx
      refine ablock_here (athen_norm ((awc_wk hw) (awc_seq ?_)))
      refine awc_region ?_
      refine awl_v (av_move rfl) ?_
      refine awl_v (av_assign rfl) ?_
      have hr := Option.some.inj hr
      subst hr
      exact awl_nil (athen_norm (awc_ret (ret_q (l' := [(2, .str s2)]) (wk_of hX [] 4 rfl rfl ⟨⟨_, rfl, cv0⟩, trivial⟩ trivial) rfl ⟨rfl, trivial⟩)))
    · exact hx.elim
  · rintro i1 s2 o ho
    refine awc_seq ?_
    refine awc_region ?_
    refine awl_v (av_lss rfl rfl) ?_
    refine awl_nil (athen_norm (awc_seq ?_))
    refine awc_cond (b := decide (i1 < (List.length p0 : Int))) rfl (fun hc9 => ?_) (fun hc9 => ?_)
    · obtain ⟨q, hr, rfl⟩ := rb_t hc9 ho
      refine awc_skip (athen_norm (awc_seq (awc_block (awc_seq ?_))))
      refine awc_region ?_
      refine awl_v (av_move rfl) ?_
      refine awl_v (av_assign rfl) ?_
      refine awl_nil (athen_norm ?_)
      obtain ⟨o11, e12, hr⟩ := bnd_some hr
      refine awc_join (S := Str) (R := Unit) (fun s => match s with | s10 => (⟨[(0, .str p0), (2, .str ([] : Str)), (3, .str s10), (4, .int .i64 i1), (6, .int .i64 (List.length p0 : Int)), (7, .int .i64 i1)], [], 0⟩ : AS)) (fun _ _ _ => False) e12 (fun hr => ?_) ?_ ?_
      · refine awc_seq ?_
        obtain ⟨x13, e14, hr⟩ := bnd_some hr
        obtain ⟨h15, hr⟩ := chk_some hr
        obtain ⟨h16, hr⟩ := chk_some hr
        refine awc_text [0, 2, 3, 6, 7, 4] [(true, .str p0), (true, .int .i64 i1), (true, .int .u8 ((UInt8.toNat x13 : Nat) : Int)), (true, .bool (decide (((UInt8.toNat x13 : Nat) : Int) = 46))), (true, .bool (decide (((UInt8.toNat x13 : Nat) : Int) = 46))), (!(decide (((UInt8.toNat x13 : Nat) : Int) = 46)), .str p0), (!(decide (((UInt8.toNat x13 : Nat) : Int) = 46)), .int .i64 i1), (!(decide (((UInt8.toNat x13 : Nat) : Int) = 46)), .int .u8 ((UInt8.toNat ((ix p0 i1).getD default) : Nat) : Int)), (!(decide (((UInt8.toNat x13 : Nat) : Int) = 46)), .bool (decide (((UInt8.toNat ((ix p0 i1).getD default) : Nat) : Int) = 47))), (true, .bool ((decide (((UInt8.toNat x13 : Nat) : Int) = 46)) || (decide (((UInt8.toNat ((ix p0 i1).getD default) : Nat) : Int) = 47)))), (true, .bool ((decide (((UInt8.toNat x13 : Nat) : Int) = 46)) || (decide (((UInt8.toNat ((ix p0 i1).getD default) : Nat) : Int) = 47)))), (!((decide (((UInt8.toNat x13 : Nat) : Int) = 46)) || (decide (((UInt8.toNat ((ix p0 i1).getD default) : Nat) : Int) = 47))), .str p0), (!((decide (((UInt8.toNat x13 : Nat) : Int) = 46)) || (decide (((UInt8.toNat ((ix p0 i1).getD default) : Nat) : Int) = 47))), .int .i64 i1), (!((decide (((UInt8.toNat x13 : Nat) : Int) = 46)) || (decide (((UInt8.toNat ((ix p0 i1).getD default) : Nat) : Int) = 47))), .int .u8 ((UInt8.toNat ((ix p0 i1).getD default) : Nat) : Int)), (!((decide (((UInt8.toNat x13 : Nat) : Int) = 46)) || (decide (((UInt8.toNat ((ix p0 i1).getD default) : Nat) : Int) = 47))), .bool (decide (((UInt8.toNat ((ix p0 i1).getD default) : Nat) : Int) = 92))), (true, .bool (((decide (((UInt8.toNat x13 : Nat) : Int) = 46)) || (decide (((UInt8.toNat ((ix p0 i1).getD default) : Nat) : Int) = 47))) || (decide (((UInt8.toNat ((ix p0 i1).getD default) : Nat) : Int) = 92))))] [[], [], [0, 1], [2], [3], [4], [4], [5, 6, 4], [7, 4], [8, 4], [9], [10], [10], [11, 12, 10], [13, 10], [14, 10]] [15] rfl rfl rfl rfl rfl ⟨?_, ?_, ?_, ?_, ?_, ?_, ?_, ?_, ?_, ?_, ?_, ?_, ?_, ?_, ?_, ?_, trivial⟩ (allT_of ⟨rfl, trivial⟩) ?_
        · exact ob_v rfl (fun hg => allT_of trivial) (fun hg => av_move rfl)
        · exact ob_v rfl (fun hg => allT_of trivial) (fun hg => av_move rfl)
        · exact ob_v rfl (fun hg => allT_of ⟨rfl, rfl, trivial⟩) (fun hg => av_index_str und9 rfl rfl e14)
        · exact ob_v rfl (fun hg => allT_of ⟨rfl, trivial⟩) (fun hg => av_eql rfl rfl)
        · exact ob_v rfl (fun hg => allT_of ⟨rfl, trivial⟩) (fun hg => av_move rfl)
        · exact ob_v ⟨rfl, rfl, rfl, _, rfl, rfl⟩ (fun hg => allT_of ⟨rfl, trivial⟩) (fun hg => av_move rfl)
        · exact ob_v ⟨rfl, rfl, rfl, _, rfl, rfl⟩ (fun hg => allT_of ⟨rfl, trivial⟩) (fun hg => av_move rfl)
        · exact ob_v ⟨rfl, rfl, rfl, _, rfl, rfl⟩ (fun hg => allT_of ⟨hg, hg, rfl, trivial⟩) (fun hg => av_index_str und9 rfl rfl (get_g h15 hg))
        · exact ob_v ⟨rfl, rfl, rfl, _, rfl, rfl⟩ (fun hg => allT_of ⟨hg, rfl, trivial⟩) (fun hg => av_eql rfl rfl)
        · exact ob_pick (b := false) (p := decide (((UInt8.toNat x13 : Nat) : Int) = 46)) (q := decide (((UInt8.toNat ((ix p0 i1).getD default) : Nat) : Int) = 47)) rfl rfl rfl (fun hg => allT_of ⟨rfl, trivial⟩) rfl rfl rfl rfl rfl
        · exact ob_v rfl (fun hg => allT_of ⟨rfl, trivial⟩) (fun hg => av_move rfl)
        · exact ob_v ⟨rfl, rfl, rfl, _, rfl, rfl⟩ (fun hg => allT_of ⟨rfl, trivial⟩) (fun hg => av_move rfl)
        · exact ob_v ⟨rfl, rfl, rfl, _, rfl, rfl⟩ (fun hg => allT_of ⟨rfl, trivial⟩) (fun hg => av_move rfl)
        · exact ob_v ⟨rfl, rfl, rfl, _, rfl, rfl⟩ (fun hg => allT_of ⟨hg, hg, rfl, trivial⟩) (fun hg => av_index_str und9 rfl rfl (get_g h16 hg))
        · exact ob_v ⟨rfl, rfl, rfl, _, rfl, rfl⟩ (fun hg => allT_of ⟨hg, rfl, trivial⟩) (fun hg => av_eql rfl rfl)
        · exact ob_pick (b := false) (p := (decide (((UInt8.toNat x13 : Nat) : Int) = 46)) || (decide (((UInt8.toNat ((ix p0 i1).getD default) : Nat) : Int) = 47))) (q := decide (((UInt8.toNat ((ix p0 i1).getD default) : Nat) : Int) = 92)) rfl rfl rfl (fun hg => allT_of ⟨rfl, trivial⟩) rfl rfl rfl rfl rfl
        refine athen_norm ?_
        refine awc_cond (b := ((decide (((UInt8.toNat x13 : Nat) : Int) = 46)) || (decide (((UInt8.toNat ((ix p0 i1).getD default) : Nat) : Int) = 47))) || (decide (((UInt8.toNat ((ix p0 i1).getD default) : Nat) : Int) = 92))) rfl (fun hc17 => ?_) (fun hc17 => ?_)
        · have hr := if_t hc17 hr
          refine awc_region ?_
          refine awl_v (av_move rfl) ?_
          obtain ⟨h18, hr⟩ := chk_some hr
          refine awl_v (av_adds rfl rfl h18) ?_
          refine awl_v (av_assign rfl) ?_
          have hr := Option.some.inj hr
          subst hr
          exact awl_nil ((wk_of hX [] 4 rfl rfl ⟨⟨_, rfl, cv0⟩, ⟨_, rfl, cv0⟩, ⟨_, rfl, cv0⟩, ⟨_, rfl, cv0⟩, ⟨_, rfl, cv0⟩, ⟨_, rfl, cv0⟩, trivial⟩ trivial))
        · have hr := if_f hc17 hr
          have hr := Option.some.inj hr
          subst hr
          exact awc_skip ((wk_of hX [] 4 rfl rfl ⟨⟨_, rfl, cv0⟩, ⟨_, rfl, cv0⟩, ⟨_, rfl, cv0⟩, ⟨_, rfl, cv0⟩, ⟨_, rfl, cv0⟩, ⟨_, rfl, cv0⟩, trivial⟩ trivial))
      · rintro s10 rfl
        refine awc_region ?_
        refine awl_v (av_move rfl) ?_
        refine awl_v (av_move rfl) ?_
        refine awl_v (av_move rfl) ?_
        refine awl_v (av_move rfl) ?_
        refine awl_v (av_add rfl rfl) ?_
        obtain ⟨h19, hr⟩ := chk_some hr
        refine awl_v (av_slice_str (l := i1) (h := (w64 (i1 + 1))) und9 rfl ⟨_, rfl⟩ ⟨_, rfl⟩ h19) ?_
        obtain ⟨h20, hr⟩ := chk_some hr
        refine awl_v (av_adds rfl rfl h20) ?_
        refine awl_v (av_assign rfl) ?_
        refine awl_nil (ablock_norm (athen_norm ?_))
        refine awc_region ?_
        refine awl_v (av_add rfl rfl) ?_
        refine awl_v (av_move rfl) ?_
        have hr := Option.some.inj hr
        subst hr
        exact awl_nil ((wk_of hX [] 4 rfl rfl ⟨⟨_, rfl, cv0⟩, ⟨_, rfl, cv0⟩, ⟨_, rfl, cv0⟩, ⟨_, rfl, cv0⟩, ⟨_, rfl, cv0⟩, trivial⟩ trivial))
      · exact fun r h e st hne hx => hx.elim
    · obtain rfl := rb_f hc9 ho
      exact awc_exit (athen_exit (⟨rfl, (wk_of hX [] 4 rfl rfl ⟨⟨_, rfl, cv0⟩, ⟨_, rfl, cv0⟩, trivial⟩ trivial)⟩))
theorem f31_runs {p0 : Str × Str} {r : Str} (hr : f31 p0 = some r) : RunsP Try.prog 31 [.agg [.str p0.1, .str p0.2]] [.str r] := by
  refine runs_w Try.func31 Try.ntmps31 rfl (rs := [.tmp 2]) rfl rfl fun w0 X hX => ?_
  refine awc_seq ?_
  refine awc_region ?_
  refine awl_op (aop_box rfl rfl ?_)
  refine awl_v (av_assign rfl) ?_
  refine awl_nil (athen_norm (awc_seq (awc_seq ?_)))
  refine awc_region ?_
  refine awl_v (av_fa_ptr fa25_1 rfl rfl) ?_
  refine awl_v (av_load_ptr ts9 rfl rfl rfl) ?_
  refine awl_v (av_eqls rfl rfl) ?_
  refine awl_nil (athen_norm ?_)
  refine awc_cond (b := decide (p0.2 = ([] : Str))) rfl (fun hc1 => ?_) (fun hc1 => ?_)
  · have hr := if_t hc1 hr
    refine awc_seq ?_
    refine awc_region ?_
    refine awl_v (av_fa_ptr fa25_0 rfl rfl) ?_
    refine awl_v (av_load_ptr ts9 rfl rfl rfl) ?_
    obtain ⟨x2, e3, hr⟩ := bnd_some hr
    refine awl_v (av_call (f43_runs e3).x ent43 rfl rfl) ?_
    refine awl_v (av_assign rfl) ?_
    have hr := Option.some.inj hr
    subst hr
    exact awl_nil (athen_norm (awc_ret (athen_ret (ret_q (l' := [(2, .str x2)]) (wk_of hX [] 4 rfl rfl ⟨⟨_, rfl, cv0⟩, trivial⟩ trivial) rfl ⟨rfl, trivial⟩))))
  · have hr := if_f hc1 hr
    refine awc_skip (athen_norm (awc_seq ?_))
    obtain ⟨x4, e5, hr⟩ := bnd_some hr
    obtain ⟨h6, hr⟩ := chk_some hr
    obtain ⟨x7, e8, hr⟩ := bnd_some hr
    obtain ⟨h9, hr⟩ := chk_some hr
    refine awc_draw mixed [1] [(true, .ptr 0 0), (true, .str p0.1), (true, .str x4), (true, .str (x4 ++ ([46] : Str))), (true, .ptr 0 1), (true, .str p0.2), (true, .str x7), (true, .str ((x4 ++ ([46] : Str)) ++ x7)), (true, .str ((x4 ++ ([46] : Str)) ++ x7))] [[], [0], [1], [2], [], [4], [5], [3, 6], [7]] [8] rfl rfl rfl rfl rfl ⟨?_, ?_, ?_, ?_, ?_, ?_, ?_, ?_, ?_, trivial⟩ (allT_of ⟨rfl, trivial⟩) ?_
    · exact ob_v rfl (fun hg => allT_of trivial) (fun hg => av_fa_ptr fa25_0 rfl rfl)
    · exact ob_v rfl (fun hg => allT_of ⟨rfl, trivial⟩) (fun hg => av_load_ptr ts9 rfl rfl rfl)
    · exact ob_v rfl (fun hg => allT_of ⟨rfl, trivial⟩) (fun hg => av_call (f43_runs e5).x ent43 rfl rfl)
    · exact ob_v rfl (fun hg => allT_of ⟨rfl, trivial⟩) (fun hg => av_adds rfl rfl h6)
    · exact ob_v rfl (fun hg => allT_of trivial) (fun hg => av_fa_ptr fa25_1 rfl rfl)
    · exact ob_v rfl (fun hg => allT_of ⟨rfl, trivial⟩) (fun hg => av_load_ptr ts9 rfl rfl rfl)
    · exact ob_v rfl (fun hg => allT_of ⟨rfl, trivial⟩) (fun hg => av_call (f43_runs e8).x ent43 rfl rfl)
    · exact ob_v rfl (fun hg => allT_of ⟨rfl, rfl, trivial⟩) (fun hg => av_adds rfl rfl h9)
    · exact ob_v rfl (fun hg => allT_of ⟨rfl, trivial⟩) (fun hg => av_assign rfl)
    have hr := Option.some.inj hr
    subst hr
    exact athen_norm (awc_ret (ret_q (l' := [(2, .str ((x4 ++ ([46] : Str)) ++ x7))]) (wk_of hX [] 4 rfl rfl ⟨⟨_, rfl, cv0⟩, trivial⟩ trivial) rfl ⟨rfl, trivial⟩))
theorem f18_runs {p0 : List (Str × Str)} {r : Str} (hr : f18 p0 = some r) : RunsP Try.prog 18 [.sl Y1 p0] [.str r] := by
  refine runs_w Try.func18 Try.ntmps18 rfl (rs := [.tmp 2]) rfl rfl fun w0 X hX => ?_
  refine awc_seq ?_
  refine awc_region ?_
  refine awl_v (av_assign rfl) ?_
  refine awl_nil (athen_norm (awc_seq ?_))
  refine awc_region ?_
  refine awl_v (av_assign rfl) ?_
  refine awl_nil (athen_norm (awc_seq (awc_seq ?_)))
  refine awc_region ?_
  refine awl_v (av_move rfl) ?_
  refine awl_v (av_len_sl (t := Y1) rfl rfl und22 rfl) ?_
  refine awl_v (av_move rfl) ?_
  refine awl_nil (athen_norm (awc_block ?_))
  obtain ⟨o6, e7, hr⟩ := bnd_some hr
  refine awc_len (t := 0) rfl (fun hl => ?_)
  refine awc_range (S := List Str) (R := Unit) (List.length p0 : Int) (f18_b0 p0) (fun p => match p with | (i1, s3) => (⟨[(2, .str ([] : Str)), (3, .osl 0), (6, .sl Y1 p0), (7, .int .i64 (List.length p0 : Int)), (8, .int .i64 i1)], [(0, .sl 9 .str s3)], 1⟩ : AS)) (fun o e st => match o with | .inr _ => False | .inl s3 => e = .exit 0 ∧ Wk X st ⟨[(2, .str ([] : Str)), (3, .osl 0)], [(0, .sl 9 .str s3)], 1⟩) (len_ok hl) e7 (Wk.trans (wk_own (t := 3) 9 .str rfl) (wk_of hX [0] 4 rfl rfl ⟨⟨_, rfl, cv0⟩, ⟨_, rfl, cv0⟩, ⟨_, rfl, cv0⟩, ⟨_, rfl, cv0⟩, ⟨_, rfl, cv0⟩, trivial⟩ ⟨cvo0, trivial⟩)) ?_ ?_
  · intro e st hx
    rcases o6 with s3 | _
    · obtain ⟨rfl, hw⟩ := hx
      refine ablock_here (athen_norm ((awc_wk hw) (awc_seq ?_)))
      refine awc_region ?_
      refine awl_v (av_move rfl) ?_
      obtain ⟨x8, e9, hr⟩ := bnd_some hr
      refine awl_v (av_callB (as' := [.osl 0, .str ([47] : Str)]) (fJoin_runs e9).x ent30 rfl ⟨cv0, cv0, trivial⟩ rfl rfl) ?_
      refine awl_v (av_assign rfl) ?_
      have hr := Option.some.inj hr
      subst hr
      exact awl_nil (athen_norm (awc_ret (ret_q (l' := [(2, .str x8)]) (wk_of hX [] 4 rfl rfl ⟨⟨_, rfl, cv0⟩, trivial⟩ trivial) rfl ⟨rfl, trivial⟩)))
    · exact hx.elim
  · rintro i1 s3 o ho
    refine awc_seq ?_
    refine awc_region ?_
    refine awl_v (av_lss rfl rfl) ?_
    refine awl_nil (athen_norm (awc_seq ?_))
    refine awc_cond (b := decide (i1 < (List.length p0 : Int))) rfl (fun hc10 => ?_) (fun hc10 => ?_)
    · obtain ⟨q, hr, rfl⟩ := rb_t hc10 ho
      refine awc_skip (athen_norm (awc_seq (awc_block (awc_seq ?_))))
      refine awc_region ?_
      obtain ⟨x11, e12, hr⟩ := bnd_some hr
      refine awl_v (av_ia_sl (t := Y1) (e := x11) und22 sz25 rfl rfl e12) ?_
      refine awl_v (av_load_rpN ts25 rfl rfl rfl) ?_
      refine awl_op (aop_alloc zero25 rfl ?_)
      refine awl_op (aop_store sz25 rfl rfl rfl rfl rfl rfl rfl ?_)
      refine awl_nil (athen_norm ?_)
      refine awc_region ?_
      refine awl_v (av_move rfl) ?_
      refine awl_v (av_load_ptrN ts25 rfl rfl rfl rfl) ?_
      obtain ⟨x13, e14, hr⟩ := bnd_some hr
      refine awl_v (av_call (f31_runs e14).x ent31 rfl rfl) ?_
      refine awl_v (av_buildSlice (t := .str) (qs := [(0, [.str x13])]) (ys := [x13]) bs67 rfl rfl rfl rfl rfl rfl rfl rfl) ?_
      obtain ⟨h15, hr⟩ := chk_some hr
      refine awl_op (aop_append rfl rfl app67 rfl rfl rfl h15 rfl ?_)
      refine awl_v (av_assign rfl) ?_
      refine awl_nil (ablock_norm (athen_norm ?_))
      refine awc_region ?_
      refine awl_v (av_add rfl rfl) ?_
      refine awl_v (av_move rfl) ?_
      have hr := Option.some.inj hr
      subst hr
      exact awl_nil ((wk_of hX [2] 4 rfl rfl ⟨⟨_, rfl, cv0⟩, ⟨_, rfl, cv0⟩, ⟨_, rfl, cv0⟩, ⟨_, rfl, cv0⟩, ⟨_, rfl, cv0⟩, trivial⟩ ⟨cvo0, trivial⟩))
    · obtain rfl := rb_f hc10 ho
      exact awc_exit (athen_exit (⟨rfl, (wk_of hX [0] 4 rfl rfl ⟨⟨_, rfl, cv0⟩, ⟨_, rfl, cv0⟩, trivial⟩ ⟨cvo0, trivial⟩)⟩))
theorem f6_runs {p0 : List (Str × Str)} {r : Str × Int} (hr : f6 p0 = some r) : RunsP Try.prog 6 [.sl Y1 p0] [.str r.1, .int .i64 r.2] := by
  refine runs_w Try.func6 Try.ntmps6 rfl (rs := [.tmp 2, .tmp 3]) rfl rfl fun w0 X hX => ?_
  refine awc_seq ?_
  refine awc_region ?_
  refine awl_v (av_assign rfl) ?_
  refine awl_v (av_assign rfl) ?_
  refine awl_nil (athen_norm (awc_seq (awc_seq ?_)))
  refine awc_region ?_
  refine awl_v (av_move rfl) ?_
  obtain ⟨x1, e2, hr⟩ := bnd_some hr
  refine awl_v (av_call (f10_runs e2).x ent10 rfl rfl) ?_
  refine awl_v (av_not rfl) ?_
  refine awl_nil (athen_norm ?_)
  refine awc_cond (b := !x1) rfl (fun hc3 => ?_) (fun hc3 => ?_)
  · have hr := if_t hc3 hr
    refine awc_seq ?_
    refine awc_region ?_
    refine awl_v (av_assign rfl) ?_
    refine awl_v (av_assign rfl) ?_
    have hr := Option.some.inj hr
    subst hr
    exact awl_nil (athen_norm (awc_ret (athen_ret (ret_q (l' := [(2, .str ([] : Str)), (3, .int .i64 1)]) (wk_of hX [] 4 rfl rfl ⟨⟨_, rfl, cv0⟩, ⟨_, rfl, cv0⟩, trivial⟩ trivial) rfl ⟨rfl, rfl, trivial⟩))))
  · have hr := if_f hc3 hr
    refine awc_skip (athen_norm (awc_seq ?_))
    refine awc_region ?_
    refine awl_v (av_move rfl) ?_
    obtain ⟨x4, e5, hr⟩ := bnd_some hr
    refine awl_v (av_call (f18_runs e5).x ent18 rfl rfl) ?_
    refine awl_v (av_assign rfl) ?_
    refine awl_v (av_assign rfl) ?_
    have hr := Option.some.inj hr
    subst hr
    exact awl_nil (athen_norm (awc_ret (ret_q (l' := [(2, .str x4), (3, .int .i64 0)]) (wk_of hX [] 4 rfl rfl ⟨⟨_, rfl, cv0⟩, ⟨_, rfl, cv0⟩, trivial⟩ trivial) rfl ⟨rfl, rfl, trivial⟩)))
theorem f8_runs {p0 : Str} {r : (List (Str × Str)) × Int} (hr : f8 p0 = some r) : RunsP Try.prog 8 [.str p0] [.sl Y1 r.1, .int .i64 r.2] := by
  refine runs_w Try.func8 Try.ntmps8 rfl (rs := [.tmp 2, .tmp 3]) rfl rfl fun w0 X hX => ?_
  refine awc_seq ?_
  refine awc_region ?_
  refine awl_v (av_assign rfl) ?_
  refine awl_v (av_assign rfl) ?_
  refine awl_nil (athen_norm (awc_seq (awc_seq ?_)))
  refine awc_region ?_
  refine awl_v (av_move rfl) ?_
  refine awl_v (av_len_str rfl rfl und9 rfl) ?_
  refine awl_v (av_gtr rfl rfl) ?_
  refine awl_nil (athen_norm ?_)
  refine awc_cond (b := decide (65536 < (List.length p0 : Int))) rfl (fun hc1 => ?_) (fun hc1 => ?_)
  · have hr := if_t hc1 hr
    refine awc_seq ?_
    refine awc_region ?_
    refine awl_v (av_assign rfl) ?_
    refine awl_v (av_assign rfl) ?_
    have hr := Option.some.inj hr
    subst hr
    exact awl_nil (athen_norm (awc_ret (athen_ret (ret_q (l' := [(2, .sl Y1 ([] : List (Str × Str))), (3, .int .i64 3)]) (wk_of hX [] 4 rfl rfl ⟨⟨_, rfl, cv2⟩, ⟨_, rfl, cv0⟩, trivial⟩ trivial) rfl ⟨rfl, rfl, trivial⟩))))
  · have hr := if_f hc1 hr
    refine awc_skip (athen_norm (awc_seq ?_))
    refine awc_region ?_
    refine awl_v (av_build (qs := []) (cs := [.str ([] : Str), .str ([] : Str)]) bt25 rfl rfl rfl) ?_
    refine awl_op (aop_buildSlice (t := Y1) (qs := [(0, [.str ([] : Str), .str ([] : Str)])]) (ys := [(([] : Str), ([] : Str))]) bs22 rfl rfl rfl rfl rfl rfl rfl rfl ?_)
    refine awl_v (av_assign rfl) ?_
    refine awl_nil (athen_norm (awc_seq ?_))
    refine awc_region ?_
    refine awl_v (av_assign rfl) ?_
    refine awl_nil (athen_norm (awc_seq (awc_seq ?_)))
    refine awc_region ?_
    refine awl_v (av_assign rfl) ?_
    refine awl_nil (athen_norm (awc_block ?_))
    obtain ⟨s10, e12, hr⟩ := bnd_some hr
    refine awc_loop (S := Bool × Int × (List (Str × Str))) (R := (List (Str × Str))) (fun p => match p with | (s2, s3, s4) => (⟨[(0, .str p0), (2, .nils), (3, .int .i64 0), (4, .osl 0), (5, .bool s2), (6, .int .i64 s3)], [(0, .sl 25 Y1 s4)], 1⟩ : AS)) (f8_b0 p0) (fun r e st => match r with | s10 => e = .exit 0 ∧ Wk X st ⟨[(0, .str p0), (2, .nils), (3, .int .i64 0), (4, .osl 0)], [(0, .sl 25 Y1 s10)], 1⟩) e12 (wk_of hX [0] 4 rfl rfl ⟨⟨_, rfl, cv0⟩, ⟨_, rfl, cv0⟩, ⟨_, rfl, cv0⟩, ⟨_, rfl, cv0⟩, ⟨_, rfl, cv0⟩, ⟨_, rfl, cv0⟩, trivial⟩ ⟨cvo0, trivial⟩) ?_ ?_
    · intro e st hx
      obtain ⟨rfl, hw⟩ := hx
      refine ablock_here (athen_norm ((awc_wk hw) (awc_seq (awc_seq ?_))))
      obtain ⟨x13, e14, hr⟩ := bnd_some hr
      obtain ⟨h15, hr⟩ := chk_some hr
      refine awc_text [0, 2, 3, 4] [(true, .osl 0), (true, .bool x13), (true, .bool (!x13)), (true, .bool (!x13)), (!(!x13), .osl 0), (!(!x13), .str ((f18 s10).getD default)), (!(!x13), .str p0), (!(!x13), .bool (!decide (((f18 s10).getD default) = p0))), (true, .bool ((!x13) || (!decide (((f18 s10).getD default) = p0))))] [[], [0], [1], [2], [3], [4, 3], [3], [5, 6, 3], [7, 3]] [8] rfl rfl rfl rfl rfl ⟨?_, ?_, ?_, ?_, ?_, ?_, ?_, ?_, ?_, trivial⟩ (allT_of ⟨rfl, trivial⟩) ?_
      · exact ob_v rfl (fun hg => allT_of trivial) (fun hg => av_move rfl)
      · exact ob_v rfl (fun hg => allT_of ⟨rfl, trivial⟩) (fun hg => av_callB (as' := [.osl 0]) (f10_runs e14).x ent10 rfl ⟨cv0, trivial⟩ rfl rfl)
      · exact ob_v rfl (fun hg => allT_of ⟨rfl, trivial⟩) (fun hg => av_not rfl)
      · exact ob_v rfl (fun hg => allT_of ⟨rfl, trivial⟩) (fun hg => av_move rfl)
      · exact ob_v ⟨rfl, rfl, rfl, _, rfl, rfl⟩ (fun hg => allT_of ⟨rfl, trivial⟩) (fun hg => av_move rfl)
      · exact ob_v ⟨rfl, rfl, rfl, _, rfl, rfl⟩ (fun hg => allT_of ⟨hg, rfl, trivial⟩) (fun hg => av_callB (as' := [.osl 0]) (f18_runs (get_g h15 hg)).x ent18 rfl ⟨cv0, trivial⟩ rfl rfl)
      · exact ob_v ⟨rfl, rfl, rfl, _, rfl, rfl⟩ (fun hg => allT_of ⟨rfl, trivial⟩) (fun hg => av_move rfl)
      · exact ob_v ⟨rfl, rfl, rfl, _, rfl, rfl⟩ (fun hg => allT_of ⟨hg, hg, rfl, trivial⟩) (fun hg => av_neqs rfl rfl)
      · exact ob_pick (b := false) (p := !x13) (q := !decide (((f18 s10).getD default) = p0)) rfl rfl rfl (fun hg => allT_of ⟨rfl, trivial⟩) rfl rfl rfl rfl rfl
      refine athen_norm ?_
      refine awc_cond (b := (!x13) || (!decide (((f18 s10).getD default) = p0))) rfl (fun hc16 => ?_) (fun hc16 => ?_)
      · have hr := if_t hc16 hr
        refine awc_seq ?_
        refine awc_region ?_
        refine awl_v (av_assign rfl) ?_
        refine awl_v (av_assign rfl) ?_
        have hr := Option.some.inj hr
        subst hr
        exact awl_nil (athen_norm (awc_ret (athen_ret (ret_q (l' := [(2, .sl Y1 ([] : List (Str × Str))), (3, .int .i64 2)]) (wk_of hX [] 4 rfl rfl ⟨⟨_, rfl, cv2⟩, ⟨_, rfl, cv0⟩, trivial⟩ trivial) rfl ⟨rfl, rfl, trivial⟩))))
      · have hr := if_f hc16 hr
        refine awc_skip (athen_norm (awc_seq ?_))
        refine awc_region ?_
        refine awl_v (av_move rfl) ?_
        refine awl_v (av_assign rfl) ?_
        refine awl_v (av_assign rfl) ?_
        have hr := Option.some.inj hr
        subst hr
        exact awl_nil (athen_norm (awc_ret (ret_q (l' := [(2, .sl Y1 s10), (3, .int .i64 0)]) (wk_of hX [] 4 rfl rfl ⟨⟨_, rfl, cv0⟩, ⟨_, rfl, cv0⟩, trivial⟩ trivial) rfl ⟨rfl, rfl, trivial⟩)))
    · rintro ⟨s2, s3, s4⟩ o hr
      refine awc_seq (awc_seq ?_)
      refine awc_region ?_
      refine awl_v (av_move rfl) ?_
      refine awl_v (av_move rfl) ?_
      refine awl_v (av_len_str rfl rfl und9 rfl) ?_
      refine awl_v (av_lss rfl rfl) ?_
      refine awl_nil (athen_norm ?_)
      refine awc_cond (b := decide (s3 < (List.length p0 : Int))) rfl (fun hc17 => ?_) (fun hc17 => ?_)
      · have hr := if_t hc17 hr
        refine awc_skip (athen_norm ?_)
        obtain ⟨o21, e22, hr⟩ := bnd_some hr
        refine awc_join (S := Bool × Int × (List (Str × Str))) (R := Unit) (fun s => match s with | (s18, s19, s20) => (⟨[(0, .str p0), (2, .nils), (3, .int .i64 0), (4, .osl 0), (5, .bool s18), (6, .int .i64 s19)], [(0, .sl 25 Y1 s20)], 1⟩ : AS)) (fun _ _ _ => False) e22 (fun hr => ?_) ?_ ?_
        · refine awc_block (awc_seq ?_)
          refine awc_region ?_
          refine awl_v (av_move rfl) ?_
          refine awl_v (av_move rfl) ?_
          refine awl_v (av_len_osl (t := Y1) rfl rfl und22 rfl rfl) ?_
          refine awl_v (av_sub rfl rfl) ?_
          obtain ⟨x23, e24, hr⟩ := bnd_some hr
          refine awl_v (av_ia_osl (t := Y1) und22 sz25 rfl rfl rfl e24) ?_
          refine awl_v (av_assign rfl) ?_
          refine awl_nil (athen_norm (awc_seq ?_))
          refine awc_region ?_
          refine awl_v (av_move rfl) ?_
          refine awl_v (av_move rfl) ?_
          refine awl_v (av_move rfl) ?_
          refine awl_v (av_add rfl rfl) ?_
          obtain ⟨h25, hr⟩ := chk_some hr
          refine awl_v (av_slice_str (l := s3) (h := (w64 (s3 + 1))) und9 rfl ⟨_, rfl⟩ ⟨_, rfl⟩ h25) ?_
          refine awl_v (av_assign rfl) ?_
          refine awl_nil (athen_norm ?_)
          obtain ⟨o30, e31, hr⟩ := bnd_some hr
          refine awc_join (S := Int × Str) (R := Bool × (List (Str × Str))) (fun s => match s with | (s26, s27) => (⟨[(0, .str p0), (2, .nils), (3, .int .i64 0), (4, .osl 0), (5, .bool s2), (6, .int .i64 s26), (7, .ep 0 2 (Int.toNat (w64 ((List.length s4 : Int) - 1))) 0), (8, .str s27)], [(0, .sl 25 Y1 s4)], 1⟩ : AS)) (fun r e st => match r with | (s28, s29) => e = .exit 1 ∧ Wk X st ⟨[(0, .str p0), (2, .nils), (3, .int .i64 0), (4, .osl 0), (5, .bool s28), (6, .int .i64 s3), (7, .any), (8, .str ((p0.take (Int.toNat (w64 (s3 + 1)))).drop (Int.toNat s3)))], [(0, .sl 25 Y1 s29)], 1⟩) e31 (fun hr => ?_) ?_ ?_
          · refine awc_block (awc_seq ?_)
            refine awc_region ?_
            refine awl_v (av_move rfl) ?_
            refine awl_v (av_eqls rfl rfl) ?_
            refine awl_v (av_assign rfl) ?_
            refine awl_nil (athen_norm ?_)
            refine awc_cond (b := decide (((p0.take (Int.toNat (w64 (s3 + 1)))).drop (Int.toNat s3)) = ([47] : Str))) rfl (fun hc32 => ?_) (fun hc32 => ?_)
            · have hr := if_t hc32 hr
              refine awc_seq ?_
              refine awc_region ?_
              refine awl_v (av_move rfl) ?_
              refine awl_v (av_build (qs := []) (cs := [.str ([] : Str), .str ([] : Str)]) bt25 rfl rfl rfl) ?_
              refine awl_v (av_buildSlice (t := Y1) (qs := [(0, [.str ([] : Str), .str ([] : Str)])]) (ys := [(([] : Str), ([] : Str))]) bs22 rfl rfl rfl rfl rfl rfl rfl rfl) ?_
              obtain ⟨h33, hr⟩ := chk_some hr
              refine awl_op (aop_append rfl rfl app22 rfl rfl rfl h33 rfl ?_)
              refine awl_v (av_assign rfl) ?_
              refine awl_nil (athen_norm (awc_seq ?_))
              refine awc_region ?_
              refine awl_v (av_assign rfl) ?_
              have hr := Option.some.inj hr
              subst hr
              exact awl_nil (athen_norm (awc_exit ((ablock_far rfl) (⟨rfl, (wk_of hX [1] 4 rfl rfl ⟨⟨_, rfl, cv0⟩, ⟨_, rfl, cv0⟩, ⟨_, rfl, cv0⟩, ⟨_, rfl, cv0⟩, ⟨_, rfl, cv0⟩, ⟨_, rfl, cv0⟩, ⟨_, rfl, cv1⟩, ⟨_, rfl, cv0⟩, trivial⟩ ⟨cvo0, trivial⟩)⟩))))
            · have hr := if_f hc32 hr
              refine awc_seq ?_
              refine awc_text [0, 2, 3, 4, 5, 6, 7, 8] [(true, .str ((p0.take (Int.toNat (w64 (s3 + 1)))).drop (Int.toNat s3))), (true, .bool (decide (((p0.take (Int.toNat (w64 (s3 + 1)))).drop (Int.toNat s3)) = ([46] : Str)))), (true, .bool (decide (((p0.take (Int.toNat (w64 (s3 + 1)))).drop (Int.toNat s3)) = ([46] : Str)))), (decide (((p0.take (Int.toNat (w64 (s3 + 1)))).drop (Int.toNat s3)) = ([46] : Str)), .bool s2), (decide (((p0.take (Int.toNat (w64 (s3 + 1)))).drop (Int.toNat s3)) = ([46] : Str)), .bool (!s2)), (true, .bool ((decide (((p0.take (Int.toNat (w64 (s3 + 1)))).drop (Int.toNat s3)) = ([46] : Str))) && (!s2))), (true, .bool ((decide (((p0.take (Int.toNat (w64 (s3 + 1)))).drop (Int.toNat s3)) = ([46] : Str))) && (!s2)))] [[], [0], [1], [2], [3, 2], [4, 2], [5]] [6] rfl rfl rfl rfl rfl ⟨?_, ?_, ?_, ?_, ?_, ?_, ?_, trivial⟩ (allT_of ⟨rfl, trivial⟩) ?_
              · exact ob_v rfl (fun hg => allT_of trivial) (fun hg => av_move rfl)
              · exact ob_v rfl (fun hg => allT_of ⟨rfl, trivial⟩) (fun hg => av_eqls rfl rfl)
              · exact ob_v rfl (fun hg => allT_of ⟨rfl, trivial⟩) (fun hg => av_move rfl)
              · exact ob_v ⟨rfl, rfl, rfl, _, rfl, rfl⟩ (fun hg => allT_of ⟨rfl, trivial⟩) (fun hg => av_move rfl)
              · exact ob_v ⟨rfl, rfl, rfl, _, rfl, rfl⟩ (fun hg => allT_of ⟨hg, rfl, trivial⟩) (fun hg => av_not rfl)
              · exact ob_pick (b := true) (p := decide (((p0.take (Int.toNat (w64 (s3 + 1)))).drop (Int.toNat s3)) = ([46] : Str))) (q := !s2) rfl rfl rfl (fun hg => allT_of ⟨rfl, trivial⟩) rfl rfl rfl rfl rfl
              · exact ob_v rfl (fun hg => allT_of ⟨rfl, trivial⟩) (fun hg => av_assign rfl)
              refine athen_norm ?_
              refine awc_cond (b := (decide (((p0.take (Int.toNat (w64 (s3 + 1)))).drop (Int.toNat s3)) = ([46] : Str))) && (!s2)) rfl (fun hc34 => ?_) (fun hc34 => ?_)
              · have hr := if_t hc34 hr
                refine awc_seq ?_
                refine awc_region ?_
                refine awl_v (av_assign rfl) ?_
                have hr := Option.some.inj hr
                subst hr
                exact awl_nil (athen_norm (awc_exit ((ablock_far rfl) (⟨rfl, (wk_of hX [0] 4 rfl rfl ⟨⟨_, rfl, cv0⟩, ⟨_, rfl, cv0⟩, ⟨_, rfl, cv0⟩, ⟨_, rfl, cv0⟩, ⟨_, rfl, cv0⟩, ⟨_, rfl, cv0⟩, ⟨_, rfl, cv1⟩, ⟨_, rfl, cv0⟩, trivial⟩ ⟨cvo0, trivial⟩)⟩))))
              · have hr := if_f hc34 hr
                refine awc_seq ?_
                refine awc_text [0, 2, 3, 4, 5, 6, 7, 8] [(true, .str ((p0.take (Int.toNat (w64 (s3 + 1)))).drop (Int.toNat s3))), (true, .bool (decide (((p0.take (Int.toNat (w64 (s3 + 1)))).drop (Int.toNat s3)) = ([92] : Str)))), (true, .bool (decide (((p0.take (Int.toNat (w64 (s3 + 1)))).drop (Int.toNat s3)) = ([92] : Str)))), (decide (((p0.take (Int.toNat (w64 (s3 + 1)))).drop (Int.toNat s3)) = ([92] : Str)), .int .i64 s3), (decide (((p0.take (Int.toNat (w64 (s3 + 1)))).drop (Int.toNat s3)) = ([92] : Str)), .int .i64 (w64 (s3 + 1))), (decide (((p0.take (Int.toNat (w64 (s3 + 1)))).drop (Int.toNat s3)) = ([92] : Str)), .str p0), (decide (((p0.take (Int.toNat (w64 (s3 + 1)))).drop (Int.toNat s3)) = ([92] : Str)), .int .i64 (List.length p0 : Int)), (decide (((p0.take (Int.toNat (w64 (s3 + 1)))).drop (Int.toNat s3)) = ([92] : Str)), .bool (decide ((w64 (s3 + 1)) < (List.length p0 : Int)))), (true, .bool ((decide (((p0.take (Int.toNat (w64 (s3 + 1)))).drop (Int.toNat s3)) = ([92] : Str))) && (decide ((w64 (s3 + 1)) < (List.length p0 : Int))))), (true, .bool ((decide (((p0.take (Int.toNat (w64 (s3 + 1)))).drop (Int.toNat s3)) = ([92] : Str))) && (decide ((w64 (s3 + 1)) < (List.length p0 : Int)))))] [[], [0], [1], [2], [3, 2], [2], [5, 2], [4, 6, 2], [7, 2], [8]] [9] rfl rfl rfl rfl rfl ⟨?_, ?_, ?_, ?_, ?_, ?_, ?_, ?_, ?_, ?_, trivial⟩ (allT_of ⟨rfl, trivial⟩) ?_
                · exact ob_v rfl (fun hg => allT_of trivial) (fun hg => av_move rfl)
                · exact ob_v rfl (fun hg => allT_of ⟨rfl, trivial⟩) (fun hg => av_eqls rfl rfl)
                · exact ob_v rfl (fun hg => allT_of ⟨rfl, trivial⟩) (fun hg => av_move rfl)
                · exact ob_v ⟨rfl, rfl, rfl, _, rfl, rfl⟩ (fun hg => allT_of ⟨rfl, trivial⟩) (fun hg => av_move rfl)
                · exact ob_v ⟨rfl, rfl, rfl, _, rfl, rfl⟩ (fun hg => allT_of ⟨hg, rfl, trivial⟩) (fun hg => av_add rfl rfl)
                · exact ob_v ⟨rfl, rfl, rfl, _, rfl, rfl⟩ (fun hg => allT_of ⟨rfl, trivial⟩) (fun hg => av_move rfl)
                · exact ob_v ⟨rfl, rfl, rfl, _, rfl, rfl⟩ (fun hg => allT_of ⟨hg, rfl, trivial⟩) (fun hg => av_len_str rfl rfl und9 rfl)
                · exact ob_v ⟨rfl, rfl, rfl, _, rfl, rfl⟩ (fun hg => allT_of ⟨hg, hg, rfl, trivial⟩) (fun hg => av_lss rfl rfl)
                · exact ob_pick (b := true) (p := decide (((p0.take (Int.toNat (w64 (s3 + 1)))).drop (Int.toNat s3)) = ([92] : Str))) (q := decide ((w64 (s3 + 1)) < (List.length p0 : Int))) rfl rfl rfl (fun hg => allT_of ⟨rfl, trivial⟩) rfl rfl rfl rfl rfl
                · exact ob_v rfl (fun hg => allT_of ⟨rfl, trivial⟩) (fun hg => av_assign rfl)
                refine athen_norm ?_
                refine awc_cond (b := (decide (((p0.take (Int.toNat (w64 (s3 + 1)))).drop (Int.toNat s3)) = ([92] : Str))) && (decide ((w64 (s3 + 1)) < (List.length p0 : Int)))) rfl (fun hc35 => ?_) (fun hc35 => ?_)
                · have hr := if_t hc35 hr
                  refine awc_seq ?_
                  refine awc_region ?_
                  refine awl_v (av_move rfl) ?_
                  refine awl_v (av_add rfl rfl) ?_
                  refine awl_v (av_assign rfl) ?_
                  refine awl_nil (athen_norm ?_)
                  refine awc_region ?_
                  refine awl_v (av_move rfl) ?_
                  refine awl_v (av_move rfl) ?_
                  refine awl_v (av_move rfl) ?_
                  refine awl_v (av_add rfl rfl) ?_
                  obtain ⟨h36, hr⟩ := chk_some hr
                  refine awl_v (av_slice_str (l := (w64 (s3 + 1))) (h := (w64 ((w64 (s3 + 1)) + 1))) und9 rfl ⟨_, rfl⟩ ⟨_, rfl⟩ h36) ?_
                  refine awl_v (av_assign rfl) ?_
                  have hr := Option.some.inj hr
                  subst hr
                  exact awl_nil (ablock_norm ((wk_of hX [0] 4 rfl rfl ⟨⟨_, rfl, cv0⟩, ⟨_, rfl, cv0⟩, ⟨_, rfl, cv0⟩, ⟨_, rfl, cv0⟩, ⟨_, rfl, cv0⟩, ⟨_, rfl, cv0⟩, ⟨_, rfl, cv0⟩, ⟨_, rfl, cv0⟩, trivial⟩ ⟨cvo0, trivial⟩)))
                · have hr := if_f hc35 hr
                  have hr := Option.some.inj hr
                  subst hr
                  exact awc_skip (ablock_norm ((wk_of hX [0] 4 rfl rfl ⟨⟨_, rfl, cv0⟩, ⟨_, rfl, cv0⟩, ⟨_, rfl, cv0⟩, ⟨_, rfl, cv0⟩, ⟨_, rfl, cv0⟩, ⟨_, rfl, cv0⟩, ⟨_, rfl, cv0⟩, ⟨_, rfl, cv0⟩, trivial⟩ ⟨cvo0, trivial⟩)))
          · rintro ⟨s26, s27⟩ rfl
            refine awc_seq ?_
            refine awc_region ?_
            refine awl_v (av_move rfl) ?_
            refine awl_nil (athen_norm ?_)
            refine awc_cond (b := s2) rfl (fun hc37 => ?_) (fun hc37 => ?_)
            · have hr := if_t hc37 hr
              refine awc_region ?_
              refine awl_v (av_move rfl) ?_
              refine awl_v (av_nilCheck_ep rfl) ?_
              refine awl_v (av_fa_ep fa25_1 rfl rfl) ?_
              obtain ⟨x38, e39, hr⟩ := bnd_some hr
              refine awl_v (av_load_ep ts9 rfl rfl rfl (ix_at e39) rfl) ?_
              refine awl_v (av_move rfl) ?_
              obtain ⟨h40, hr⟩ := chk_some hr
              refine awl_v (av_adds rfl rfl h40) ?_
              refine awl_v (av_nilCheck_ep rfl) ?_
              refine awl_v (av_fa_ep fa25_1 rfl rfl) ?_
              refine awl_op (aop_store_ep (e' := (x38.1, (x38.2 ++ s27))) sz9 rfl rfl rfl rfl (ix_at e39) rfl rfl rfl rfl rfl ?_)
              have hr := Option.some.inj hr
              subst hr
              exact awl_nil (ablock_norm ((wk_of hX [0] 4 rfl rfl ⟨⟨_, rfl, cv0⟩, ⟨_, rfl, cv0⟩, ⟨_, rfl, cv0⟩, ⟨_, rfl, cv0⟩, ⟨_, rfl, cv0⟩, ⟨_, rfl, cv0⟩, trivial⟩ ⟨cvo0, trivial⟩)))
            · have hr := if_f hc37 hr
              refine awc_region ?_
              refine awl_v (av_move rfl) ?_
              refine awl_v (av_nilCheck_ep rfl) ?_
              refine awl_v (av_fa_ep fa25_0 rfl rfl) ?_
              obtain ⟨x41, e42, hr⟩ := bnd_some hr
              refine awl_v (av_load_ep ts9 rfl rfl rfl (ix_at e42) rfl) ?_
              refine awl_v (av_move rfl) ?_
              obtain ⟨h43, hr⟩ := chk_some hr
              refine awl_v (av_adds rfl rfl h43) ?_
              refine awl_v (av_nilCheck_ep rfl) ?_
              refine awl_v (av_fa_ep fa25_0 rfl rfl) ?_
              refine awl_op (aop_store_ep (e' := ((x41.1 ++ s27), x41.2)) sz9 rfl rfl rfl rfl (ix_at e42) rfl rfl rfl rfl rfl ?_)
              have hr := Option.some.inj hr
              subst hr
              exact awl_nil (ablock_norm ((wk_of hX [0] 4 rfl rfl ⟨⟨_, rfl, cv0⟩, ⟨_, rfl, cv0⟩, ⟨_, rfl, cv0⟩, ⟨_, rfl, cv0⟩, ⟨_, rfl, cv0⟩, ⟨_, rfl, cv0⟩, trivial⟩ ⟨cvo0, trivial⟩)))
          · rintro r rfl e st hne hx
            obtain ⟨s28, s29⟩ := r
            obtain ⟨rfl, hw⟩ := hx
            have hr := Option.some.inj hr
            subst hr
            exact ablock_here ((Wk.trans hw (wk_of hX [0] 4 rfl rfl ⟨⟨_, rfl, cv0⟩, ⟨_, rfl, cv0⟩, ⟨_, rfl, cv0⟩, ⟨_, rfl, cv0⟩, ⟨_, rfl, cv0⟩, ⟨_, rfl, cv0⟩, trivial⟩ ⟨cvo0, trivial⟩)))
        · rintro ⟨s18, s19, s20⟩ rfl
          refine awc_region ?_
          refine awl_v (av_move rfl) ?_
          refine awl_v (av_add rfl rfl) ?_
          refine awl_v (av_assign rfl) ?_
          have hr := Option.some.inj hr
          subst hr
          exact awl_nil ((wk_of hX [0] 4 rfl rfl ⟨⟨_, rfl, cv0⟩, ⟨_, rfl, cv0⟩, ⟨_, rfl, cv0⟩, ⟨_, rfl, cv0⟩, ⟨_, rfl, cv0⟩, ⟨_, rfl, cv0⟩, trivial⟩ ⟨cvo0, trivial⟩))
        · exact fun r h e st hne hx => hx.elim
      · have hr := if_f hc17 hr
        have hr := Option.some.inj hr
        subst hr
        exact awc_exit (athen_exit (⟨rfl, (wk_of hX [0] 4 rfl rfl ⟨⟨_, rfl, cv0⟩, ⟨_, rfl, cv0⟩, ⟨_, rfl, cv0⟩, ⟨_, rfl, cv0⟩, trivial⟩ ⟨cvo0, trivial⟩)⟩))
theorem f11_runs {p0 : List (Str × Str)} {p1 : List (Str × Str)} {r : Bool} (hr : f11 p0 p1 = some r) : RunsP Try.prog 11 [.sl Y1 p0, .sl Y1 p1] [.bool r] := by
  refine runs_w Try.func11 Try.ntmps11 rfl (rs := [.tmp 4]) rfl rfl fun w0 X hX => ?_
  refine awc_seq ?_
  refine awc_region ?_
  refine awl_v (av_assign rfl) ?_
  refine awl_nil (athen_norm (awc_seq (awc_seq ?_)))
  refine awc_region ?_
  refine awl_v (av_move rfl) ?_
  refine awl_v (av_len_sl (t := Y1) rfl rfl und22 rfl) ?_
  refine awl_v (av_move rfl) ?_
  refine awl_v (av_len_sl (t := Y1) rfl rfl und22 rfl) ?_
  refine awl_v (av_neq rfl rfl) ?_
  refine awl_nil (athen_norm ?_)
  refine awc_cond (b := !decide ((List.length p0 : Int) = (List.length p1 : Int))) rfl (fun hc1 => ?_) (fun hc1 => ?_)
  · have hr := if_t hc1 hr
    refine awc_seq ?_
    refine awc_region ?_
    refine awl_v (av_assign rfl) ?_
    have hr := Option.some.inj hr
    subst hr
    exact awl_nil (athen_norm (awc_ret (athen_ret (ret_q (l' := [(4, .bool false)]) (wk_of hX [] 4 rfl rfl ⟨⟨_, rfl, cv0⟩, trivial⟩ trivial) rfl ⟨rfl, trivial⟩))))
  · have hr := if_f hc1 hr
    refine awc_skip (athen_norm (awc_seq (awc_seq ?_)))
    refine awc_region ?_
    refine awl_v (av_move rfl) ?_
    refine awl_v (av_len_sl (t := Y1) rfl rfl und22 rfl) ?_
    refine awl_v (av_move rfl) ?_
    refine awl_nil (athen_norm (awc_block ?_))
    obtain ⟨o4, e5, hr⟩ := bnd_some hr
    refine awc_len (t := 0) rfl (fun hl => ?_)
    refine awc_range (S := Unit) (R := Unit) (List.length p0 : Int) (f11_b0 p0 p1) (fun p => match p with | (i2, ()) => (⟨[(0, .sl Y1 p0), (1, .sl Y1 p1), (4, .bool false), (12, .int .i64 (List.length p0 : Int)), (13, .int .i64 i2)], [], 0⟩ : AS)) (fun o e st => match o with | .inl () => e = .exit 0 ∧ Wk X st ⟨[(4, .bool false)], [], 0⟩ | .inr () => e = .ret ∧ Wk X st ⟨[(4, .bool false)], [], 0⟩) (len_ok hl) e5 (wk_of hX [] 4 rfl rfl ⟨⟨_, rfl, cv0⟩, ⟨_, rfl, cv0⟩, ⟨_, rfl, cv0⟩, ⟨_, rfl, cv0⟩, ⟨_, rfl, cv0⟩, trivial⟩ trivial) ?_ ?_
    · intro e st hx
      rcases o4 with _ | _
      · obtain ⟨rfl, hw⟩ := hx
        refine ablock_here (athen_norm ((awc_wk hw) (awc_seq ?_)))
        refine awc_region ?_
        refine awl_v (av_assign rfl) ?_
        have hr := Option.some.inj hr
        subst hr
        exact awl_nil (athen_norm (awc_ret (ret_q (l' := [(4, .bool true)]) (wk_of hX [] 4 rfl rfl ⟨⟨_, rfl, cv0⟩, trivial⟩ trivial) rfl ⟨rfl, trivial⟩)))
      · obtain ⟨rfl, hw⟩ := hx
        have hr := Option.some.inj hr
        subst hr
        exact ablock_ret (athen_ret (ret_q (l' := [(4, .bool false)]) (Wk.trans hw (wk_of hX [] 4 rfl rfl ⟨⟨_, rfl, cv0⟩, trivial⟩ trivial)) rfl ⟨rfl, trivial⟩))
    · rintro i2 _ o ho
      refine awc_seq ?_
      refine awc_region ?_
      refine awl_v (av_lss rfl rfl) ?_
      refine awl_nil (athen_norm (awc_seq ?_))
      refine awc_cond (b := decide (i2 < (List.length p0 : Int))) rfl (fun hc6 => ?_) (fun hc6 => ?_)
      · obtain ⟨q, hr, rfl⟩ := rb_t hc6 ho
        refine awc_skip (athen_norm (awc_seq (awc_block (awc_seq ?_))))
        refine awc_region ?_
        refine awl_v (av_move rfl) ?_
        refine awl_v (av_assign rfl) ?_
        refine awl_nil (athen_norm (awc_seq ?_))
        obtain ⟨x7, e8, hr⟩ := bnd_some hr
        obtain ⟨x9, e10, hr⟩ := bnd_some hr
        refine awc_draw mixed [0, 1, 4, 12, 13, 5] [(true, .sl Y1 p0), (true, .int .i64 i2), (true, .rp [.str x7.1, .str x7.2]), (true, .agg [.str x7.1, .str x7.2]), (true, .sl Y1 p1), (true, .int .i64 i2), (true, .rp [.str x9.1, .str x9.2]), (true, .agg [.str x9.1, .str x9.2]), (true, .bool (!((decide (bstr x7.1 = bstr x9.1)) && (decide (bstr x7.2 = bstr x9.2)))))] [[], [], [0, 1], [2], [], [], [4, 5], [6], [3, 7]] [8] rfl rfl rfl rfl rfl ⟨?_, ?_, ?_, ?_, ?_, ?_, ?_, ?_, ?_, trivial⟩ (allT_of ⟨rfl, trivial⟩) ?_
        · exact ob_v rfl (fun hg => allT_of trivial) (fun hg => av_move rfl)
        · exact ob_v rfl (fun hg => allT_of trivial) (fun hg => av_move rfl)
        · exact ob_v rfl (fun hg => allT_of ⟨rfl, rfl, trivial⟩) (fun hg => av_ia_sl (t := Y1) (e := x7) und22 sz25 rfl rfl e8)
        · exact ob_v rfl (fun hg => allT_of ⟨rfl, trivial⟩) (fun hg => av_load_rpN ts25 rfl rfl rfl)
        · exact ob_v rfl (fun hg => allT_of trivial) (fun hg => av_move rfl)
        · exact ob_v rfl (fun hg => allT_of trivial) (fun hg => av_move rfl)
        · exact ob_v rfl (fun hg => allT_of ⟨rfl, rfl, trivial⟩) (fun hg => av_ia_sl (t := Y1) (e := x9) und22 sz25 rfl rfl e10)
        · exact ob_v rfl (fun hg => allT_of ⟨rfl, trivial⟩) (fun hg => av_load_rpN ts25 rfl rfl rfl)
        · exact ob_v rfl (fun hg => allT_of ⟨rfl, rfl, trivial⟩) (fun hg => av_neqA (r := (decide (bstr x7.1 = bstr x9.1)) && (decide (bstr x7.2 = bstr x9.2))) eq25 rfl rfl rfl rfl rfl rfl)
        refine athen_norm ?_
        refine awc_cond (b := !((decide (bstr x7.1 = bstr x9.1)) && (decide (bstr x7.2 = bstr x9.2)))) rfl (fun hc11 => ?_) (fun hc11 => ?_)
        · have hr := if_t hc11 hr
          refine awc_seq ?_
          refine awc_region ?_
          refine awl_v (av_assign rfl) ?_
          have hr := Option.some.inj hr
          subst hr
          exact awl_nil (athen_norm (awc_ret (ablock_ret (athen_ret (⟨rfl, (wk_of hX [] 4 rfl rfl ⟨⟨_, rfl, cv0⟩, trivial⟩ trivial)⟩)))))
        · have hr := if_f hc11 hr
          refine awc_skip (ablock_norm (athen_norm ?_))
          refine awc_region ?_
          refine awl_v (av_add rfl rfl) ?_
          refine awl_v (av_move rfl) ?_
          have hr := Option.some.inj hr
          subst hr
          exact awl_nil ((wk_of hX [] 4 rfl rfl ⟨⟨_, rfl, cv0⟩, ⟨_, rfl, cv0⟩, ⟨_, rfl, cv0⟩, ⟨_, rfl, cv0⟩, ⟨_, rfl, cv0⟩, trivial⟩ trivial))
      · obtain rfl := rb_f hc6 ho
        exact awc_exit (athen_exit (⟨rfl, (wk_of hX [] 4 rfl rfl ⟨⟨_, rfl, cv0⟩, trivial⟩ trivial)⟩))
theorem f35_runs {p0 : List Int} {r : Int} (hr : f35 p0 = some r) : RunsP Try.prog 35 [.sl (.int .i64) p0] [.int .i64 r] := by
  refine runs_w Try.func35 Try.ntmps35 rfl (rs := [.tmp 2]) rfl rfl fun w0 X hX => ?_
  refine awc_seq ?_
  refine awc_region ?_
  refine awl_v (av_assign rfl) ?_
  refine awl_nil (athen_norm (awc_seq ?_))
  refine awc_region ?_
  refine awl_v (av_assign rfl) ?_
  refine awl_nil (athen_norm (awc_seq (awc_seq ?_)))
  refine awc_region ?_
  refine awl_v (av_move rfl) ?_
  refine awl_v (av_len_sl (t := (.int .i64)) rfl rfl und92 rfl) ?_
  refine awl_v (av_move rfl) ?_
  refine awl_nil (athen_norm (awc_block ?_))
  obtain ⟨o4, e5, hr⟩ := bnd_some hr
  refine awc_len (t := 0) rfl (fun hl => ?_)
  refine awc_range (S := Unit) (R := Int) (List.length p0 : Int) (f35_b0 p0) (fun p => match p with | (i1, ()) => (⟨[(2, .int .i64 0), (3, .int .i64 0), (6, .sl (.int .i64) p0), (7, .int .i64 (List.length p0 : Int)), (8, .int .i64 i1)], [], 0⟩ : AS)) (fun o e st => match o with | .inl () => e = .exit 0 ∧ Wk X st ⟨[(2, .int .i64 0), (3, .int .i64 0)], [], 0⟩ | .inr s3 => e = .ret ∧ Wk X st ⟨[(2, .int .i64 s3)], [], 0⟩) (len_ok hl) e5 (wk_of hX [] 4 rfl rfl ⟨⟨_, rfl, cv0⟩, ⟨_, rfl, cv0⟩, ⟨_, rfl, cv0⟩, ⟨_, rfl, cv0⟩, ⟨_, rfl, cv0⟩, trivial⟩ trivial) ?_ ?_
  · intro e st hx
    rcases o4 with _ | s3
    · obtain ⟨rfl, hw⟩ := hx
      refine ablock_here (athen_norm ((awc_wk hw) (awc_seq ?_)))
      refine awc_region ?_
      refine awl_v (av_move rfl) ?_
      refine awl_v (av_assign rfl) ?_
      have hr := Option.some.inj hr
      subst hr
      exact awl_nil (athen_norm (awc_ret (ret_q (l' := [(2, .int .i64 0)]) (wk_of hX [] 4 rfl rfl ⟨⟨_, rfl, cv0⟩, trivial⟩ trivial) rfl ⟨rfl, trivial⟩)))
    · obtain ⟨rfl, hw⟩ := hx
      have hr := Option.some.inj hr
      subst hr
      exact ablock_ret (athen_ret (ret_q (l' := [(2, .int .i64 s3)]) (Wk.trans hw (wk_of hX [] 4 rfl rfl ⟨⟨_, rfl, cv0⟩, trivial⟩ trivial)) rfl ⟨rfl, trivial⟩))
  · rintro i1 _ o ho
    refine awc_seq ?_
    refine awc_region ?_
    refine awl_v (av_lss rfl rfl) ?_
    refine awl_nil (athen_norm (awc_seq ?_))
    refine awc_cond (b := decide (i1 < (List.length p0 : Int))) rfl (fun hc6 => ?_) (fun hc6 => ?_)
    · obtain ⟨q, hr, rfl⟩ := rb_t hc6 ho
      refine awc_skip (athen_norm (awc_seq (awc_block (awc_seq ?_))))
      refine awc_region ?_
      obtain ⟨x7, e8, hr⟩ := bnd_some hr
      refine awl_v (av_ia_sl (t := (.int .i64)) (e := x7) und92 sz3 rfl rfl e8) ?_
      refine awl_v (av_load_rp ts3 rfl) ?_
      refine awl_v (av_assign rfl) ?_
      refine awl_nil (athen_norm (awc_seq ?_))
      refine awc_region ?_
      refine awl_v (av_move rfl) ?_
      refine awl_v (av_move rfl) ?_
      refine awl_v (av_neq rfl rfl) ?_
      refine awl_nil (athen_norm ?_)
      refine awc_cond (b := !decide (x7 = 0)) rfl (fun hc9 => ?_) (fun hc9 => ?_)
      · have hr := if_t hc9 hr
        refine awc_seq ?_
        refine awc_region ?_
        refine awl_v (av_move rfl) ?_
        refine awl_v (av_assign rfl) ?_
        have hr := Option.some.inj hr
        subst hr
        exact awl_nil (athen_norm (awc_ret (ablock_ret (athen_ret (⟨rfl, (wk_of hX [] 4 rfl rfl ⟨⟨_, rfl, cv0⟩, trivial⟩ trivial)⟩)))))
      · have hr := if_f hc9 hr
        refine awc_skip (ablock_norm (athen_norm ?_))
        refine awc_region ?_
        refine awl_v (av_add rfl rfl) ?_
        refine awl_v (av_move rfl) ?_
        have hr := Option.some.inj hr
        subst hr
        exact awl_nil ((wk_of hX [] 4 rfl rfl ⟨⟨_, rfl, cv0⟩, ⟨_, rfl, cv0⟩, ⟨_, rfl, cv0⟩, ⟨_, rfl, cv0⟩, ⟨_, rfl, cv0⟩, trivial⟩ trivial))
    · obtain rfl := rb_f hc6 ho
      exact awc_exit (athen_exit (⟨rfl, (wk_of hX [] 4 rfl rfl ⟨⟨_, rfl, cv0⟩, ⟨_, rfl, cv0⟩, trivial⟩ trivial)⟩))
theorem f23_runs {p0 : Str × Str} {p1 : Str × Str} {r : Int} (hr : f23 p0 p1 = some r) : RunsP Try.prog 23 [.agg [.str p0.1, .str p0.2], .agg [.str p1.1, .str p1.2]] [.int .i64 r] := by
  refine runs_w Try.func23 Try.ntmps23 rfl (rs := [.tmp 4]) rfl rfl fun w0 X hX => ?_
  refine awc_seq ?_
  refine awc_region ?_
  refine awl_op (aop_box rfl rfl ?_)
  refine awl_op (aop_box rfl rfl ?_)
  refine awl_v (av_assign rfl) ?_
  refine awl_nil (athen_norm (awc_seq ?_))
  obtain ⟨x1, e2, hr⟩ := bnd_some hr
  obtain ⟨x3, e4, hr⟩ := bnd_some hr
  obtain ⟨x5, e6, hr⟩ := bnd_some hr
  refine awc_draw mixed [2, 3] [(true, .ptr 0 0), (true, .str p0.1), (true, .ptr 1 0), (true, .str p1.1), (true, .int .i64 x1), (true, .ptr 0 1), (true, .str p0.2), (true, .ptr 1 1), (true, .str p1.2), (true, .int .i64 x3), (true, .sl (.int .i64) [x1, x3]), (true, .int .i64 x5), (true, .int .i64 x5)] [[], [0], [], [2], [1, 3], [], [5], [], [7], [6, 8], [4, 9], [10], [11]] [12] rfl rfl rfl rfl rfl ⟨?_, ?_, ?_, ?_, ?_, ?_, ?_, ?_, ?_, ?_, ?_, ?_, ?_, trivial⟩ (allT_of ⟨rfl, trivial⟩) ?_
  · exact ob_v rfl (fun hg => allT_of trivial) (fun hg => av_fa_ptr fa25_0 rfl rfl)
  · exact ob_v rfl (fun hg => allT_of ⟨rfl, trivial⟩) (fun hg => av_load_ptr ts9 rfl rfl rfl)
  · exact ob_v rfl (fun hg => allT_of trivial) (fun hg => av_fa_ptr fa25_0 rfl rfl)
  · exact ob_v rfl (fun hg => allT_of ⟨rfl, trivial⟩) (fun hg => av_load_ptr ts9 rfl rfl rfl)
  · exact ob_v rfl (fun hg => allT_of ⟨rfl, rfl, trivial⟩) (fun hg => av_call (fCmp_runs e2).x ent24 rfl rfl)
  · exact ob_v rfl (fun hg => allT_of trivial) (fun hg => av_fa_ptr fa25_1 rfl rfl)
  · exact ob_v rfl (fun hg => allT_of ⟨rfl, trivial⟩) (fun hg => av_load_ptr ts9 rfl rfl rfl)
  · exact ob_v rfl (fun hg => allT_of trivial) (fun hg => av_fa_ptr fa25_1 rfl rfl)
  · exact ob_v rfl (fun hg => allT_of ⟨rfl, trivial⟩) (fun hg => av_load_ptr ts9 rfl rfl rfl)
  · exact ob_v rfl (fun hg => allT_of ⟨rfl, rfl, trivial⟩) (fun hg => av_call (fCmp_runs e4).x ent24 rfl rfl)
  · exact ob_v rfl (fun hg => allT_of ⟨rfl, rfl, trivial⟩) (fun hg => av_buildSlice (t := (.int .i64)) (qs := [(0, [.int .i64 x1]), (1, [.int .i64 x3])]) (ys := [x1, x3]) bs92 rfl rfl rfl rfl rfl rfl rfl rfl)
  · exact ob_v rfl (fun hg => allT_of ⟨rfl, trivial⟩) (fun hg => av_call (f35_runs e6).x ent35 rfl rfl)
  · exact ob_v rfl (fun hg => allT_of ⟨rfl, trivial⟩) (fun hg => av_assign rfl)
  have hr := Option.some.inj hr
  subst hr
  exact athen_norm (awc_ret (ret_q (l' := [(4, .int .i64 x5)]) (wk_of hX [] 4 rfl rfl ⟨⟨_, rfl, cv0⟩, trivial⟩ trivial) rfl ⟨rfl, trivial⟩))
theorem f12_runs {p0 : Str × Str} {p1 : Str × Str} {r : Int} (hr : f12 p0 p1 = some r) : RunsP Try.prog 12 [.agg [.str p0.1, .str p0.2], .agg [.str p1.1, .str p1.2]] [.int .i64 r] := by
  refine runs_w Try.func12 Try.ntmps12 rfl (rs := [.tmp 4]) rfl rfl fun w0 X hX => ?_
  refine awc_seq ?_
  refine awc_region ?_
  refine awl_op (aop_box rfl rfl ?_)
  refine awl_op (aop_box rfl rfl ?_)
  refine awl_v (av_assign rfl) ?_
  refine awl_nil (athen_norm (awc_seq (awc_seq ?_)))
  obtain ⟨x1, e2, hr⟩ := bnd_some hr
  obtain ⟨h3, hr⟩ := chk_some hr
  refine awc_text [2, 3, 4] [(true, .agg [.str p0.1, .str p0.2]), (true, .bool x1), (true, .bool (!x1)), (true, .bool (!x1)), (!(!x1), .agg [.str p1.1, .str p1.2]), (!(!x1), .bool ((f21 p1).getD default)), (!(!x1), .bool (!((f21 p1).getD default))), (true, .bool ((!x1) || (!((f21 p1).getD default))))] [[], [0], [1], [2], [3], [4, 3], [5, 3], [6, 3]] [7] rfl rfl rfl rfl rfl ⟨?_, ?_, ?_, ?_, ?_, ?_, ?_, ?_, trivial⟩ (allT_of ⟨rfl, trivial⟩) ?_
  · exact ob_v rfl (fun hg => allT_of trivial) (fun hg => av_load_ptrN ts25 rfl rfl rfl rfl)
  · exact ob_v rfl (fun hg => allT_of ⟨rfl, trivial⟩) (fun hg => av_call (f21_runs e2).x ent21 rfl rfl)
  · exact ob_v rfl (fun hg => allT_of ⟨rfl, trivial⟩) (fun hg => av_not rfl)
  · exact ob_v rfl (fun hg => allT_of ⟨rfl, trivial⟩) (fun hg => av_move rfl)
  · exact ob_v ⟨rfl, rfl, rfl, _, rfl, rfl⟩ (fun hg => allT_of ⟨rfl, trivial⟩) (fun hg => av_load_ptrN ts25 rfl rfl rfl rfl)
  · exact ob_v ⟨rfl, rfl, rfl, _, rfl, rfl⟩ (fun hg => allT_of ⟨hg, rfl, trivial⟩) (fun hg => av_call (f21_runs (get_g h3 hg)).x ent21 rfl rfl)
  · exact ob_v ⟨rfl, rfl, rfl, _, rfl, rfl⟩ (fun hg => allT_of ⟨hg, rfl, trivial⟩) (fun hg => av_not rfl)
  · exact ob_pick (b := false) (p := !x1) (q := !((f21 p1).getD default)) rfl rfl rfl (fun hg => allT_of ⟨rfl, trivial⟩) rfl rfl rfl rfl rfl
  refine athen_norm ?_
  refine awc_cond (b := (!x1) || (!((f21 p1).getD default))) rfl (fun hc4 => ?_) (fun hc4 => ?_)
  · have hr := if_t hc4 hr
    refine awc_seq ?_
    refine awc_region ?_
    refine awl_v (av_assign rfl) ?_
    have hr := Option.some.inj hr
    subst hr
    exact awl_nil (athen_norm (awc_ret (athen_ret (ret_q (l' := [(4, .int .i64 0)]) (wk_of hX [] 4 rfl rfl ⟨⟨_, rfl, cv0⟩, trivial⟩ trivial) rfl ⟨rfl, trivial⟩))))
  · have hr := if_f hc4 hr
    refine awc_skip (athen_norm (awc_seq ?_))
    refine awc_region ?_
    refine awl_v (av_load_ptrN ts25 rfl rfl rfl rfl) ?_
    refine awl_v (av_load_ptrN ts25 rfl rfl rfl rfl) ?_
    obtain ⟨x5, e6, hr⟩ := bnd_some hr
    refine awl_v (av_call (f23_runs e6).x ent23 rfl rfl) ?_
    refine awl_v (av_assign rfl) ?_
    have hr := Option.some.inj hr
    subst hr
    exact awl_nil (athen_norm (awc_ret (ret_q (l' := [(4, .int .i64 x5)]) (wk_of hX [] 4 rfl rfl ⟨⟨_, rfl, cv0⟩, trivial⟩ trivial) rfl ⟨rfl, trivial⟩)))
theorem f13_runs {p0 : Str × Str} {p1 : Str × Str} {r : Int} (hr : f13 p0 p1 = some r) : RunsP Try.prog 13 [.agg [.str p0.1, .str p0.2], .agg [.str p1.1, .str p1.2]] [.int .i64 r] := by
  refine runs_w Try.func13 Try.ntmps13 rfl (rs := [.tmp 4]) rfl rfl fun w0 X hX => ?_
  refine awc_seq ?_
  refine awc_region ?_
  refine awl_op (aop_box rfl rfl ?_)
  refine awl_op (aop_box rfl rfl ?_)
  refine awl_v (av_assign rfl) ?_
  refine awl_nil (athen_norm (awc_seq (awc_seq ?_)))
  obtain ⟨x1, e2, hr⟩ := bnd_some hr
  obtain ⟨h3, hr⟩ := chk_some hr
  refine awc_text [2, 3, 4] [(true, .agg [.str p0.1, .str p0.2]), (true, .bool x1), (true, .bool (!x1)), (true, .bool (!x1)), (!(!x1), .agg [.str p1.1, .str p1.2]), (!(!x1), .bool ((f22 p1).getD default)), (!(!x1), .bool (!((f22 p1).getD default))), (true, .bool ((!x1) || (!((f22 p1).getD default))))] [[], [0], [1], [2], [3], [4, 3], [5, 3], [6, 3]] [7] rfl rfl rfl rfl rfl ⟨?_, ?_, ?_, ?_, ?_, ?_, ?_, ?_, trivial⟩ (allT_of ⟨rfl, trivial⟩) ?_
  · exact ob_v rfl (fun hg => allT_of trivial) (fun hg => av_load_ptrN ts25 rfl rfl rfl rfl)
  · exact ob_v rfl (fun hg => allT_of ⟨rfl, trivial⟩) (fun hg => av_call (f22_runs e2).x ent22 rfl rfl)
  · exact ob_v rfl (fun hg => allT_of ⟨rfl, trivial⟩) (fun hg => av_not rfl)
  · exact ob_v rfl (fun hg => allT_of ⟨rfl, trivial⟩) (fun hg => av_move rfl)
  · exact ob_v ⟨rfl, rfl, rfl, _, rfl, rfl⟩ (fun hg => allT_of ⟨rfl, trivial⟩) (fun hg => av_load_ptrN ts25 rfl rfl rfl rfl)
  · exact ob_v ⟨rfl, rfl, rfl, _, rfl, rfl⟩ (fun hg => allT_of ⟨hg, rfl, trivial⟩) (fun hg => av_call (f22_runs (get_g h3 hg)).x ent22 rfl rfl)
  · exact ob_v ⟨rfl, rfl, rfl, _, rfl, rfl⟩ (fun hg => allT_of ⟨hg, rfl, trivial⟩) (fun hg => av_not rfl)
  · exact ob_pick (b := false) (p := !x1) (q := !((f22 p1).getD default)) rfl rfl rfl (fun hg => allT_of ⟨rfl, trivial⟩) rfl rfl rfl rfl rfl
  refine athen_norm ?_
  refine awc_cond (b := (!x1) || (!((f22 p1).getD default))) rfl (fun hc4 => ?_) (fun hc4 => ?_)
  · have hr := if_t hc4 hr
    refine awc_seq ?_
    refine awc_region ?_
    refine awl_v (av_assign rfl) ?_
    have hr := Option.some.inj hr
    subst hr
    exact awl_nil (athen_norm (awc_ret (athen_ret (ret_q (l' := [(4, .int .i64 0)]) (wk_of hX [] 4 rfl rfl ⟨⟨_, rfl, cv0⟩, trivial⟩ trivial) rfl ⟨rfl, trivial⟩))))
  · have hr := if_f hc4 hr
    refine awc_skip (athen_norm (awc_seq (awc_seq ?_)))
    refine awc_region ?_
    refine awl_v (av_fa_ptr fa25_0 rfl rfl) ?_
    refine awl_v (av_load_ptr ts9 rfl rfl rfl) ?_
    refine awl_v (av_fa_ptr fa25_0 rfl rfl) ?_
    refine awl_v (av_load_ptr ts9 rfl rfl rfl) ?_
    obtain ⟨x5, e6, hr⟩ := bnd_some hr
    refine awl_v (av_call (fCmp_runs e6).x ent24 rfl rfl) ?_
    refine awl_v (av_assign rfl) ?_
    refine awl_nil (athen_norm (awc_seq ?_))
    refine awc_region ?_
    refine awl_v (av_move rfl) ?_
    refine awl_v (av_neq rfl rfl) ?_
    refine awl_nil (athen_norm ?_)
    refine awc_cond (b := !decide (x5 = 0)) rfl (fun hc7 => ?_) (fun hc7 => ?_)
    · have hr := if_t hc7 hr
      refine awc_seq ?_
      refine awc_region ?_
      refine awl_v (av_move rfl) ?_
      refine awl_v (av_assign rfl) ?_
      have hr := Option.some.inj hr
      subst hr
      exact awl_nil (athen_norm (awc_ret (athen_ret (ret_q (l' := [(4, .int .i64 x5)]) (wk_of hX [] 4 rfl rfl ⟨⟨_, rfl, cv0⟩, trivial⟩ trivial) rfl ⟨rfl, trivial⟩))))
    · have hr := if_f hc7 hr
      refine awc_skip (athen_norm (awc_seq ?_))
      refine awc_region ?_
      refine awl_v (av_fa_ptr fa25_1 rfl rfl) ?_
      refine awl_v (av_load_ptr ts9 rfl rfl rfl) ?_
      refine awl_v (av_fa_ptr fa25_1 rfl rfl) ?_
      refine awl_v (av_load_ptr ts9 rfl rfl rfl) ?_
      obtain ⟨x8, e9, hr⟩ := bnd_some hr
      refine awl_v (av_call (fCmp_runs e9).x ent24 rfl rfl) ?_
      refine awl_v (av_assign rfl) ?_
      have hr := Option.some.inj hr
      subst hr
      exact awl_nil (athen_norm (awc_ret (ret_q (l' := [(4, .int .i64 x8)]) (wk_of hX [] 4 rfl rfl ⟨⟨_, rfl, cv0⟩, trivial⟩ trivial) rfl ⟨rfl, trivial⟩)))
theorem f3_runs {p0 : List (Str × Str)} {p1 : Str} {r : Bool} (hr : f3 p0 p1 = some r) : RunsP Try.prog 3 [.sl Y1 p0, .str p1] [.bool r] := by
  refine runs_w Try.func3 Try.ntmps3 rfl (rs := [.tmp 4]) rfl rfl fun w0 X hX => ?_
  refine awc_seq ?_
  refine awc_region ?_
  refine awl_v (av_assign rfl) ?_
  refine awl_nil (athen_norm (awc_seq (awc_seq ?_)))
  refine awc_text [0, 1, 4] [(true, .sl Y1 p0), (true, .int .i64 (List.length p0 : Int)), (true, .bool (decide (40 < (List.length p0 : Int)))), (true, .bool (decide (40 < (List.length p0 : Int)))), (!(decide (40 < (List.length p0 : Int))), .str p1), (!(decide (40 < (List.length p0 : Int))), .int .i64 (List.length p1 : Int)), (!(decide (40 < (List.length p0 : Int))), .bool (decide (2000 < (List.length p1 : Int)))), (true, .bool ((decide (40 < (List.length p0 : Int))) || (decide (2000 < (List.length p1 : Int)))))] [[], [0], [1], [2], [3], [4, 3], [5, 3], [6, 3]] [7] rfl rfl rfl rfl rfl ⟨?_, ?_, ?_, ?_, ?_, ?_, ?_, ?_, trivial⟩ (allT_of ⟨rfl, trivial⟩) ?_
  · exact ob_v rfl (fun hg => allT_of trivial) (fun hg => av_move rfl)
  · exact ob_v rfl (fun hg => allT_of ⟨rfl, trivial⟩) (fun hg => av_len_sl (t := Y1) rfl rfl und22 rfl)
  · exact ob_v rfl (fun hg => allT_of ⟨rfl, trivial⟩) (fun hg => av_gtr rfl rfl)
  · exact ob_v rfl (fun hg => allT_of ⟨rfl, trivial⟩) (fun hg => av_move rfl)
  · exact ob_v ⟨rfl, rfl, rfl, _, rfl, rfl⟩ (fun hg => allT_of ⟨rfl, trivial⟩) (fun hg => av_move rfl)
  · exact ob_v ⟨rfl, rfl, rfl, _, rfl, rfl⟩ (fun hg => allT_of ⟨hg, rfl, trivial⟩) (fun hg => av_len_str rfl rfl und9 rfl)
  · exact ob_v ⟨rfl, rfl, rfl, _, rfl, rfl⟩ (fun hg => allT_of ⟨hg, rfl, trivial⟩) (fun hg => av_gtr rfl rfl)
  · exact ob_pick (b := false) (p := decide (40 < (List.length p0 : Int))) (q := decide (2000 < (List.length p1 : Int))) rfl rfl rfl (fun hg => allT_of ⟨rfl, trivial⟩) rfl rfl rfl rfl rfl
  refine athen_norm ?_
  refine awc_cond (b := (decide (40 < (List.length p0 : Int))) || (decide (2000 < (List.length p1 : Int)))) rfl (fun hc1 => ?_) (fun hc1 => ?_)
  · have hr := if_t hc1 hr
    refine awc_seq ?_
    refine awc_region ?_
    obtain ⟨x2, e3, hr⟩ := bnd_some hr
    refine awl_v (av_call (f4_runs e3).x ent4 rfl rfl) ?_
    refine awl_v (av_assign rfl) ?_
    have hr := Option.some.inj hr
    subst hr
    exact awl_nil (athen_norm (awc_ret (athen_ret (ret_q (l' := [(4, .bool x2)]) (wk_of hX [] 4 rfl rfl ⟨⟨_, rfl, cv0⟩, trivial⟩ trivial) rfl ⟨rfl, trivial⟩))))
  · have hr := if_f hc1 hr
    refine awc_skip (athen_norm (awc_seq (awc_seq ?_)))
    refine awc_region ?_
    refine awl_v (av_move rfl) ?_
    refine awl_v (av_len_sl (t := Y1) rfl rfl und22 rfl) ?_
    refine awl_v (av_move rfl) ?_
    refine awl_nil (athen_norm (awc_block ?_))
    obtain ⟨o7, e8, hr⟩ := bnd_some hr
    refine awc_len (t := 0) rfl (fun hl => ?_)
    refine awc_range (S := Unit) (R := Bool) (List.length p0 : Int) (f3_b0 p0) (fun p => match p with | (i4, ()) => (⟨[(0, .sl Y1 p0), (1, .str p1), (4, .bool false), (29, .sl Y1 p0), (30, .int .i64 (List.length p0 : Int)), (31, .int .i64 i4)], [], 0⟩ : AS)) (fun o e st => match o with | .inl () => e = .exit 0 ∧ Wk X st ⟨[(0, .sl Y1 p0), (1, .str p1), (4, .bool false)], [], 0⟩ | .inr s6 => e = .ret ∧ Wk X st ⟨[(4, .bool s6)], [], 0⟩) (len_ok hl) e8 (wk_of hX [] 4 rfl rfl ⟨⟨_, rfl, cv0⟩, ⟨_, rfl, cv0⟩, ⟨_, rfl, cv0⟩, ⟨_, rfl, cv0⟩, ⟨_, rfl, cv0⟩, ⟨_, rfl, cv0⟩, trivial⟩ trivial) ?_ ?_
    · intro e st hx
      rcases o7 with _ | s6
      · obtain ⟨rfl, hw⟩ := hx
        refine ablock_here (athen_norm ((awc_wk hw) (awc_seq ?_)))
        refine awc_region ?_
        refine awl_v (av_move rfl) ?_
        obtain ⟨x9, e10, hr⟩ := bnd_some hr
        refine awl_v (av_call (f5_runs e10).x ent5 rfl rfl) ?_
        refine awl_v (av_move rfl) ?_
        refine awl_v (av_extract rfl rfl) ?_
        refine awl_v (av_extract rfl rfl) ?_
        refine awl_v (av_assign rfl) ?_
        refine awl_v (av_assign rfl) ?_
        refine awl_nil (athen_norm (awc_seq ?_))
        refine awc_region ?_
        refine awl_v (av_move rfl) ?_
        obtain ⟨x11, e12, hr⟩ := bnd_some hr
        refine awl_v (av_call (f6_runs e12).x ent6 rfl rfl) ?_
        refine awl_v (av_move rfl) ?_
        refine awl_v (av_extract rfl rfl) ?_
        refine awl_v (av_extract rfl rfl) ?_
        refine awl_v (av_assign rfl) ?_
        refine awl_v (av_assign rfl) ?_
        refine awl_nil (athen_norm (awc_seq ?_))
        refine awc_region ?_
        refine awl_v (av_move rfl) ?_
        obtain ⟨x13, e14, hr⟩ := bnd_some hr
        refine awl_v (av_call (f7_runs e14).x ent7 rfl rfl) ?_
        refine awl_v (av_move rfl) ?_
        refine awl_v (av_extract rfl rfl) ?_
        refine awl_v (av_extract rfl rfl) ?_
        refine awl_v (av_assign rfl) ?_
        refine awl_v (av_assign rfl) ?_
        refine awl_nil (athen_norm (awc_seq ?_))
        refine awc_region ?_
        refine awl_v (av_move rfl) ?_
        obtain ⟨x15, e16, hr⟩ := bnd_some hr
        refine awl_v (av_call (f8_runs e16).x ent8 rfl rfl) ?_
        refine awl_v (av_move rfl) ?_
        refine awl_v (av_extract rfl rfl) ?_
        refine awl_v (av_extract rfl rfl) ?_
        refine awl_v (av_assign rfl) ?_
        refine awl_v (av_assign rfl) ?_
        refine awl_nil (athen_norm (awc_seq (awc_seq ?_)))
        obtain ⟨x17, e18, hr⟩ := bnd_some hr
        obtain ⟨x19, e20, hr⟩ := bnd_some hr
        obtain ⟨h21, hr⟩ := chk_some hr
        refine awc_text [0, 1, 4, 7, 8, 9, 10, 11, 12, 13, 14] [(true, .sl Y1 p0), (true, .bool x17), (true, .sl Y1 p0), (true, .bool x19), (true, .bool (!decide (x17 = x19))), (true, .bool (!decide (x17 = x19))), (!(!decide (x17 = x19)), .str x9.1), (!(!decide (x17 = x19)), .str x11.1), (!(!decide (x17 = x19)), .bool (!decide (x9.1 = x11.1))), (true, .bool ((!decide (x17 = x19)) || (!decide (x9.1 = x11.1)))), (true, .bool ((!decide (x17 = x19)) || (!decide (x9.1 = x11.1)))), (!((!decide (x17 = x19)) || (!decide (x9.1 = x11.1))), .int .i64 x9.2), (!((!decide (x17 = x19)) || (!decide (x9.1 = x11.1))), .int .i64 x11.2), (!((!decide (x17 = x19)) || (!decide (x9.1 = x11.1))), .bool (!decide (x9.2 = x11.2))), (true, .bool (((!decide (x17 = x19)) || (!decide (x9.1 = x11.1))) || (!decide (x9.2 = x11.2)))), (true, .bool (((!decide (x17 = x19)) || (!decide (x9.1 = x11.1))) || (!decide (x9.2 = x11.2)))), (!(((!decide (x17 = x19)) || (!decide (x9.1 = x11.1))) || (!decide (x9.2 = x11.2))), .sl Y1 x13.1), (!(((!decide (x17 = x19)) || (!decide (x9.1 = x11.1))) || (!decide (x9.2 = x11.2))), .sl Y1 x15.1), (!(((!decide (x17 = x19)) || (!decide (x9.1 = x11.1))) || (!decide (x9.2 = x11.2))), .bool ((f11 x13.1 x15.1).getD default)), (!(((!decide (x17 = x19)) || (!decide (x9.1 = x11.1))) || (!decide (x9.2 = x11.2))), .bool (!((f11 x13.1 x15.1).getD default))), (true, .bool ((((!decide (x17 = x19)) || (!decide (x9.1 = x11.1))) || (!decide (x9.2 = x11.2))) || (!((f11 x13.1 x15.1).getD default)))), (true, .bool ((((!decide (x17 = x19)) || (!decide (x9.1 = x11.1))) || (!decide (x9.2 = x11.2))) || (!((f11 x13.1 x15.1).getD default)))), (!((((!decide (x17 = x19)) || (!decide (x9.1 = x11.1))) || (!decide (x9.2 = x11.2))) || (!((f11 x13.1 x15.1).getD default))), .int .i64 x13.2), (!((((!decide (x17 = x19)) || (!decide (x9.1 = x11.1))) || (!decide (x9.2 = x11.2))) || (!((f11 x13.1 x15.1).getD default))), .int .i64 x15.2), (!((((!decide (x17 = x19)) || (!decide (x9.1 = x11.1))) || (!decide (x9.2 = x11.2))) || (!((f11 x13.1 x15.1).getD default))), .bool (!decide (x13.2 = x15.2))), (true, .bool (((((!decide (x17 = x19)) || (!decide (x9.1 = x11.1))) || (!decide (x9.2 = x11.2))) || (!((f11 x13.1 x15.1).getD default))) || (!decide (x13.2 = x15.2))))] [[], [0], [], [2], [1, 3], [4], [5], [5], [6, 7, 5], [8, 5], [9], [10], [10], [11, 12, 10], [13, 10], [14], [15], [15], [16, 17, 15], [18, 15], [19, 15], [20], [21], [21], [22, 23, 21], [24, 21]] [25] rfl rfl rfl rfl rfl ⟨?_, ?_, ?_, ?_, ?_, ?_, ?_, ?_, ?_, ?_, ?_, ?_, ?_, ?_, ?_, ?_, ?_, ?_, ?_, ?_, ?_, ?_, ?_, ?_, ?_, ?_, trivial⟩ (allT_of ⟨rfl, trivial⟩) ?_
        · exact ob_v rfl (fun hg => allT_of trivial) (fun hg => av_move rfl)
        · exact ob_v rfl (fun hg => allT_of ⟨rfl, trivial⟩) (fun hg => av_call (f9_runs e18).x ent9 rfl rfl)
        · exact ob_v rfl (fun hg => allT_of trivial) (fun hg => av_move rfl)
        · exact ob_v rfl (fun hg => allT_of ⟨rfl, trivial⟩) (fun hg => av_call (f10_runs e20).x ent10 rfl rfl)
        · exact ob_v rfl (fun hg => allT_of ⟨rfl, rfl, trivial⟩) (fun hg => av_neqb und4 rfl rfl)
        · exact ob_v rfl (fun hg => allT_of ⟨rfl, trivial⟩) (fun hg => av_move rfl)
        · exact ob_v ⟨rfl, rfl, rfl, _, rfl, rfl⟩ (fun hg => allT_of ⟨rfl, trivial⟩) (fun hg => av_move rfl)
        · exact ob_v ⟨rfl, rfl, rfl, _, rfl, rfl⟩ (fun hg => allT_of ⟨rfl, trivial⟩) (fun hg => av_move rfl)
        · exact ob_v ⟨rfl, rfl, rfl, _, rfl, rfl⟩ (fun hg => allT_of ⟨hg, hg, rfl, trivial⟩) (fun hg => av_neqs rfl rfl)
        · exact ob_pick (b := false) (p := !decide (x17 = x19)) (q := !decide (x9.1 = x11.1)) rfl rfl rfl (fun hg => allT_of ⟨rfl, trivial⟩) rfl rfl rfl rfl rfl
        · exact ob_v rfl (fun hg => allT_of ⟨rfl, trivial⟩) (fun hg => av_move rfl)
        · exact ob_v ⟨rfl, rfl, rfl, _, rfl, rfl⟩ (fun hg => allT_of ⟨rfl, trivial⟩) (fun hg => av_move rfl)
        · exact ob_v ⟨rfl, rfl, rfl, _, rfl, rfl⟩ (fun hg => allT_of ⟨rfl, trivial⟩) (fun hg => av_move rfl)
        · exact ob_v ⟨rfl, rfl, rfl, _, rfl, rfl⟩ (fun hg => allT_of ⟨hg, hg, rfl, trivial⟩) (fun hg => av_neq rfl rfl)
        · exact ob_pick (b := false) (p := (!decide (x17 = x19)) || (!decide (x9.1 = x11.1))) (q := !decide (x9.2 = x11.2)) rfl rfl rfl (fun hg => allT_of ⟨rfl, trivial⟩) rfl rfl rfl rfl rfl
        · exact ob_v rfl (fun hg => allT_of ⟨rfl, trivial⟩) (fun hg => av_move rfl)
        · exact ob_v ⟨rfl, rfl, rfl, _, rfl, rfl⟩ (fun hg => allT_of ⟨rfl, trivial⟩) (fun hg => av_move rfl)
        · exact ob_v ⟨rfl, rfl, rfl, _, rfl, rfl⟩ (fun hg => allT_of ⟨rfl, trivial⟩) (fun hg => av_move rfl)
        · exact ob_v ⟨rfl, rfl, rfl, _, rfl, rfl⟩ (fun hg => allT_of ⟨hg, hg, rfl, trivial⟩) (fun hg => av_call (f11_runs (get_g h21 hg)).x ent11 rfl rfl)
        · exact ob_v ⟨rfl, rfl, rfl, _, rfl, rfl⟩ (fun hg => allT_of ⟨hg, rfl, trivial⟩) (fun hg => av_not rfl)
        · exact ob_pick (b := false) (p := ((!decide (x17 = x19)) || (!decide (x9.1 = x11.1))) || (!decide (x9.2 = x11.2))) (q := !((f11 x13.1 x15.1).getD default)) rfl rfl rfl (fun hg => allT_of ⟨rfl, trivial⟩) rfl rfl rfl rfl rfl
        · exact ob_v rfl (fun hg => allT_of ⟨rfl, trivial⟩) (fun hg => av_move rfl)
        · exact ob_v ⟨rfl, rfl, rfl, _, rfl, rfl⟩ (fun hg => allT_of ⟨rfl, trivial⟩) (fun hg => av_move rfl)
        · exact ob_v ⟨rfl, rfl, rfl, _, rfl, rfl⟩ (fun hg => allT_of ⟨rfl, trivial⟩) (fun hg => av_move rfl)
        · exact ob_v ⟨rfl, rfl, rfl, _, rfl, rfl⟩ (fun hg => allT_of ⟨hg, hg, rfl, trivial⟩) (fun hg => av_neq rfl rfl)
        · exact ob_pick (b := false) (p := (((!decide (x17 = x19)) || (!decide (x9.1 = x11.1))) || (!decide (x9.2 = x11.2))) || (!((f11 x13.1 x15.1).getD default))) (q := !decide (x13.2 = x15.2)) rfl rfl rfl (fun hg => allT_of ⟨rfl, trivial⟩) rfl rfl rfl rfl rfl
        refine athen_norm ?_
        refine awc_cond (b := ((((!decide (x17 = x19)) || (!decide (x9.1 = x11.1))) || (!decide (x9.2 = x11.2))) || (!((f11 x13.1 x15.1).getD default))) || (!decide (x13.2 = x15.2))) rfl (fun hc22 => ?_) (fun hc22 => ?_)
        · have hr := if_t hc22 hr
          refine awc_seq ?_
          refine awc_region ?_
          refine awl_v (av_assign rfl) ?_
          have hr := Option.some.inj hr
          subst hr
          exact awl_nil (athen_norm (awc_ret (athen_ret (ret_q (l' := [(4, .bool false)]) (wk_of hX [] 4 rfl rfl ⟨⟨_, rfl, cv0⟩, trivial⟩ trivial) rfl ⟨rfl, trivial⟩))))
        · have hr := if_f hc22 hr
          refine awc_skip (athen_norm ?_)
          obtain ⟨o23, e24, hr⟩ := bnd_some hr
          refine awc_join (S := Unit) (R := Unit) (fun s => match s with | () => (⟨[(0, .sl Y1 p0), (1, .str p1), (4, .bool false), (11, .sl Y1 x13.1), (12, .int .i64 x13.2)], [], 0⟩ : AS)) (fun r e st => match r with | () => e = .ret ∧ Wk X st ⟨[(4, .bool false)], [], 0⟩) e24 (fun hr => ?_) ?_ ?_
          · refine awc_seq ?_
            refine awc_region ?_
            refine awl_v (av_move rfl) ?_
            refine awl_v (av_eql rfl rfl) ?_
            refine awl_nil (athen_norm ?_)
            refine awc_cond (b := decide (x9.2 = 0)) rfl (fun hc25 => ?_) (fun hc25 => ?_)
            · have hr := if_t hc25 hr
              refine awc_seq ?_
              refine awc_region ?_
              refine awl_v (av_move rfl) ?_
              obtain ⟨x26, e27, hr⟩ := bnd_some hr
              refine awl_v (av_call (f7_runs e27).x ent7 rfl rfl) ?_
              refine awl_v (av_move rfl) ?_
              refine awl_v (av_extract rfl rfl) ?_
              refine awl_v (av_extract rfl rfl) ?_
              refine awl_v (av_assign rfl) ?_
              refine awl_v (av_assign rfl) ?_
              refine awl_nil (athen_norm (awc_seq ?_))
              obtain ⟨h28, hr⟩ := chk_some hr
              refine awc_text [0, 1, 4, 11, 12, 15, 16] [(true, .int .i64 x26.2), (true, .bool (!decide (x26.2 = 0))), (true, .bool (!decide (x26.2 = 0))), (!(!decide (x26.2 = 0)), .sl Y1 x26.1), (!(!decide (x26.2 = 0)), .sl Y1 p0), (!(!decide (x26.2 = 0)), .bool ((f11 x26.1 p0).getD default)), (!(!decide (x26.2 = 0)), .bool (!((f11 x26.1 p0).getD default))), (true, .bool ((!decide (x26.2 = 0)) || (!((f11 x26.1 p0).getD default))))] [[], [0], [1], [2], [2], [3, 4, 2], [5, 2], [6, 2]] [7] rfl rfl rfl rfl rfl ⟨?_, ?_, ?_, ?_, ?_, ?_, ?_, ?_, trivial⟩ (allT_of ⟨rfl, trivial⟩) ?_
              · exact ob_v rfl (fun hg => allT_of trivial) (fun hg => av_move rfl)
              · exact ob_v rfl (fun hg => allT_of ⟨rfl, trivial⟩) (fun hg => av_neq rfl rfl)
              · exact ob_v rfl (fun hg => allT_of ⟨rfl, trivial⟩) (fun hg => av_move rfl)
              · exact ob_v ⟨rfl, rfl, rfl, _, rfl, rfl⟩ (fun hg => allT_of ⟨rfl, trivial⟩) (fun hg => av_move rfl)
              · exact ob_v ⟨rfl, rfl, rfl, _, rfl, rfl⟩ (fun hg => allT_of ⟨rfl, trivial⟩) (fun hg => av_move rfl)
              · exact ob_v ⟨rfl, rfl, rfl, _, rfl, rfl⟩ (fun hg => allT_of ⟨hg, hg, rfl, trivial⟩) (fun hg => av_call (f11_runs (get_g h28 hg)).x ent11 rfl rfl)
              · exact ob_v ⟨rfl, rfl, rfl, _, rfl, rfl⟩ (fun hg => allT_of ⟨hg, rfl, trivial⟩) (fun hg => av_not rfl)
              · exact ob_pick (b := false) (p := !decide (x26.2 = 0)) (q := !((f11 x26.1 p0).getD default)) rfl rfl rfl (fun hg => allT_of ⟨rfl, trivial⟩) rfl rfl rfl rfl rfl
              refine athen_norm ?_
              refine awc_cond (b := (!decide (x26.2 = 0)) || (!((f11 x26.1 p0).getD default))) rfl (fun hc29 => ?_) (fun hc29 => ?_)
              · have hr := if_t hc29 hr
                refine awc_seq ?_
                refine awc_region ?_
                refine awl_v (av_assign rfl) ?_
                have hr := Option.some.inj hr
                subst hr
                exact awl_nil (athen_norm (awc_ret (⟨rfl, (wk_of hX [] 4 rfl rfl ⟨⟨_, rfl, cv0⟩, trivial⟩ trivial)⟩)))
              · have hr := if_f hc29 hr
                have hr := Option.some.inj hr
                subst hr
                exact awc_skip ((wk_of hX [] 4 rfl rfl ⟨⟨_, rfl, cv0⟩, ⟨_, rfl, cv0⟩, ⟨_, rfl, cv0⟩, ⟨_, rfl, cv0⟩, ⟨_, rfl, cv0⟩, trivial⟩ trivial))
            · have hr := if_f hc25 hr
              have hr := Option.some.inj hr
              subst hr
              exact awc_skip ((wk_of hX [] 4 rfl rfl ⟨⟨_, rfl, cv0⟩, ⟨_, rfl, cv0⟩, ⟨_, rfl, cv0⟩, ⟨_, rfl, cv0⟩, ⟨_, rfl, cv0⟩, trivial⟩ trivial))
          · rintro _ rfl
            obtain ⟨o30, e31, hr⟩ := bnd_some hr
            refine awc_join (S := Unit) (R := Unit) (fun s => match s with | () => (⟨[(0, .sl Y1 p0), (4, .bool false)], [], 0⟩ : AS)) (fun r e st => match r with | () => e = .ret ∧ Wk X st ⟨[(4, .bool false)], [], 0⟩) e31 (fun hr => ?_) ?_ ?_
            · refine awc_seq ?_
              refine awc_region ?_
              refine awl_v (av_move rfl) ?_
              refine awl_v (av_eql rfl rfl) ?_
              refine awl_nil (athen_norm ?_)
              refine awc_cond (b := decide (x13.2 = 0)) rfl (fun hc32 => ?_) (fun hc32 => ?_)
              · have hr := if_t hc32 hr
                refine awc_seq ?_
                refine awc_region ?_
                refine awl_v (av_move rfl) ?_
                obtain ⟨x33, e34, hr⟩ := bnd_some hr
                refine awl_v (av_call (f5_runs e34).x ent5 rfl rfl) ?_
                refine awl_v (av_move rfl) ?_
                refine awl_v (av_extract rfl rfl) ?_
                refine awl_v (av_extract rfl rfl) ?_
                refine awl_v (av_assign rfl) ?_
                refine awl_v (av_assign rfl) ?_
                refine awl_nil (athen_norm (awc_seq ?_))
                refine awc_text [0, 1, 4, 17, 18] [(true, .int .i64 x33.2), (true, .bool (!decide (x33.2 = 0))), (true, .bool (!decide (x33.2 = 0))), (!(!decide (x33.2 = 0)), .str x33.1), (!(!decide (x33.2 = 0)), .str p1), (!(!decide (x33.2 = 0)), .bool (!decide (x33.1 = p1))), (true, .bool ((!decide (x33.2 = 0)) || (!decide (x33.1 = p1))))] [[], [0], [1], [2], [2], [3, 4, 2], [5, 2]] [6] rfl rfl rfl rfl rfl ⟨?_, ?_, ?_, ?_, ?_, ?_, ?_, trivial⟩ (allT_of ⟨rfl, trivial⟩) ?_
                · exact ob_v rfl (fun hg => allT_of trivial) (fun hg => av_move rfl)
                · exact ob_v rfl (fun hg => allT_of ⟨rfl, trivial⟩) (fun hg => av_neq rfl rfl)
                · exact ob_v rfl (fun hg => allT_of ⟨rfl, trivial⟩) (fun hg => av_move rfl)
                · exact ob_v ⟨rfl, rfl, rfl, _, rfl, rfl⟩ (fun hg => allT_of ⟨rfl, trivial⟩) (fun hg => av_move rfl)
                · exact ob_v ⟨rfl, rfl, rfl, _, rfl, rfl⟩ (fun hg => allT_of ⟨rfl, trivial⟩) (fun hg => av_move rfl)
                · exact ob_v ⟨rfl, rfl, rfl, _, rfl, rfl⟩ (fun hg => allT_of ⟨hg, hg, rfl, trivial⟩) (fun hg => av_neqs rfl rfl)
                · exact ob_pick (b := false) (p := !decide (x33.2 = 0)) (q := !decide (x33.1 = p1)) rfl rfl rfl (fun hg => allT_of ⟨rfl, trivial⟩) rfl rfl rfl rfl rfl
                refine athen_norm ?_
                refine awc_cond (b := (!decide (x33.2 = 0)) || (!decide (x33.1 = p1))) rfl (fun hc35 => ?_) (fun hc35 => ?_)
                · have hr := if_t hc35 hr
                  refine awc_seq ?_
                  refine awc_region ?_
                  refine awl_v (av_assign rfl) ?_
                  have hr := Option.some.inj hr
                  subst hr
                  exact awl_nil (athen_norm (awc_ret (⟨rfl, (wk_of hX [] 4 rfl rfl ⟨⟨_, rfl, cv0⟩, trivial⟩ trivial)⟩)))
                · have hr := if_f hc35 hr
                  have hr := Option.some.inj hr
                  subst hr
                  exact awc_skip ((wk_of hX [] 4 rfl rfl ⟨⟨_, rfl, cv0⟩, ⟨_, rfl, cv0⟩, trivial⟩ trivial))
              · have hr := if_f hc32 hr
                have hr := Option.some.inj hr
                subst hr
                exact awc_skip ((wk_of hX [] 4 rfl rfl ⟨⟨_, rfl, cv0⟩, ⟨_, rfl, cv0⟩, trivial⟩ trivial))
            · rintro _ rfl
              refine awc_seq (awc_seq ?_)
              refine awc_region ?_
              refine awl_v (av_assign rfl) ?_
              refine awl_nil (athen_norm (awc_block ?_))
              obtain ⟨o39, e40, hr⟩ := bnd_some hr
              refine awc_loop (S := Int) (R := Unit ⊕ Unit) (fun p => match p with | s36 => (⟨[(0, .sl Y1 p0), (4, .bool false), (19, .int .i64 s36)], [], 0⟩ : AS)) (f3_b1 p0) (fun r e st => match r with | .inl () => e = .ret ∧ Wk X st ⟨[(4, .bool false)], [], 0⟩ | .inr () => e = .exit 2 ∧ Wk X st ⟨[(4, .bool false)], [], 0⟩) e40 (wk_of hX [] 4 rfl rfl ⟨⟨_, rfl, cv0⟩, ⟨_, rfl, cv0⟩, ⟨_, rfl, cv0⟩, trivial⟩ trivial) ?_ ?_
              · intro e st hx
                rcases o39 with _ | _
                · obtain ⟨rfl, hw⟩ := hx
                  have hr := Option.some.inj hr
                  subst hr
                  exact ablock_ret (athen_ret (ret_q (l' := [(4, .bool false)]) (Wk.trans hw (wk_of hX [] 4 rfl rfl ⟨⟨_, rfl, cv0⟩, trivial⟩ trivial)) rfl ⟨rfl, trivial⟩))
                · obtain ⟨rfl, hw⟩ := hx
                  refine ablock_here (athen_norm ((awc_wk hw) (awc_seq ?_)))
                  refine awc_region ?_
                  obtain ⟨x41, e42, hr⟩ := bnd_some hr
                  refine awl_v (av_call (f4_runs e42).x ent4 rfl rfl) ?_
                  refine awl_v (av_assign rfl) ?_
                  have hr := Option.some.inj hr
                  subst hr
                  exact awl_nil (athen_norm (awc_ret (ret_q (l' := [(4, .bool x41)]) (wk_of hX [] 4 rfl rfl ⟨⟨_, rfl, cv0⟩, trivial⟩ trivial) rfl ⟨rfl, trivial⟩)))
              · rintro s36 o hr
                refine awc_seq (awc_seq ?_)
                refine awc_region ?_
                refine awl_v (av_move rfl) ?_
                refine awl_v (av_move rfl) ?_
                refine awl_v (av_len_sl (t := Y1) rfl rfl und22 rfl) ?_
                refine awl_v (av_lss rfl rfl) ?_
                refine awl_nil (athen_norm ?_)
                refine awc_cond (b := decide (s36 < (List.length p0 : Int))) rfl (fun hc43 => ?_) (fun hc43 => ?_)
                · have hr := if_t hc43 hr
                  refine awc_skip (athen_norm (awc_seq (awc_block (awc_seq ?_))))
                  obtain ⟨x44, e45, hr⟩ := bnd_some hr
                  obtain ⟨x46, e47, hr⟩ := bnd_some hr
                  obtain ⟨x48, e49, hr⟩ := bnd_some hr
                  obtain ⟨x50, e51, hr⟩ := bnd_some hr
                  refine awc_draw mixed [0, 4, 19] [(true, .sl Y1 p0), (true, .int .i64 s36), (true, .int .i64 (w64 (s36 - 1))), (true, .rp [.str x44.1, .str x44.2]), (true, .agg [.str x44.1, .str x44.2]), (true, .sl Y1 p0), (true, .int .i64 s36), (true, .rp [.str x46.1, .str x46.2]), (true, .agg [.str x46.1, .str x46.2]), (true, .int .i64 x48), (true, .sl Y1 p0), (true, .int .i64 s36), (true, .int .i64 (w64 (s36 - 1))), (true, .rp [.str x44.1, .str x44.2]), (true, .agg [.str x44.1, .str x44.2]), (true, .sl Y1 p0), (true, .int .i64 s36), (true, .rp [.str x46.1, .str x46.2]), (true, .agg [.str x46.1, .str x46.2]), (true, .int .i64 x50), (true, .bool (!decide (x48 = x50)))] [[], [], [1], [0, 2], [3], [], [], [5, 6], [7], [4, 8], [], [], [11], [10, 12], [13], [], [], [15, 16], [17], [14, 18], [9, 19]] [20] rfl rfl rfl rfl rfl ⟨?_, ?_, ?_, ?_, ?_, ?_, ?_, ?_, ?_, ?_, ?_, ?_, ?_, ?_, ?_, ?_, ?_, ?_, ?_, ?_, ?_, trivial⟩ (allT_of ⟨rfl, trivial⟩) ?_
                  · exact ob_v rfl (fun hg => allT_of trivial) (fun hg => av_move rfl)
                  · exact ob_v rfl (fun hg => allT_of trivial) (fun hg => av_move rfl)
                  · exact ob_v rfl (fun hg => allT_of ⟨rfl, trivial⟩) (fun hg => av_sub rfl rfl)
                  · exact ob_v rfl (fun hg => allT_of ⟨rfl, rfl, trivial⟩) (fun hg => av_ia_sl (t := Y1) (e := x44) und22 sz25 rfl rfl e45)
                  · exact ob_v rfl (fun hg => allT_of ⟨rfl, trivial⟩) (fun hg => av_load_rpN ts25 rfl rfl rfl)
                  · exact ob_v rfl (fun hg => allT_of trivial) (fun hg => av_move rfl)
                  · exact ob_v rfl (fun hg => allT_of trivial) (fun hg => av_move rfl)
                  · exact ob_v rfl (fun hg => allT_of ⟨rfl, rfl, trivial⟩) (fun hg => av_ia_sl (t := Y1) (e := x46) und22 sz25 rfl rfl e47)
                  · exact ob_v rfl (fun hg => allT_of ⟨rfl, trivial⟩) (fun hg => av_load_rpN ts25 rfl rfl rfl)
                  · exact ob_v rfl (fun hg => allT_of ⟨rfl, rfl, trivial⟩) (fun hg => av_call (f12_runs e49).x ent12 rfl rfl)
                  · exact ob_v rfl (fun hg => allT_of trivial) (fun hg => av_move rfl)
                  · exact ob_v rfl (fun hg => allT_of trivial) (fun hg => av_move rfl)
                  · exact ob_v rfl (fun hg => allT_of ⟨rfl, trivial⟩) (fun hg => av_sub rfl rfl)
                  · exact ob_v rfl (fun hg => allT_of ⟨rfl, rfl, trivial⟩) (fun hg => av_ia_sl (t := Y1) (e := x44) und22 sz25 rfl rfl e45)
                  · exact ob_v rfl (fun hg => allT_of ⟨rfl, trivial⟩) (fun hg => av_load_rpN ts25 rfl rfl rfl)
                  · exact ob_v rfl (fun hg => allT_of trivial) (fun hg => av_move rfl)
                  · exact ob_v rfl (fun hg => allT_of trivial) (fun hg => av_move rfl)
                  · exact ob_v rfl (fun hg => allT_of ⟨rfl, rfl, trivial⟩) (fun hg => av_ia_sl (t := Y1) (e := x46) und22 sz25 rfl rfl e47)
                  · exact ob_v rfl (fun hg => allT_of ⟨rfl, trivial⟩) (fun hg => av_load_rpN ts25 rfl rfl rfl)
                  · exact ob_v rfl (fun hg => allT_of ⟨rfl, rfl, trivial⟩) (fun hg => av_call (f13_runs e51).x ent13 rfl rfl)
                  · exact ob_v rfl (fun hg => allT_of ⟨rfl, rfl, trivial⟩) (fun hg => av_neq rfl rfl)
                  refine athen_norm ?_
                  refine awc_cond (b := !decide (x48 = x50)) rfl (fun hc52 => ?_) (fun hc52 => ?_)
                  · have hr := if_t hc52 hr
                    refine awc_seq ?_
                    refine awc_region ?_
                    refine awl_v (av_assign rfl) ?_
                    have hr := Option.some.inj hr
                    subst hr
                    exact awl_nil (athen_norm (awc_ret (ablock_ret (athen_ret (⟨rfl, (wk_of hX [] 4 rfl rfl ⟨⟨_, rfl, cv0⟩, trivial⟩ trivial)⟩)))))
                  · have hr := if_f hc52 hr
                    refine awc_skip (ablock_norm (athen_norm ?_))
                    refine awc_region ?_
                    refine awl_v (av_move rfl) ?_
                    refine awl_v (av_add rfl rfl) ?_
                    refine awl_v (av_assign rfl) ?_
                    have hr := Option.some.inj hr
                    subst hr
                    exact awl_nil ((wk_of hX [] 4 rfl rfl ⟨⟨_, rfl, cv0⟩, ⟨_, rfl, cv0⟩, ⟨_, rfl, cv0⟩, trivial⟩ trivial))
                · have hr := if_f hc43 hr
                  have hr := Option.some.inj hr
                  subst hr
                  exact awc_exit (athen_exit (⟨rfl, (wk_of hX [] 4 rfl rfl ⟨⟨_, rfl, cv0⟩, trivial⟩ trivial)⟩))
            · rintro r rfl e st hne hx
              obtain ⟨rfl, hw⟩ := hx
              have hr := Option.some.inj hr
              subst hr
              exact ret_q (l' := [(4, .bool false)]) (Wk.trans hw (wk_of hX [] 4 rfl rfl ⟨⟨_, rfl, cv0⟩, trivial⟩ trivial)) rfl ⟨rfl, trivial⟩
          · rintro r rfl e st hne hx
            obtain ⟨rfl, hw⟩ := hx
            have hr := Option.some.inj hr
            subst hr
            exact ret_q (l' := [(4, .bool false)]) (Wk.trans hw (wk_of hX [] 4 rfl rfl ⟨⟨_, rfl, cv0⟩, trivial⟩ trivial)) rfl ⟨rfl, trivial⟩
      · obtain ⟨rfl, hw⟩ := hx
        have hr := Option.some.inj hr
        subst hr
        exact ablock_ret (athen_ret (ret_q (l' := [(4, .bool s6)]) (Wk.trans hw (wk_of hX [] 4 rfl rfl ⟨⟨_, rfl, cv0⟩, trivial⟩ trivial)) rfl ⟨rfl, trivial⟩))
    · rintro i4 _ o ho
      refine awc_seq ?_
      refine awc_region ?_
      refine awl_v (av_lss rfl rfl) ?_
      refine awl_nil (athen_norm (awc_seq ?_))
      refine awc_cond (b := decide (i4 < (List.length p0 : Int))) rfl (fun hc53 => ?_) (fun hc53 => ?_)
      · obtain ⟨q, hr, rfl⟩ := rb_t hc53 ho
        refine awc_skip (athen_norm (awc_seq (awc_block (awc_seq ?_))))
        refine awc_region ?_
        obtain ⟨x54, e55, hr⟩ := bnd_some hr
        refine awl_v (av_ia_sl (t := Y1) (e := x54) und22 sz25 rfl rfl e55) ?_
        refine awl_v (av_load_rpN ts25 rfl rfl rfl) ?_
        refine awl_op (aop_alloc zero25 rfl ?_)
        refine awl_op (aop_store sz25 rfl rfl rfl rfl rfl rfl rfl ?_)
        refine awl_nil (athen_norm (awc_seq ?_))
        refine awc_text [0, 1, 4, 29, 30, 31, 6] [(true, .ptr 0 0), (true, .str x54.1), (true, .int .i64 (List.length x54.1 : Int)), (true, .bool (decide (60 < (List.length x54.1 : Int)))), (true, .bool (decide (60 < (List.length x54.1 : Int)))), (!(decide (60 < (List.length x54.1 : Int))), .ptr 0 1), (!(decide (60 < (List.length x54.1 : Int))), .str x54.2), (!(decide (60 < (List.length x54.1 : Int))), .int .i64 (List.length x54.2 : Int)), (!(decide (60 < (List.length x54.1 : Int))), .bool (decide (60 < (List.length x54.2 : Int)))), (true, .bool ((decide (60 < (List.length x54.1 : Int))) || (decide (60 < (List.length x54.2 : Int)))))] [[], [0], [1], [2], [3], [4], [5, 4], [6, 4], [7, 4], [8, 4]] [9] rfl rfl rfl rfl rfl ⟨?_, ?_, ?_, ?_, ?_, ?_, ?_, ?_, ?_, ?_, trivial⟩ (allT_of ⟨rfl, trivial⟩) ?_
        · exact ob_v rfl (fun hg => allT_of trivial) (fun hg => av_fa_ptr fa25_0 rfl rfl)
        · exact ob_v rfl (fun hg => allT_of ⟨rfl, trivial⟩) (fun hg => av_load_ptr ts9 rfl rfl rfl)
        · exact ob_v rfl (fun hg => allT_of ⟨rfl, trivial⟩) (fun hg => av_len_str rfl rfl und9 rfl)
        · exact ob_v rfl (fun hg => allT_of ⟨rfl, trivial⟩) (fun hg => av_gtr rfl rfl)
        · exact ob_v rfl (fun hg => allT_of ⟨rfl, trivial⟩) (fun hg => av_move rfl)
        · exact ob_v ⟨rfl, rfl, rfl, _, rfl, rfl⟩ (fun hg => allT_of ⟨rfl, trivial⟩) (fun hg => av_fa_ptr fa25_1 rfl rfl)
        · exact ob_v ⟨rfl, rfl, rfl, _, rfl, rfl⟩ (fun hg => allT_of ⟨hg, rfl, trivial⟩) (fun hg => av_load_ptr ts9 rfl rfl rfl)
        · exact ob_v ⟨rfl, rfl, rfl, _, rfl, rfl⟩ (fun hg => allT_of ⟨hg, rfl, trivial⟩) (fun hg => av_len_str rfl rfl und9 rfl)
        · exact ob_v ⟨rfl, rfl, rfl, _, rfl, rfl⟩ (fun hg => allT_of ⟨hg, rfl, trivial⟩) (fun hg => av_gtr rfl rfl)
        · exact ob_pick (b := false) (p := decide (60 < (List.length x54.1 : Int))) (q := decide (60 < (List.length x54.2 : Int))) rfl rfl rfl (fun hg => allT_of ⟨rfl, trivial⟩) rfl rfl rfl rfl rfl
        refine athen_norm ?_
        refine awc_cond (b := (decide (60 < (List.length x54.1 : Int))) || (decide (60 < (List.length x54.2 : Int)))) rfl (fun hc56 => ?_) (fun hc56 => ?_)
        · have hr := if_t hc56 hr
          refine awc_seq ?_
          refine awc_region ?_
          obtain ⟨x57, e58, hr⟩ := bnd_some hr
          refine awl_v (av_call (f4_runs e58).x ent4 rfl rfl) ?_
          refine awl_v (av_assign rfl) ?_
          have hr := Option.some.inj hr
          subst hr
          exact awl_nil (athen_norm (awc_ret (ablock_ret (athen_ret (⟨rfl, (wk_of hX [] 4 rfl rfl ⟨⟨_, rfl, cv0⟩, trivial⟩ trivial)⟩)))))
        · have hr := if_f hc56 hr
          refine awc_skip (ablock_norm (athen_norm ?_))
          refine awc_region ?_
          refine awl_v (av_add rfl rfl) ?_
          refine awl_v (av_move rfl) ?_
          have hr := Option.some.inj hr
          subst hr
          exact awl_nil ((wk_of hX [] 4 rfl rfl ⟨⟨_, rfl, cv0⟩, ⟨_, rfl, cv0⟩, ⟨_, rfl, cv0⟩, ⟨_, rfl, cv0⟩, ⟨_, rfl, cv0⟩, ⟨_, rfl, cv0⟩, trivial⟩ trivial))
      · obtain rfl := rb_f hc53 ho
        exact awc_exit (athen_exit (⟨rfl, (wk_of hX [] 4 rfl rfl ⟨⟨_, rfl, cv0⟩, ⟨_, rfl, cv0⟩, ⟨_, rfl, cv0⟩, trivial⟩ trivial)⟩))
end Go.Ab
set_option linter.unusedSimpArgs false
namespace Go.Ab
open Go
theorem f4_true : f4 = some true := by decide +kernel
theorem ix_of {α : Type} {x : List α} {i : Nat} {e : α} (h : x[i]? = some e) : ix x (i : Int) = some e := by
  unfold ix; rw [if_pos (by omega)]; simpa using h
/-- A loop over a list's elements. -/
def lfold {α S R : Type} (h : α → S → Option (S ⊕ R)) : List α → S → Option (S ⊕ R)
  | [], s => some (.inl s)
  | x :: xs, s => (h x s).bind fun o => match o with
    | .inl s' => lfold h xs s'
    | .inr r => some (.inr r)
theorem rng_list {α S R : Type} {g : Int → S → Option (S ⊕ R)} {h : α → S → Option (S ⊕ R)} {xs : List α} (hg : ∀ (i : Nat) x s, xs[i]? = some x → g (i : Int) s = h x s) (s : S) : rng g xs.length 0 s = lfold h xs s := by
  have key : ∀ (k i : Nat) (s : S), i + k = xs.length → rng g k (i : Int) s = lfold h (xs.drop i) s := by
    intro k
    induction k with
    | zero => intro i s hi; rw [List.drop_of_length_le (by omega)]; rfl
    | succ k ih =>
      intro i s hi
      have hl : i < xs.length := by omega
      rw [List.drop_eq_getElem_cons hl]
      simp only [rng, lfold, hg i _ s (List.getElem?_eq_getElem hl)]
      congr 1
      funext o
      cases o with
      | inl s' =>
        have := ih (i + 1) s' (by omega)
        simpa using this
      | inr r => rfl
  simpa using key xs.length 0 s (by omega)

/-! bytes that no component has -/
def badB (b : UInt8) : Bool := decide (((b.toNat : Nat) : Int) < 33) || decide (126 < ((b.toNat : Nat) : Int))
theorem idx_any (l : Str) : ∀ (f pos : Nat), l.length ≤ pos + f → decide (0 ≤ Lib.idxFuncFrom nonP true (bstr l) f pos) = (l.drop pos).any badB := by
  intro f
  induction f with
  | zero => intro pos h; rw [List.drop_of_length_le (by omega)]; simp [Lib.idxFuncFrom]
  | succ f ih =>
    intro pos h
    by_cases hp : pos < l.length
    · have hs : pos < (bstr l).size := by rw [bstr_size]; exact hp
      obtain ⟨b, hd0, hb⟩ : ∃ b, l.drop pos = b :: l.drop (pos + 1) ∧ (bstr l)[pos]'hs = b := ⟨_, List.drop_eq_getElem_cons hp, by
        show (bstr l).data[pos]'_ = _
        simp [bstr]⟩
      rw [hd0, List.any_cons]
      simp only [Lib.idxFuncFrom, hs, if_true]
      by_cases h7 : b.toNat < 128
      · have hd := decode_ascii (bstr l) pos hs (by rw [hb]; exact h7)
        rw [hd, hb]
        simp only
        by_cases h8 : nonP b.toNat = true
        · rw [if_pos h8]
          have : badB b = true := by
            simp only [nonP, badB, Bool.or_eq_true, decide_eq_true_eq] at h8 ⊢
            omega
          rw [this]; simp
        · rw [if_neg h8]
          have : badB b = false := by
            rw [Bool.eq_false_iff]
            intro hc
            apply h8
            simp only [nonP, badB, Bool.or_eq_true, decide_eq_true_eq] at hc ⊢
            omega
          rw [this, ih (pos + 1) (by omega)]; simp
      · have hd := decode_high (bstr l) pos hs (by rw [hb]; omega)
        have : nonP (Utf8.decode (bstr l) pos).1 = true := by
          simp only [nonP, Bool.or_eq_true, decide_eq_true_eq]; right; omega
        rw [if_pos this]
        have : badB b = true := by simp only [badB, Bool.or_eq_true, decide_eq_true_eq]; right; omega
        rw [this]; simp
    · have hs : ¬ pos < (bstr l).size := by rw [bstr_size]; exact hp
      rw [List.drop_of_length_le (by omega)]
      simp [Lib.idxFuncFrom, hs]
theorem fCF_eq (l : Str) : fCF l = some (l.any badB) := by
  unfold fCF Lib.idxFunc
  rw [idx_any l _ 0 (by rw [bstr_size]; omega)]; simp
/-! components -/
def tOk (x : Str) : Bool := decide ((x.length : Int) ≤ 32) && !x.any badB
def pOk (c : Str × Str) : Bool := tOk c.1 && tOk c.2 && !decide (c = ([], []))
theorem bstr_dec (s t : Str) : decide (bstr s = bstr t) = decide (s = t) := by
  by_cases h : s = t
  · subst h; simp
  · have : bstr s ≠ bstr t := fun e => h (bstr_inj e)
    simp [h, this]
theorem two_empty (c : Str × Str) : (decide (c.1 = []) && decide (c.2 = [])) = decide (c = ([], [])) := by
  obtain ⟨a, b⟩ := c
  by_cases h1 : a = [] <;> by_cases h2 : b = [] <;> simp [h1, h2]
theorem f21_eq (c : Str × Str) : f21 c = some (pOk c) := by
  have h : ∀ (i : Nat) x (s : Unit), [c.1, c.2][i]? = some x → f21_b0 c (i : Int) s = (bif tOk x then some (.inl ()) else some (.inr ()) : Option (Unit ⊕ Unit)) := by
    intro i x s hx
    simp only [f21_b0, ix_of hx, Option.bind_some, fCF_eq, Option.isSome_some, Bool.or_true, cond_true, Option.getD_some, tOk]
    cases ha : x.any badB <;> by_cases hb : (32 : Int) < x.length
    · have : ¬ (x.length : Int) ≤ 32 := by omega
      simp [hb, this]
    · have : (x.length : Int) ≤ 32 := by omega
      simp [hb, this]
    · simp [hb]
    · simp [hb]
  unfold f21
  rw [show Int.toNat 2 = [c.1, c.2].length from rfl, rng_list h]
  simp only [lfold, pOk, bstr_dec, two_empty]
  cases tOk c.1 <;> cases tOk c.2 <;> simp
theorem lfold_bad (l : Str) : lfold (fun (b : UInt8) (_ : Unit) => (bif badB b then some (.inr ()) else some (.inl ()) : Option (Unit ⊕ Unit))) l () = bif l.any badB then some (.inr ()) else some (.inl ()) := by
  induction l with
  | nil => rfl
  | cons b l ih =>
    simp only [lfold, List.any_cons]
    cases badB b
    · simpa using ih
    · simp
theorem f22_eq (c : Str × Str) (hc : c.1.length ≤ 100000 ∧ c.2.length ≤ 100000) : f22 c = some (pOk c) := by
  have hb : ∀ (x : Str) (i : Nat) b (s : Unit), x[i]? = some b → f22_b1 x (i : Int) s = (bif badB b then some (.inr ()) else some (.inl ()) : Option (Unit ⊕ Unit)) := by
    intro x i b s hx
    simp only [f22_b1, ix_of hx, Option.bind_some, Option.isSome_some, Bool.or_true, cond_true, Option.getD_some, badB]
  have h : ∀ (i : Nat) x (s : Unit), [c.1, c.2][i]? = some x → f22_b0 c (i : Int) s = (bif tOk x then some (.inl ()) else some (.inr ()) : Option (Unit ⊕ Unit)) := by
    intro i x s hx
    have hl : x.length ≤ 100000 := by
      have := List.mem_of_getElem? hx
      simp at this
      rcases this with rfl | rfl
      · exact hc.1
      · exact hc.2
    simp only [f22_b0, ix_of hx, Option.bind_some]
    rw [show Int.toNat (List.length x : Int) = x.length by simp, rng_list (hb x), lfold_bad]
    have h2 : decide ((x.length : Int) ≤ 9223372036854775807) = true := by simp; omega
    rw [h2]
    simp only [cond_true, tOk]
    cases ha : x.any badB <;> by_cases hb : (32 : Int) < x.length
    · have : ¬ (x.length : Int) ≤ 32 := by omega
      simp [hb, this]
    · have : (x.length : Int) ≤ 32 := by omega
      simp [hb, this]
    · simp [hb]
    · simp [hb]
  unfold f22
  rw [show Int.toNat (List.length [c.1, c.2] : Int) = [c.1, c.2].length from rfl, rng_list h]
  have h3 : (!decide (c.1 = ([] : Str)) || !decide (c.2 = ([] : Str))) = !decide (c = ([], [])) := by rw [← two_empty]; simp
  simp only [lfold, pOk, h3]
  cases tOk c.1 <;> cases tOk c.2 <;> simp
/-! names -/
def vOk (n : List (Str × Str)) : Bool := n.all pOk && (decide (1 ≤ (n.length : Int)) && decide ((n.length : Int) ≤ 20))
theorem f19_eq (n : List (Str × Str)) : f19 n (fun y1 => f20 y1) = some (n.any fun c => !pOk c) := by
  have h : Tot (f32 n (fun y1 => f20 y1)) fun z => decide (0 ≤ z) = n.any fun c => !pOk c := by
    unfold f32
    rw [toNat_len]
    refine Tot.bind (tot_rngx (fun i _ => (n.take i).any (fun c => !pOk c) = false) (fun r : Int => 0 ≤ r ∧ n.any (fun c => !pOk c) = true) (by simp) fun i s hi hs => ?_) ?_
    · refine tot_ix hi ?_
      simp only [f20, f21_eq, Option.bind_some]
      refine tot_if (fun hc => tot_some (.inr ⟨_, rfl, by omega, ?_⟩)) (fun hc => tot_some (.inl ⟨_, rfl, ?_⟩))
      · rw [List.any_eq_true]; exact ⟨_, getD_mem hi, hc⟩
      · rw [take_snoc default hi, List.any_append, hs]; simpa using hc
    · rintro o (⟨s, rfl, h⟩ | ⟨r, rfl, h1, h2⟩)
      · rw [List.take_of_length_le (Nat.le_refl _)] at h
        exact tot_some (by rw [h]; rfl)
      · exact tot_some (by rw [h2]; simpa using h1)
  obtain ⟨z, h1, h2⟩ := h
  simp only [f19, h1, Option.bind_some, h2]
theorem f9_eq (n : List (Str × Str)) : f9 n = some (vOk n) := by
  unfold f9
  rw [f19_eq]
  simp only [Option.isSome_some, Bool.or_true, cond_true, Option.getD_some, vOk, List.all_eq_not_any_not]
  rw [Bool.and_comm]
theorem f10_eq (n : List (Str × Str)) (hn : ∀ c ∈ n, c.1.length ≤ 100000 ∧ c.2.length ≤ 100000) : f10 n = some (vOk n) := by
  unfold f10
  rw [toNat_len]
  have h : Tot (rng (f10_b0 n) n.length 0 ()) fun o => o = (bif n.all pOk then .inl () else .inr ()) := by
    refine Tot.mono (tot_rngx (fun i _ => (n.take i).all pOk = true) (fun r : Unit => n.all pOk = false) (by simp) fun i s hi hs => ?_) ?_
    · refine tot_ix hi ?_
      rw [f22_eq _ (hn _ (getD_mem hi))]
      refine tot_if (fun hc => tot_some (.inr ⟨_, rfl, ?_⟩)) (fun hc => tot_some (.inl ⟨_, rfl, ?_⟩))
      · rw [Bool.eq_false_iff]
        intro h; rw [List.all_eq_true] at h
        have := h _ (getD_mem (d := default) hi)
        rw [this] at hc; cases hc
      · rw [take_snoc default hi, List.all_append, hs]; simpa using hc
    · rintro o (⟨s, rfl, h⟩ | ⟨r, rfl, h⟩)
      · rw [List.take_of_length_le (Nat.le_refl _)] at h; rw [h]; rfl
      · rw [h]; rfl
  obtain ⟨o, h1, rfl⟩ := h
  rw [h1]
  unfold vOk
  cases n.all pOk <;> simp
end Go.Ab
namespace Go.Ab
open Go
/-! how components are written -/
def escB (b : UInt8) : Bool := (decide (((b.toNat : Nat) : Int) = 46) || decide (((b.toNat : Nat) : Int) = 47)) || decide (((b.toNat : Nat) : Int) = 92)
def esc1 (b : UInt8) : Str := bif escB b then [92, b] else [b]
def esc (s : Str) : Str := s.flatMap esc1
theorem esc_nil : esc [] = [] := rfl
theorem esc_cons (b : UInt8) (s : Str) : esc (b :: s) = esc1 b ++ esc s := by simp [esc]
theorem esc_app (s t : Str) : esc (s ++ t) = esc s ++ esc t := by simp [esc]
theorem esc1_len (b : UInt8) : (esc1 b).length ≤ 2 := by unfold esc1; cases escB b <;> simp
theorem esc_len (s : Str) : (esc s).length ≤ 2 * s.length := by
  induction s with
  | nil => simp [esc_nil]
  | cons b s ih => rw [esc_cons, List.length_append, List.length_cons]; have := esc1_len b; omega
def wr (c : Str × Str) : Str := esc c.1 ++ (bif decide (c.2 = []) then [] else 46 :: esc c.2)
theorem wr_len (c : Str × Str) : (wr c).length ≤ 2 * c.1.length + 2 * c.2.length + 1 := by
  unfold wr
  have h1 := esc_len c.1
  have h2 := esc_len c.2
  cases decide (c.2 = []) <;> simp <;> omega
theorem fWB_eq {s : Str} {z : Int} {b : UInt8} (hz : z = ((b.toNat : Nat) : Int)) (h : s.length ≤ 1000000) : fWB s z = some (s ++ [b]) := by
  subst hz
  have hb : b.toNat < 256 := b.toNat_lt
  unfold fWB
  have h1 : (decide (0 ≤ ((b.toNat : Nat) : Int)) && decide (((b.toNat : Nat) : Int) < 256) && strOk (s.length + 1)) = true := by
    simp only [Bool.and_eq_true, decide_eq_true_eq]
    exact ⟨⟨by omega, by omega⟩, strOk_t (by omega)⟩
  rw [h1]
  simp
theorem snoc_esc {p : Str} {i : Nat} (h : i < p.length) : esc (p.take (i + 1)) = esc (p.take i) ++ esc1 (p.getD i default) := by
  rw [take_snoc default h, esc_app, esc_cons, esc_nil, List.append_nil]
theorem f37_eq {p acc : Str} (h : acc.length + 2 * p.length ≤ 900000) : f37 p acc = some (acc ++ esc p) := by
  unfold f37
  have h0 : decide ((p.length : Int) ≤ 9223372036854775807) = true := by simp; omega
  rw [h0]
  simp only [cond_true]
  rw [toNat_len]
  have key : Tot (rng (f37_b0 p) p.length 0 acc) fun o => ∃ s', o = .inl s' ∧ s' = acc ++ esc (p.take p.length) := by
    refine tot_rng (fun i s => s = acc ++ esc (p.take i)) (by simp [esc_nil]) fun i s hi hs => ?_
    subst hs
    have hl : (acc ++ esc (p.take i)).length ≤ 900000 := by
      rw [List.length_append]; have := esc_len (p.take i); have : (p.take i).length ≤ p.length := by simp; omega
      omega
    obtain ⟨b, hb⟩ : ∃ b, p.getD i default = b := ⟨_, rfl⟩
    simp only [f37_b0, ix_getD hi, Option.bind_some, hb, f38]
    rw [snoc_esc hi, hb]
    unfold esc1 escB
    cases hc : (decide (((b.toNat : Nat) : Int) = 46) || decide (((b.toNat : Nat) : Int) = 47)) || decide (((b.toNat : Nat) : Int) = 92)
    · simp only [cond_false, Option.bind_some]
      rw [fWB_eq rfl (by omega)]
      exact tot_some ⟨_, rfl, by simp⟩
    · simp only [cond_true]
      rw [fWB_eq (z := 92) (b := 92) rfl (by omega)]
      simp only [Option.bind_some]
      rw [fWB_eq rfl (by rw [List.length_append, List.length_singleton]; omega)]
      exact tot_some ⟨_, rfl, by simp⟩
  obtain ⟨o, h1, s', rfl, rfl⟩ := key
  rw [h1]
  simp
theorem f29_eq {c : Str × Str} (h : 2 * c.1.length + 2 * c.2.length ≤ 800000) : f29 c = some (wr c) := by
  unfold f29 wr
  rw [f37_eq (by simp; omega)]
  simp only [Option.bind_some, List.nil_append]
  have h1 := esc_len c.1
  by_cases hc : c.2 = []
  · simp [hc, fBS]
  · have hd : decide (c.2 = ([] : Str)) = false := by simp [hc]
    rw [hd]
    simp only [Bool.not_false, cond_true, cond_false]
    rw [fWB_eq (z := 46) (b := 46) rfl (by omega)]
    simp only [Option.bind_some]
    rw [f37_eq (by rw [List.length_append, List.length_singleton]; omega)]
    simp [fBS]
theorem slice1 {p : Str} {i : Nat} (h : i < p.length) : (p.take (Int.toNat (w64 ((i : Int) + 1)))).drop (Int.toNat (i : Int)) = [p.getD i default] ∨ ¬ p.length ≤ 9000000 := by
  by_cases hp : p.length ≤ 9000000
  · left
    rw [w64_id ⟨by omega, by omega⟩]
    rw [show Int.toNat ((i : Int) + 1) = i + 1 by omega, Int.toNat_natCast, take_snoc default h, List.drop_append]
    have : (p.take i).length = i := by simp; omega
    rw [this]; simp
  · exact .inr hp
theorem sl1 {p : Str} {i : Nat} (h : i < p.length) (hp : p.length ≤ 9000000) : (p.take (Int.toNat (w64 ((i : Int) + 1)))).drop (Int.toNat (i : Int)) = [p.getD i default] := (slice1 h).resolve_right fun h => h hp
theorem f43_eq {p : Str} (h : p.length ≤ 200000) : f43 p = some (esc p) := by
  unfold f43
  have h0 : decide ((p.length : Int) ≤ 9223372036854775807) = true := by simp; omega
  rw [h0]
  simp only [cond_true]
  rw [toNat_len]
  have key : Tot (rng (f43_b0 p) p.length 0 ([] : Str)) fun o => ∃ s', o = .inl s' ∧ s' = esc (p.take p.length) := by
    refine tot_rng (fun i s => s = esc (p.take i)) (by simp [esc_nil]) fun i s hi hs => ?_
    subst hs
    have hl : (esc (p.take i)).length ≤ 400000 := by
      have := esc_len (p.take i); have : (p.take i).length ≤ p.length := by simp; omega
      omega
    obtain ⟨b, hb⟩ : ∃ b, p.getD i default = b := ⟨_, rfl⟩
    have hsl : slOk (i : Int) (w64 ((i : Int) + 1)) p.length = true := by
      rw [w64_id ⟨by omega, by omega⟩]; exact slOk_t (by omega) (by omega) (by omega)
    simp only [f43_b0, ix_getD hi, Option.bind_some, hb, Option.isSome_some, Bool.or_true, cond_true, Option.getD_some, hsl, sl1 hi (show p.length ≤ 9000000 by omega)]
    rw [snoc_esc hi, hb]
    unfold esc1 escB
    cases hc : (decide (((b.toNat : Nat) : Int) = 46) || decide (((b.toNat : Nat) : Int) = 47)) || decide (((b.toNat : Nat) : Int) = 92)
    · simp only [cond_false, Option.bind_some]
      rw [strOk_t (by simp; omega)]
      exact tot_some ⟨_, rfl, by simp⟩
    · simp only [cond_true]
      rw [strOk_t (by simp; omega)]
      simp only [cond_true, Option.bind_some]
      rw [strOk_t (by simp; omega)]
      exact tot_some ⟨_, rfl, by simp⟩
  obtain ⟨o, h1, s', rfl, rfl⟩ := key
  rw [h1]
  simp
theorem f31_eq {c : Str × Str} (h : c.1.length ≤ 100000 ∧ c.2.length ≤ 100000) : f31 c = some (wr c) := by
  unfold f31 wr
  rw [f43_eq (by omega)]
  have h1 := esc_len c.1
  have h2 := esc_len c.2
  by_cases hc : c.2 = []
  · simp [hc]
  · have hd : decide (c.2 = ([] : Str)) = false := by simp [hc]
    rw [hd]
    simp only [cond_false, Option.bind_some]
    rw [strOk_t (by simp; omega), f43_eq (by omega)]
    simp only [cond_true, Option.bind_some]
    rw [strOk_t (by simp; omega)]
    simp
def txt (n : List (Str × Str)) : Str := Lib.join (n.map wr) [47]
theorem join_len (l : List Str) : (Lib.join l [47]).length ≤ (l.map (fun s => s.length + 1)).sum := by
  cases l with
  | nil => simp [Lib.join_nil]
  | cons x r =>
    rw [Lib.join_cons]
    have : ∀ r : List Str, (Lib.joinTail [47] r).length = (r.map (fun s => s.length + 1)).sum := by
      intro r
      induction r with
      | nil => simp [Lib.joinTail]
      | cons y r ih =>
        simp only [Lib.joinTail, List.map_cons, List.flatten_cons, List.length_append, List.sum_cons] at ih ⊢
        rw [ih]; simp; omega
    rw [List.length_append, this, List.map_cons, List.sum_cons]
    omega
theorem sum_le {α : Type} {f : α → Nat} {m : Nat} : ∀ {l : List α}, (∀ x ∈ l, f x ≤ m) → (l.map f).sum ≤ l.length * m := by
  intro l
  induction l with
  | nil => intro _; simp
  | cons a l ih =>
    intro h
    have h1 := h a (by simp)
    have h2 := ih fun x hx => h x (by simp [hx])
    simp only [List.map_cons, List.sum_cons, List.length_cons, Nat.add_mul]
    omega
theorem pOk_len {c : Str × Str} (h : pOk c = true) : c.1.length ≤ 32 ∧ c.2.length ≤ 32 := by
  simp only [pOk, tOk, Bool.and_eq_true, decide_eq_true_eq] at h
  omega
theorem vOk_len {n : List (Str × Str)} (h : vOk n = true) : n.length ≤ 20 ∧ ∀ c ∈ n, c.1.length ≤ 32 ∧ c.2.length ≤ 32 := by
  simp only [vOk, Bool.and_eq_true, decide_eq_true_eq, List.all_eq_true] at h
  exact ⟨by omega, fun c hc => pOk_len (h.1 c hc)⟩
theorem txt_len {n : List (Str × Str)} (h : vOk n = true) : (txt n).length ≤ 2620 := by
  obtain ⟨h1, h2⟩ := vOk_len h
  have h3 := join_len (n.map wr)
  have h4 : ((n.map wr).map (fun s => s.length + 1)).sum ≤ (n.map wr).length * 131 := sum_le fun s hs => by
    obtain ⟨c, hc, rfl⟩ := List.mem_map.1 hs
    have := wr_len c
    have := h2 c hc
    omega
  rw [List.length_map] at h4
  have : n.length * 131 ≤ 20 * 131 := Nat.mul_le_mul_right _ h1
  unfold txt
  omega
theorem fJoin_eq {n : List (Str × Str)} (h : vOk n = true) : fJoin (n.map wr) [47] = some (txt n) := by
  have h1 := (vOk_len h).1
  have h2 := txt_len h
  unfold fJoin
  have h3 : (Nat.ble (n.map wr).length 140737488355328 && Nat.ble (Lib.join (n.map wr) [47]).length 140737488355328) = true := by
    simp only [Bool.and_eq_true, Nat.ble_eq]
    unfold txt at h2
    exact ⟨by rw [List.length_map]; omega, by omega⟩
  rw [h3]; rfl
theorem f17_eq {n : List (Str × Str)} (h : vOk n = true) : f17 n = some (txt n) := by
  obtain ⟨h1, h2⟩ := vOk_len h
  unfold f17
  rw [toNat_len]
  have key : Tot (rng (f17_b0 n) n.length 0 ([] : List Str)) fun o => ∃ s', o = .inl s' ∧ s' = (n.take n.length).map wr := by
    refine tot_rng (fun i s => s = (n.take i).map wr) (by simp) fun i s hi hs => ?_
    subst hs
    have h3 := h2 _ (getD_mem (d := default) hi)
    simp only [f17_b0, ix_getD hi, Option.bind_some, f29_eq (c := n.getD i default) (by omega)]
    rw [apOk_t (by simp; omega)]
    exact tot_some ⟨_, rfl, by rw [take_snoc default hi]; simp⟩
  obtain ⟨o, g1, s', rfl, rfl⟩ := key
  rw [g1, List.take_length]
  simp only [Option.bind_some, fJoin_eq h]
theorem f18_eq {n : List (Str × Str)} (h : vOk n = true) : f18 n = some (txt n) := by
  obtain ⟨h1, h2⟩ := vOk_len h
  unfold f18
  rw [toNat_len]
  have key : Tot (rng (f18_b0 n) n.length 0 ([] : List Str)) fun o => ∃ s', o = .inl s' ∧ s' = (n.take n.length).map wr := by
    refine tot_rng (fun i s => s = (n.take i).map wr) (by simp) fun i s hi hs => ?_
    subst hs
    have h3 := h2 _ (getD_mem (d := default) hi)
    simp only [f18_b0, ix_getD hi, Option.bind_some, f31_eq (c := n.getD i default) (by omega)]
    rw [apOk_t (by simp; omega)]
    exact tot_some ⟨_, rfl, by rw [take_snoc default hi]; simp⟩
  obtain ⟨o, g1, s', rfl, rfl⟩ := key
  rw [g1, List.take_length]
  simp only [Option.bind_some, fJoin_eq h]
def TX (n : List (Str × Str)) : Str × Int := bif vOk n then (txt n, 0) else ([], 1)
theorem f5_eq (n : List (Str × Str)) : f5 n = some (TX n) := by
  unfold f5 TX
  rw [f9_eq]
  cases h : vOk n
  · simp
  · simp [f17_eq h]
theorem f6_eq (n : List (Str × Str)) (hn : ∀ c ∈ n, c.1.length ≤ 100000 ∧ c.2.length ≤ 100000) : f6 n = some (TX n) := by
  unfold f6 TX
  rw [f10_eq n hn]
  cases h : vOk n
  · simp
  · simp [f18_eq h]
end Go.Ab
namespace Go.Ab
open Go
/-! reading names -/
def app (c : Str × Str) (k : Bool) (b : UInt8) : Str × Str := two_set c k ((bif k then c.2 else c.1) ++ [b])
def go : Str → Bool → List (Str × Str) → Str × Str → List (Str × Str)
  | [], _, l, c => l ++ [c]
  | [b], k, l, c => if b = 47 then l ++ [c] ++ [([], [])] else if b = 46 ∧ k = false then l ++ [c] else l ++ [app c k b]
  | b :: d :: r, k, l, c => if b = 47 then go (d :: r) false (l ++ [c]) ([], []) else if b = 46 ∧ k = false then go (d :: r) true l c else if b = 92 then go r k l (app c k d) else go (d :: r) k l (app c k b)
theorem go_sep (r : Str) (k : Bool) (l : List (Str × Str)) (c : Str × Str) : go (47 :: r) k l c = go r false (l ++ [c]) ([], []) := by
  cases r with
  | nil => simp [go]
  | cons d r => simp [go]
theorem go_dot (r : Str) (l : List (Str × Str)) (c : Str × Str) : go (46 :: r) false l c = go r true l c := by
  cases r with
  | nil => simp [go]
  | cons d r => simp [go]
theorem go_esc (d : UInt8) (r : Str) (k : Bool) (l : List (Str × Str)) (c : Str × Str) : go (92 :: d :: r) k l c = go r k l (app c k d) := by simp [go]
theorem go_one {b : UInt8} (r : Str) {k : Bool} (l : List (Str × Str)) (c : Str × Str) (h1 : b ≠ 47) (h2 : ¬ (b = 46 ∧ k = false)) (h3 : b ≠ 92 ∨ r = []) : go (b :: r) k l c = go r k l (app c k b) := by
  cases r with
  | nil => simp only [go, if_neg h1, if_neg h2]
  | cons d r =>
    have h3 : b ≠ 92 := h3.resolve_right (by simp)
    simp only [go, if_neg h1, if_neg h2, if_neg h3]
/-! what is too great stays so -/
def big (l : List (Str × Str)) (c : Str × Str) : Prop := 20 ≤ l.length ∨ (∃ x ∈ l, 32 < x.1.length ∨ 32 < x.2.length) ∨ 32 < c.1.length ∨ 32 < c.2.length
theorem big_app {l : List (Str × Str)} {c : Str × Str} {k : Bool} {b : UInt8} (h : big l c) : big l (app c k b) := by
  rcases h with h | h | h
  · exact .inl h
  · exact .inr (.inl h)
  · refine .inr (.inr ?_)
    unfold app two_set
    cases k
    · simp only [cond_false, List.length_append, List.length_singleton]
      rcases h with h | h
      · exact .inl (by omega)
      · exact .inr h
    · simp only [cond_true, List.length_append, List.length_singleton]
      rcases h with h | h
      · exact .inl h
      · exact .inr (by omega)
theorem big_next {l : List (Str × Str)} {c : Str × Str} (h : big l c) : big (l ++ [c]) ([], []) := by
  rcases h with h | ⟨x, h1, h2⟩ | h
  · exact .inl (by simp; omega)
  · exact .inr (.inl ⟨x, by simp [h1], h2⟩)
  · exact .inr (.inl ⟨c, by simp, h⟩)
theorem big_no {l : List (Str × Str)} {c : Str × Str} (h : big l c) : vOk (l ++ [c]) = false := by
  rw [Bool.eq_false_iff]
  intro hv
  obtain ⟨h1, h2⟩ := vOk_len hv
  rw [List.length_append, List.length_singleton] at h1
  rcases h with h | ⟨x, h3, h4⟩ | h
  · omega
  · have := h2 x (by simp [h3]); omega
  · have := h2 c (by simp); omega
theorem big_go : ∀ (n : Nat) (r : Str), r.length ≤ n → ∀ (k : Bool) (l : List (Str × Str)) (c : Str × Str), big l c → vOk (go r k l c) = false := by
  intro n
  induction n with
  | zero =>
    intro r hr k l c h
    obtain rfl : r = [] := List.eq_nil_of_length_eq_zero (by omega)
    exact big_no h
  | succ n ih =>
    intro r hr k l c h
    cases r with
    | nil => exact big_no h
    | cons b r =>
      have hr' : r.length ≤ n := by simpa using hr
      by_cases h1 : b = 47
      · subst h1; rw [go_sep]; exact ih r hr' _ _ _ (big_next h)
      · by_cases h2 : b = 46 ∧ k = false
        · obtain ⟨rfl, rfl⟩ := h2; rw [go_dot]; exact ih r hr' _ _ _ h
        · by_cases h3 : b ≠ 92 ∨ r = []
          · rw [go_one r l c h1 h2 h3]; exact ih r hr' _ _ _ (big_app h)
          · simp only [not_or, Decidable.not_not] at h3
            obtain ⟨rfl, h4⟩ := h3
            cases r with
            | nil => exact absurd rfl h4
            | cons d r => rw [go_esc]; exact ih r (by simp at hr'; omega) _ _ _ (big_app h)
/-! what is written is read -/
def addS (c : Str × Str) (k : Bool) : Str → Str × Str
  | [] => c
  | b :: s => addS (app c k b) k s
theorem addS_eq (s : Str) : ∀ (c : Str × Str) (k : Bool), addS c k s = bif k then (c.1, c.2 ++ s) else (c.1 ++ s, c.2) := by
  induction s with
  | nil => intro c k; cases k <;> simp [addS]
  | cons b s ih => intro c k; simp only [addS, ih]; cases k <;> simp [app, two_set]
theorem escB_eq (b : UInt8) : escB b = (decide (b = 46) || decide (b = 47) || decide (b = 92)) := by
  have h : ∀ n : Nat, (hn : n < 256) → decide (((b.toNat : Nat) : Int) = (n : Int)) = decide (b = UInt8.ofNat n) := by
    intro n hn
    by_cases e : b = UInt8.ofNat n
    · subst e
      have : (UInt8.ofNat n).toNat = n := by simp; omega
      simp [this]
    · have : b.toNat ≠ n := fun h => e (by rw [← h]; simp)
      simp [e]; omega
  unfold escB
  rw [show (46 : Int) = ((46 : Nat) : Int) from rfl, show (47 : Int) = ((47 : Nat) : Int) from rfl, show (92 : Int) = ((92 : Nat) : Int) from rfl, h 46 (by omega), h 47 (by omega), h 92 (by omega)]
  rfl
theorem go_str (s : Str) : ∀ (r : Str) (k : Bool) (l : List (Str × Str)) (c : Str × Str), go (esc s ++ r) k l c = go r k l (addS c k s) := by
  induction s with
  | nil => intro r k l c; rfl
  | cons b s ih =>
    intro r k l c
    rw [esc_cons, List.append_assoc]
    unfold esc1
    cases hb : escB b
    · rw [escB_eq] at hb
      simp only [Bool.or_eq_false_iff, decide_eq_false_iff_not] at hb
      simp only [cond_false, List.cons_append, List.nil_append]
      rw [go_one _ _ _ hb.1.2 (fun h => hb.1.1 h.1) (.inl hb.2), ih]; rfl
    · simp only [cond_true, List.cons_append, List.nil_append]
      rw [go_esc, ih]; rfl
theorem go_wr (c : Str × Str) (r : Str) (l : List (Str × Str)) : ∃ k, go (wr c ++ r) false l ([], []) = go r k l c := by
  unfold wr
  rw [List.append_assoc, go_str, addS_eq]
  by_cases h : c.2 = []
  · refine ⟨false, ?_⟩
    simp only [h, decide_true, cond_true, List.nil_append, cond_false]
    rw [← h]
  · have hd : decide (c.2 = ([] : Str)) = false := by simp [h]
    refine ⟨true, ?_⟩
    simp only [hd, cond_false, List.nil_append, List.cons_append]
    rw [go_dot, go_str, addS_eq]
    simp
theorem go_txt (r : List (Str × Str)) : ∀ (l : List (Str × Str)) (c : Str × Str), go (txt (c :: r)) false l ([], []) = l ++ c :: r := by
  induction r with
  | nil =>
    intro l c
    obtain ⟨k, h⟩ := go_wr c [] l
    unfold txt
    rw [List.map_singleton, Lib.join_one]
    rw [List.append_nil] at h
    rw [h]; rfl
  | cons d r ih =>
    intro l c
    have e : txt (c :: d :: r) = wr c ++ 47 :: txt (d :: r) := by
      unfold txt
      simp only [List.map_cons]
      rw [Lib.join_cons, Lib.join_cons]
      simp [Lib.joinTail]
    obtain ⟨k, h⟩ := go_wr c (47 :: txt (d :: r)) l
    rw [e, h, go_sep, ih]
    simp
def PA (s : Str) : List (Str × Str) × Int := bif decide (65536 < (s.length : Int)) then ([], 3) else
  bif vOk (go s false [] ([], [])) && decide (txt (go s false [] ([], [])) = s) then (go s false [] ([], []), 0) else ([], 2)
end Go.Ab
namespace Go.Ab
open Go
theorem drop_at {p : Str} {i : Nat} (h : i < p.length) : p.drop i = p.getD i default :: p.drop (i + 1) := by
  rw [List.drop_eq_getElem_cons h, List.getD_eq_getElem?_getD, List.getElem?_eq_getElem h]; rfl
theorem last_w {l : List (Str × Str)} {c : Str × Str} (h : l.length ≤ 9000000) : w64 ((List.length (l ++ [c]) : Int) - 1) = ((l.length : Nat) : Int) := by
  rw [List.length_append, List.length_singleton, w64_id ⟨by omega, by omega⟩]; omega
theorem last_ix {l : List (Str × Str)} {c : Str × Str} : ix (l ++ [c]) ((l.length : Nat) : Int) = some c := ix_of (by simp)
theorem last_set {l : List (Str × Str)} {c d : Str × Str} : (l ++ [c]).set (Int.toNat ((l.length : Nat) : Int)) d = l ++ [d] := by simp
theorem w_succ {i : Nat} (h : i ≤ 9000000) : w64 ((i : Int) + 1) = ((i + 1 : Nat) : Int) := by rw [w64_id ⟨by omega, by omega⟩]; omega
theorem one_eq (b d : UInt8) : decide (([b] : Str) = [d]) = decide (b = d) := by simp
/-! the specification's rounds -/
theorem f8_add {l : List (Str × Str)} {c : Str × Str} {k : Bool} {z : Int} {b : UInt8} (hl : l.length ≤ 70000) (h1 : c.1.length ≤ 70000) (h2 : c.2.length ≤ 70000) :
    (bif k then
bif strOk (List.length c.2 + List.length [b]) then
some (.inl (k, z, ((l ++ [c]).set (Int.toNat ((l.length : Nat) : Int)) (c.1, (c.2 ++ [b])))))
else none
else
bif strOk (List.length c.1 + List.length [b]) then
some (.inl (k, z, ((l ++ [c]).set (Int.toNat ((l.length : Nat) : Int)) ((c.1 ++ [b]), c.2))))
else none : Option ((Bool × Int × (List (Str × Str))) ⊕ Unit)) = some (.inl (k, z, l ++ [app c k b])) := by
  rw [last_set, last_set, strOk_t (by simp; omega), strOk_t (by simp; omega)]
  cases k <;> rfl
theorem app_len {c : Str × Str} {k : Bool} {b : UInt8} {i : Nat} (h1 : c.1.length ≤ i) (h2 : c.2.length ≤ i) : (app c k b).1.length ≤ i + 1 ∧ (app c k b).2.length ≤ i + 1 := by
  unfold app two_set
  cases k <;> simp <;> omega
theorem f8_step {p : Str} {k : Bool} {i : Nat} {l : List (Str × Str)} {c : Str × Str} (hp : p.length ≤ 65536) (hi : i < p.length) (h1 : l.length ≤ i) (h2 : c.1.length ≤ i) (h3 : c.2.length ≤ i) :
    Tot (f8_b0 p (k, (i : Int), l ++ [c])) fun o => ∃ k' i' l' c', o = .inl (k', ((i' : Nat) : Int), l' ++ [c']) ∧ i < i' ∧ i' ≤ p.length ∧ l'.length ≤ i' ∧ c'.1.length ≤ i' ∧ c'.2.length ≤ i' ∧ go (p.drop i) k l c = go (p.drop i') k' l' c' := by
  have hd := drop_at hi
  have hs := sl1 hi (show p.length ≤ 9000000 by omega)
  obtain ⟨b, hb⟩ : ∃ b, p.getD i default = b := ⟨_, rfl⟩
  rw [hb] at hd hs
  have hlt : decide ((i : Int) < (p.length : Int)) = true := by simp; exact hi
  have hw := w_succ (i := i) (by omega)
  have hsl : slOk (i : Int) (w64 ((i : Int) + 1)) p.length = true := by rw [hw]; exact slOk_t (by omega) (by omega) (by omega)
  unfold f8_b0
  simp only [hlt, cond_true, hsl, hs, one_eq]
  rw [last_w (by omega), last_ix]
  simp only [Option.bind_some]
  by_cases c1 : b = 47
  · subst c1
    simp only [decide_true, cond_true]
    rw [apOk_t (by simp; omega)]
    simp only [cond_true, Option.bind_some, hw]
    exact tot_some ⟨false, i + 1, l ++ [c], ([], []), rfl, by omega, by omega, by simp; omega, by simp, by simp, by rw [hd, go_sep]⟩
  · have d1 : decide (b = 47) = false := by simp [c1]
    simp only [d1, cond_false]
    by_cases c2 : b = 46 ∧ k = false
    · obtain ⟨rfl, rfl⟩ := c2
      simp only [decide_true, Bool.not_false, Bool.and_self, cond_true, Option.bind_some, hw]
      exact tot_some ⟨true, i + 1, l, c, rfl, by omega, by omega, by omega, by omega, by omega, by rw [hd, go_dot]⟩
    · have d2 : (decide (b = 46) && !k) = false := by
        rw [Bool.eq_false_iff]; intro h; simp at h; exact c2 h
      simp only [d2, cond_false]
      by_cases c3 : b = 92 ∧ i + 1 < p.length
      · obtain ⟨hb92, hi2⟩ := c3
        have d3 : (decide (b = 92) && decide (w64 ((i : Int) + 1) < (p.length : Int))) = true := by
          rw [hw]; simp [hb92]; omega
        have hw2 := w_succ (i := i + 1) (by omega)
        have hsl2 : slOk (w64 ((i : Int) + 1)) (w64 (w64 ((i : Int) + 1) + 1)) p.length = true := by rw [hw, hw2]; exact slOk_t (by omega) (by omega) (by omega)
        have hd2 := drop_at hi2
        have hs2 := sl1 hi2 (show p.length ≤ 9000000 by omega)
        obtain ⟨d, hdd⟩ : ∃ d, p.getD (i + 1) default = d := ⟨_, rfl⟩
        rw [hdd] at hd2 hs2
        rw [← hw] at hs2
        simp only [d3, cond_true, hsl2, hs2, Option.bind_some]
        rw [f8_add (by omega) (by omega) (by omega)]
        simp only [Option.bind_some, hw, hw2]
        obtain ⟨a1, a2⟩ := app_len (k := k) (b := d) h2 h3
        exact tot_some ⟨k, i + 2, l, app c k d, rfl, by omega, by omega, by omega, by omega, by omega, by rw [hd, hd2, hb92, go_esc]⟩
      · have d3 : (decide (b = 92) && decide (w64 ((i : Int) + 1) < (p.length : Int))) = false := by
          rw [Bool.eq_false_iff]; intro h
          simp only [Bool.and_eq_true, decide_eq_true_eq, hw] at h
          exact c3 ⟨h.1, by omega⟩
        simp only [d3, cond_false, Option.bind_some]
        rw [f8_add (by omega) (by omega) (by omega)]
        simp only [Option.bind_some, hw]
        obtain ⟨a1, a2⟩ := app_len (k := k) (b := b) h2 h3
        refine tot_some ⟨k, i + 1, l, app c k b, rfl, by omega, by omega, by omega, by omega, by omega, ?_⟩
        rw [hd, go_one _ _ _ c1 c2]
        by_cases e : b = 92
        · right
          have : ¬ i + 1 < p.length := fun h => c3 ⟨e, h⟩
          exact List.drop_of_length_le (by omega)
        · exact .inl e
theorem f8_run {p : Str} (hp : p.length ≤ 65536) : ∀ (f i : Nat) (k : Bool) (l : List (Str × Str)) (c : Str × Str), p.length < i + f → i ≤ p.length → l.length ≤ i → c.1.length ≤ i → c.2.length ≤ i → lrun (f8_b0 p) f (k, (i : Int), l ++ [c]) = some (go (p.drop i) k l c) := by
  intro f
  induction f with
  | zero => intro i k l c h1 h2; omega
  | succ f ih =>
    intro i k l c h1 h2 h3 h4 h5
    by_cases hi : i < p.length
    · obtain ⟨o, g1, k', i', l', c', rfl, g2, g3, g4, g5, g6, g7⟩ := f8_step (k := k) hp hi h3 h4 h5
      simp only [lrun, g1, Option.bind_some]
      rw [ih i' k' l' c' (by omega) g3 g4 g5 g6, g7]
    · have hlt : decide ((i : Int) < (p.length : Int)) = false := by simp; omega
      rw [List.drop_of_length_le (by omega)]
      simp only [lrun, f8_b0, hlt, cond_false, Option.bind_some]
      rfl
/-- Components that are read are no longer than what is read. -/
theorem go_lens : ∀ (n : Nat) (r : Str), r.length ≤ n → ∀ (k : Bool) (l : List (Str × Str)) (c : Str × Str) (m : Nat), (∀ x ∈ l, x.1.length ≤ m ∧ x.2.length ≤ m) → c.1.length + r.length ≤ m → c.2.length + r.length ≤ m → ∀ x ∈ go r k l c, x.1.length ≤ m ∧ x.2.length ≤ m := by
  intro n
  induction n with
  | zero =>
    intro r hr k l c m h1 h2 h3
    obtain rfl : r = [] := List.eq_nil_of_length_eq_zero (by omega)
    intro x hx
    simp only [go, List.mem_append, List.mem_singleton] at hx
    rcases hx with hx | rfl
    · exact h1 x hx
    · simp at h2 h3; exact ⟨h2, h3⟩
  | succ n ih =>
    intro r hr k l c m h1 h2 h3
    cases r with
    | nil =>
      intro x hx
      simp only [go, List.mem_append, List.mem_singleton] at hx
      rcases hx with hx | rfl
      · exact h1 x hx
      · simp at h2 h3; exact ⟨h2, h3⟩
    | cons b r =>
      simp only [List.length_cons] at hr h2 h3
      have hA : ∀ d, (app c k d).1.length ≤ c.1.length + 1 ∧ (app c k d).2.length ≤ c.2.length + 1 := fun d => by
        unfold app two_set; cases k <;> simp
      by_cases e1 : b = 47
      · subst e1; rw [go_sep]
        refine ih r (by omega) _ _ _ m (fun x hx => ?_) (by simp; omega) (by simp; omega)
        simp only [List.mem_append, List.mem_singleton] at hx
        rcases hx with hx | rfl
        · exact h1 x hx
        · omega
      · by_cases e2 : b = 46 ∧ k = false
        · obtain ⟨rfl, rfl⟩ := e2; rw [go_dot]; exact ih r (by omega) _ _ _ m h1 (by omega) (by omega)
        · by_cases e3 : b ≠ 92 ∨ r = []
          · rw [go_one r l c e1 e2 e3]; have := hA b; exact ih r (by omega) _ _ _ m h1 (by omega) (by omega)
          · simp only [not_or, Decidable.not_not] at e3
            obtain ⟨rfl, e4⟩ := e3
            cases r with
            | nil => exact absurd rfl e4
            | cons d r => rw [go_esc]; have := hA d; simp only [List.length_cons] at hr h2 h3; exact ih r (by omega) _ _ _ m h1 (by omega) (by omega)
theorem f8_eq (s : Str) : f8 s = some (PA s) := by
  unfold f8 PA
  by_cases h : (65536 : Int) < (s.length : Int)
  · simp [h]
  · have hl : s.length ≤ 65536 := by omega
    have hd : decide ((65536 : Int) < (s.length : Int)) = false := by simp [h]
    simp only [hd, cond_false]
    have hr := f8_run hl (s.length + 1) 0 false [] ([], []) (by omega) (by omega) (by simp) (by simp) (by simp)
    rw [List.nil_append, List.drop_zero] at hr
    rw [show (0 : Int) = ((0 : Nat) : Int) from rfl, hr]
    simp only [Option.bind_some]
    have hn := go_lens s.length s (Nat.le_refl _) false [] ([], []) 65536 (by simp) (by simp; omega) (by simp; omega)
    rw [f10_eq _ fun c hc => by have := hn c hc; omega]
    simp only [Option.bind_some]
    cases hv : vOk (go s false [] ([], []))
    · simp
    · rw [f18_eq hv]
      simp only [Bool.not_true, Bool.not_false, Option.isSome_some, Bool.or_true, cond_true, Option.getD_some, Bool.false_or, Bool.true_and]
      by_cases e : txt (go s false [] ([], [])) = s
      · simp [e]
      · simp [e]
end Go.Ab
namespace Go.Ab
open Go
theorem u8_eq (b : UInt8) (n : Nat) (hn : n < 256) : decide (((b.toNat : Nat) : Int) = (n : Int)) = decide (b = UInt8.ofNat n) := by
  by_cases e : b = UInt8.ofNat n
  · subst e
    have : (UInt8.ofNat n).toNat = n := by simp; omega
    simp [this]
  · have : b.toNat ≠ n := fun h => e (by rw [← h]; simp)
    simp [e]; omega
theorem u47 (b : UInt8) : decide (((b.toNat : Nat) : Int) = 47) = decide (b = 47) := u8_eq b 47 (by omega)
theorem u46 (b : UInt8) : decide (((b.toNat : Nat) : Int) = 46) = decide (b = 46) := u8_eq b 46 (by omega)
theorem u92 (b : UInt8) : decide (((b.toNat : Nat) : Int) = 92) = decide (b = 92) := u8_eq b 92 (by omega)
theorem at_last (n : Nat) (k : Bool) : decide (n * 2 + (bif k then 1 else 0) = n * 2 + 0) = !k := by
  cases k <;> simp
theorem f7_tail {l : List (Str × Str)} {c : Str × Str} {k : Bool} {z : Int} {P : ((Nat × Bool × Int × (List (Str × Str))) ⊕ (Unit ⊕ (List (Str × Str)))) → Prop} (h1 : big l c → P (.inr (.inl ()))) (h2 : P (.inl (l.length, k, w64 (z + 1), l ++ [c]))) :
    Tot (bif (!(!(decide (20 < (List.length (l ++ [c]) : Int)))) || Option.isSome (ix (l ++ [c]) ((l.length : Nat) : Int))) then
bif (decide (20 < (List.length (l ++ [c]) : Int))) || (decide (32 < (List.length (bif k then (((ix (l ++ [c]) ((l.length : Nat) : Int)).getD default)).2 else (((ix (l ++ [c]) ((l.length : Nat) : Int)).getD default)).1) : Int))) then
(some (.inr (.inl ())))
else
(some (.inl (l.length, k, (w64 (z + 1)), l ++ [c])))
else none) P := by
  rw [last_ix]
  simp only [Option.isSome_some, Bool.or_true, cond_true, Option.getD_some]
  by_cases h : (20 : Int) < ((l ++ [c]).length : Int)
  · simp only [decide_eq_true h, Bool.true_or, cond_true]
    exact tot_some (h1 (.inl (by simp at h; omega)))
  · simp only [decide_eq_false h, Bool.false_or]
    cases k
    · simp only [cond_false]
      by_cases g : (32 : Int) < (c.1.length : Int)
      · simp only [decide_eq_true g, cond_true]; exact tot_some (h1 (.inr (.inr (.inl (by omega)))))
      · simp only [decide_eq_false g, cond_false]; exact tot_some h2
    · simp only [cond_true]
      by_cases g : (32 : Int) < (c.2.length : Int)
      · simp only [decide_eq_true g, cond_true]; exact tot_some (h1 (.inr (.inr (.inr (by omega)))))
      · simp only [decide_eq_false g, cond_false]; exact tot_some h2
theorem fld_len {c : Str × Str} {k : Bool} {i : Nat} (h1 : c.1.length ≤ i) (h2 : c.2.length ≤ i) : (bif k then c.2 else c.1).length ≤ i := by cases k <;> assumption
theorem nat_set {l : List (Str × Str)} {c d : Str × Str} : (l ++ [c]).set l.length d = l ++ [d] := by simp
theorem f7_step {p : Str} {k : Bool} {i : Nat} {l : List (Str × Str)} {c : Str × Str} (hp : p.length ≤ 65536) (hi : i < p.length) (h1 : l.length ≤ i) (h2 : c.1.length ≤ i) (h3 : c.2.length ≤ i) :
    Tot (f7_b0 p (l.length, k, (i : Int), l ++ [c])) fun o => (∃ k' i' l' c', o = .inl (l'.length, k', ((i' : Nat) : Int), l' ++ [c']) ∧ i < i' ∧ i' ≤ p.length ∧ l'.length ≤ i' ∧ c'.1.length ≤ i' ∧ c'.2.length ≤ i' ∧ go (p.drop i) k l c = go (p.drop i') k' l' c') ∨ (o = .inr (.inl ()) ∧ vOk (go (p.drop i) k l c) = false) := by
  have hd := drop_at hi
  have hs := sl1 hi (show p.length ≤ 9000000 by omega)
  have hx : ix p (i : Int) = some (p.getD i default) := by
    refine ix_of ?_
    rw [List.getD_eq_getElem?_getD, List.getElem?_eq_getElem hi]; rfl
  obtain ⟨b, hb⟩ : ∃ b, p.getD i default = b := ⟨_, rfl⟩
  rw [hb] at hd hs hx
  have hlt : decide ((i : Int) < (p.length : Int)) = true := by simp; exact hi
  have hw := w_succ (i := i) (by omega)
  have hsl : slOk (i : Int) (w64 ((i : Int) + 1)) p.length = true := by rw [hw]; exact slOk_t (by omega) (by omega) (by omega)
  unfold f7_b0
  simp only [hlt, cond_true, hx, Option.bind_some, u47, u46, u92, hsl, hs]
  rw [last_w (l := l) (c := c) (by omega), last_w (l := l ++ [c]) (c := ([], [])) (by simp; omega), last_ix (l := l) (c := c), last_ix (l := l ++ [c]) (c := ([], []))]
  simp only [Option.isSome_some, Bool.or_true, cond_true, Option.bind_some, Int.toNat_natCast, at_last]
  by_cases c1 : b = 47
  · have d1 : decide (b = 47) = true := by simp [c1]
    simp only [d1, cond_true]
    rw [apOk_t (by simp; omega)]
    simp only [cond_true, Option.bind_some]
    refine f7_tail (fun hb => .inr ⟨rfl, ?_⟩) (.inl ⟨false, i + 1, l ++ [c], ([], []), by rw [hw], by omega, by omega, by simp; omega, by simp, by simp, by rw [hd, c1, go_sep]⟩)
    rw [hd, c1, go_sep]; exact big_go _ _ (Nat.le_refl _) _ _ _ hb
  · have d1 : decide (b = 47) = false := by simp [c1]
    simp only [d1, cond_false]
    by_cases c2 : b = 46 ∧ k = false
    · have d2 : (decide (b = 46) && !k) = true := by simp [c2.1, c2.2]
      simp only [d2, cond_true, Option.bind_some]
      have hk : k = false := c2.2
      refine f7_tail (k := true) (fun hb => .inr ⟨rfl, ?_⟩) (.inl ⟨true, i + 1, l, c, by rw [hw], by omega, by omega, by omega, by omega, by omega, by rw [hd, c2.1, hk, go_dot]⟩)
      rw [hd, c2.1, hk, go_dot]; exact big_go _ _ (Nat.le_refl _) _ _ _ hb
    · have d2 : (decide (b = 46) && !k) = false := by
        rw [Bool.eq_false_iff]; intro h; simp at h; exact c2 h
      simp only [d2, cond_false]
      have hfl := fld_len (k := k) h2 h3
      by_cases c3 : b = 92 ∧ i + 1 < p.length
      · obtain ⟨hb92, hi2⟩ := c3
        have d3 : (decide (b = 92) && decide (w64 ((i : Int) + 1) < (p.length : Int))) = true := by
          rw [hw]; simp [hb92]; omega
        have hw2 := w_succ (i := i + 1) (by omega)
        have hsl2 : slOk (w64 ((i : Int) + 1)) (w64 (w64 ((i : Int) + 1) + 1)) p.length = true := by rw [hw, hw2]; exact slOk_t (by omega) (by omega) (by omega)
        have hd2 := drop_at hi2
        have hs2 := sl1 hi2 (show p.length ≤ 9000000 by omega)
        obtain ⟨d, hdd⟩ : ∃ d, p.getD (i + 1) default = d := ⟨_, rfl⟩
        rw [hdd] at hd2 hs2
        rw [← hw] at hs2
        simp only [d3, cond_true, hsl2, hs2, Option.bind_some]
        rw [strOk_t (by simp; omega), nat_set]
        simp only [cond_true, Option.bind_some, hw]
        obtain ⟨a1, a2⟩ := app_len (k := k) (b := d) h2 h3
        have he : go (p.drop i) k l c = go (p.drop (i + 2)) k l (app c k d) := by rw [hd, hd2, hb92, go_esc]
        refine f7_tail (c := app c k d) (fun hb => .inr ⟨rfl, ?_⟩) (.inl ⟨k, i + 2, l, app c k d, by rw [hw2], by omega, by omega, by omega, by omega, by omega, he⟩)
        rw [he]; exact big_go _ _ (Nat.le_refl _) _ _ _ hb
      · have d3 : (decide (b = 92) && decide (w64 ((i : Int) + 1) < (p.length : Int))) = false := by
          rw [Bool.eq_false_iff]; intro h
          simp only [Bool.and_eq_true, decide_eq_true_eq, hw] at h
          exact c3 ⟨h.1, by omega⟩
        simp only [d3, cond_false, Option.bind_some]
        rw [strOk_t (by simp; omega), nat_set]
        simp only [cond_true, Option.bind_some]
        obtain ⟨a1, a2⟩ := app_len (k := k) (b := b) h2 h3
        have he : go (p.drop i) k l c = go (p.drop (i + 1)) k l (app c k b) := by
          rw [hd, go_one _ _ _ c1 c2]
          by_cases e : b = 92
          · right
            have : ¬ i + 1 < p.length := fun h => c3 ⟨e, h⟩
            exact List.drop_of_length_le (by omega)
          · exact .inl e
        refine f7_tail (c := app c k b) (fun hb => .inr ⟨rfl, ?_⟩) (.inl ⟨k, i + 1, l, app c k b, by rw [hw], by omega, by omega, by omega, by omega, by omega, he⟩)
        rw [he]; exact big_go _ _ (Nat.le_refl _) _ _ _ hb
theorem f7_run {p : Str} (hp : p.length ≤ 65536) : ∀ (f i : Nat) (k : Bool) (l : List (Str × Str)) (c : Str × Str), p.length < i + f → i ≤ p.length → l.length ≤ i → c.1.length ≤ i → c.2.length ≤ i → lrun (f7_b0 p) f (l.length, k, (i : Int), l ++ [c]) = some (.inr (go (p.drop i) k l c)) ∨ (lrun (f7_b0 p) f (l.length, k, (i : Int), l ++ [c]) = some (.inl ()) ∧ vOk (go (p.drop i) k l c) = false) := by
  intro f
  induction f with
  | zero => intro i k l c h1 h2; omega
  | succ f ih =>
    intro i k l c h1 h2 h3 h4 h5
    by_cases hi : i < p.length
    · obtain ⟨o, g1, ⟨k', i', l', c', rfl, g2, g3, g4, g5, g6, g7⟩ | ⟨rfl, g2⟩⟩ := f7_step (k := k) hp hi h3 h4 h5
      · simp only [lrun, g1, Option.bind_some]
        rw [g7]
        exact ih i' k' l' c' (by omega) g3 g4 g5 g6
      · simp only [lrun, g1, Option.bind_some]
        exact .inr ⟨trivial, g2⟩
    · have hlt : decide ((i : Int) < (p.length : Int)) = false := by simp; omega
      rw [List.drop_of_length_le (by omega)]
      left
      simp only [lrun, f7_b0, hlt, cond_false, Option.bind_some]
      rfl
theorem f7_eq (s : Str) : f7 s = some (PA s) := by
  unfold f7 PA
  by_cases h : (65536 : Int) < (s.length : Int)
  · simp [h]
  · have hl : s.length ≤ 65536 := by omega
    have hd : decide ((65536 : Int) < (s.length : Int)) = false := by simp [h]
    simp only [hd, cond_false]
    have hr := f7_run hl (s.length + 1) 0 false [] ([], []) (by omega) (by omega) (by simp) (by simp) (by simp)
    rw [List.nil_append, List.drop_zero] at hr
    rw [show ix [(([] : Str), ([] : Str))] 0 = some ([], []) from rfl]
    simp only [Option.bind_some]
    rcases hr with hr | ⟨hr, hv⟩
    · rw [show (0 : Int) = ((0 : Nat) : Int) from rfl, Int.toNat_natCast]
      have hr : lrun (f7_b0 s) (s.length + 1) (0, false, ((0 : Nat) : Int), [([], [])]) = _ := hr
      rw [hr]
      simp only [Option.bind_some]
      have hn := go_lens s.length s (Nat.le_refl _) false [] ([], []) 65536 (by simp) (by simp; omega) (by simp; omega)
      rw [f9_eq]
      simp only [Option.bind_some]
      cases hv : vOk (go s false [] ([], []))
      · simp
      · rw [f17_eq hv]
        simp only [Bool.not_true, Bool.not_false, Option.isSome_some, Bool.or_true, cond_true, Option.getD_some, Bool.false_or, Bool.true_and]
        by_cases e : txt (go s false [] ([], [])) = s
        · simp [e]
        · simp [e]
    · rw [show (0 : Int) = ((0 : Nat) : Int) from rfl, Int.toNat_natCast]
      have hr : lrun (f7_b0 s) (s.length + 1) (0, false, ((0 : Nat) : Int), [([], [])]) = _ := hr
      rw [hr, hv]
      rfl
end Go.Ab
namespace Go.Ab
open Go
theorem f11_run {l1 l2 : List (Str × Str)} (h : l1.length = l2.length) : ∀ f i, i + f = l1.length → rng (f11_b0 l1 l2) f (i : Int) () = some (bif decide (l1.drop i = l2.drop i) then .inl () else .inr ()) := by
  intro f
  induction f with
  | zero =>
    intro i hi
    rw [List.drop_of_length_le (by omega), List.drop_of_length_le (by omega)]
    simp [rng]
  | succ f ih =>
    intro i hi
    have h1 : i < l1.length := by omega
    have h2 : i < l2.length := by omega
    have e1 : ix l1 (i : Int) = some (l1[i]'h1) := ix_of (List.getElem?_eq_getElem h1)
    have e2 : ix l2 (i : Int) = some (l2[i]'h2) := ix_of (List.getElem?_eq_getElem h2)
    have hn : ((i : Int) + 1) = ((i + 1 : Nat) : Int) := by omega
    have hb : (decide ((l1[i]'h1).1 = (l2[i]'h2).1) && decide ((l1[i]'h1).2 = (l2[i]'h2).2)) = decide (l1[i]'h1 = l2[i]'h2) := by
      rw [Bool.eq_iff_iff]; simp [Prod.ext_iff]
    rw [List.drop_eq_getElem_cons h1, List.drop_eq_getElem_cons h2]
    simp only [rng, f11_b0, e1, e2, Option.bind_some, bstr_dec, hb, List.cons.injEq]
    by_cases e : l1[i]'h1 = l2[i]'h2
    · simp only [e, decide_true, Bool.not_true, cond_false, true_and]
      simp only [Option.bind_some, hn]
      exact ih (i + 1) (by omega)
    · simp only [e, decide_false, Bool.not_false, cond_true, false_and, cond_false]
      rfl
theorem f11_eq (l1 l2 : List (Str × Str)) : f11 l1 l2 = some (decide (l1 = l2)) := by
  unfold f11
  by_cases h : l1.length = l2.length
  · have : decide ((l1.length : Int) = (l2.length : Int)) = true := by simp [h]
    have hr := f11_run h l1.length 0 (by omega)
    simp only [this, Bool.not_true, cond_false, Int.toNat_natCast]
    rw [show (0 : Int) = ((0 : Nat) : Int) from rfl, hr]
    by_cases e : l1 = l2 <;> simp [e]
  · have : decide ((l1.length : Int) = (l2.length : Int)) = false := by simp; omega
    have h' : l1 ≠ l2 := fun e => h (by rw [e])
    simp [this, h']
theorem f35_two (a b : Int) : f35 [a, b] = some (if a = 0 then b else a) := by
  by_cases h1 : a = 0
  · by_cases h2 : b = 0
    · subst h1; subst h2; rfl
    · simp [f35, rng, f35_b0, ix, h1, h2]
  · simp [f35, rng, f35_b0, ix, h1]
theorem f12_eq (a b : Str × Str) : ∃ z, f12 a b = some z ∧ ∀ (ha : a.1.length ≤ 100000 ∧ a.2.length ≤ 100000) (hb : b.1.length ≤ 100000 ∧ b.2.length ≤ 100000), f13 a b = some z := by
  unfold f12 f13 f23
  rw [f21_eq, f21_eq]
  cases h1 : pOk a
  · exact ⟨0, by simp, fun ha hb => by rw [f22_eq a ha, f22_eq b hb, h1]; simp⟩
  · cases h2 : pOk b
    · exact ⟨0, by simp, fun ha hb => by rw [f22_eq a ha, f22_eq b hb, h1, h2]; simp⟩
    · obtain ⟨x, hx⟩ : ∃ x, fCmp a.1 b.1 = some x := ⟨_, rfl⟩
      obtain ⟨y, hy⟩ : ∃ y, fCmp a.2 b.2 = some y := ⟨_, rfl⟩
      refine ⟨if x = 0 then y else x, by simp [hx, hy, f35_two], fun ha hb => ?_⟩
      rw [f22_eq a ha, f22_eq b hb, h1, h2]
      by_cases h : x = 0
      · subst h; simp [hx, hy]
      · simp [hx, hy, h]
theorem f3_loop (n : List (Str × Str)) (hn : ∀ c ∈ n, c.1.length ≤ 100000 ∧ c.2.length ≤ 100000) (hl : n.length ≤ 100000) : ∀ (f i : Nat), 1 ≤ i → n.length + 1 < i + f → i ≤ n.length + 1 → lrun (f3_b1 n) f (i : Int) = some (.inr ()) := by
  intro f
  induction f with
  | zero => intro i h1 h2 h3; omega
  | succ f ih =>
    intro i h1 h2 h3
    by_cases hi : i < n.length
    · have hlt : decide ((i : Int) < (n.length : Int)) = true := by simp; exact hi
      have hw0 : w64 ((i : Int) - 1) = ((i - 1 : Nat) : Int) := by rw [w64_id ⟨by omega, by omega⟩]; omega
      have e1 : ix n ((i - 1 : Nat) : Int) = some (n[i - 1]'(by omega)) := ix_of (List.getElem?_eq_getElem (by omega))
      have e2 : ix n (i : Int) = some (n[i]'hi) := ix_of (List.getElem?_eq_getElem hi)
      obtain ⟨z, h12, h13⟩ := f12_eq (n[i - 1]'(by omega)) (n[i]'hi)
      have h13 := h13 (hn _ (List.getElem_mem _)) (hn _ (List.getElem_mem _))
      simp only [lrun, f3_b1, hlt, cond_true, hw0, e1, e2, Option.bind_some, h12, h13, decide_true, Bool.not_true, cond_false, w_succ (show i ≤ 9000000 by omega)]
      exact ih (i + 1) (by omega) (by omega) (by omega)
    · have hlt : decide ((i : Int) < (n.length : Int)) = false := by simp; omega
      simp only [lrun, f3_b1, hlt, cond_false, Option.bind_some]
theorem f3_scan (n : List (Str × Str)) : ∀ (f i : Nat), i + f = n.length → rng (f3_b0 n) f (i : Int) () = some (.inr true) ∨ (rng (f3_b0 n) f (i : Int) () = some (.inl ()) ∧ ∀ c ∈ n.drop i, c.1.length ≤ 60 ∧ c.2.length ≤ 60) := by
  intro f
  induction f with
  | zero => intro i hi; right; rw [List.drop_of_length_le (by omega)]; exact ⟨rfl, by simp⟩
  | succ f ih =>
    intro i hi
    have h1 : i < n.length := by omega
    have e1 : ix n (i : Int) = some (n[i]'h1) := ix_of (List.getElem?_eq_getElem h1)
    have hn : ((i : Int) + 1) = ((i + 1 : Nat) : Int) := by omega
    rw [List.drop_eq_getElem_cons h1]
    cases hc : (decide ((60 : Int) < ((n[i]'h1).1.length : Int)) || decide ((60 : Int) < ((n[i]'h1).2.length : Int)))
    · have hb : f3_b0 n (i : Int) () = some (.inl ()) := by simp only [f3_b0, e1, Option.bind_some, hc, cond_false]
      simp only [Bool.or_eq_false_iff, decide_eq_false_iff_not] at hc
      simp only [rng, hb, Option.bind_some, hn]
      rcases ih (i + 1) (by omega) with h | ⟨h, h2⟩
      · exact .inl h
      · refine .inr ⟨h, fun c hc' => ?_⟩
        simp only [List.mem_cons] at hc'
        rcases hc' with rfl | hc'
        · omega
        · exact h2 c hc'
    · have hb : f3_b0 n (i : Int) () = some (.inr true) := by simp only [f3_b0, e1, Option.bind_some, hc, cond_true, f4_true]
      left
      simp only [rng, hb, Option.bind_some]
theorem f3_t (n : List (Str × Str)) (t : Str) : f3 n t = some true := by
  unfold f3
  rcases Bool.eq_false_or_eq_true (decide ((40 : Int) < (n.length : Int)) || decide ((2000 : Int) < (t.length : Int))) with h | h
  · rw [h]; simp [f4_true]
  rw [h]
  simp only [Bool.or_eq_false_iff, decide_eq_false_iff_not] at h
  obtain ⟨h1, h2⟩ := h
  simp only [cond_false, Int.toNat_natCast]
  rcases f3_scan n n.length 0 (by omega) with g | ⟨g, hn⟩
  · rw [show (0 : Int) = ((0 : Nat) : Int) from rfl, g]; rfl
  rw [List.drop_zero] at hn
  have hn' : ∀ c ∈ n, c.1.length ≤ 100000 ∧ c.2.length ≤ 100000 := fun c hc => by have := hn c hc; omega
  rw [show (0 : Int) = ((0 : Nat) : Int) from rfl, g]
  simp only [Option.bind_some, f5_eq, f6_eq n hn', f7_eq, f8_eq, f9_eq, f10_eq n hn', f11_eq, Option.isSome_some, Option.getD_some, decide_true, Bool.not_true, Bool.or_false, Bool.or_true, cond_true, cond_false]
  have s1 : (bif decide ((TX n).2 = ((0 : Nat) : Int)) then
      (bif (!decide ((PA (TX n).1).2 = ((0 : Nat) : Int))) || (!decide ((PA (TX n).1).1 = n)) then (some (.inr ()) : Option (Unit ⊕ Unit)) else some (.inl ())) else some (.inl ())) = some (.inl ()) := by
    cases hv : vOk n
    · have : TX n = ([], 1) := by unfold TX; rw [hv]; rfl
      rw [this]; rfl
    · have hT : TX n = (txt n, 0) := by unfold TX; rw [hv]; rfl
      have hl := txt_len hv
      have hg : go (txt n) false [] ([], []) = n := by
        cases n with
        | nil => simp [vOk] at hv
        | cons c r => rw [go_txt]; rfl
      have hd : decide ((65536 : Int) < ((txt n).length : Int)) = false := by simp; omega
      have hP : PA (txt n) = (n, 0) := by
        unfold PA
        rw [hd, hg, hv]
        simp
      rw [hT, hP]
      simp
  have s2 : (bif decide ((PA t).2 = ((0 : Nat) : Int)) then
      (bif (!decide ((TX (PA t).1).2 = ((0 : Nat) : Int))) || (!decide ((TX (PA t).1).1 = t)) then (some (.inr ()) : Option (Unit ⊕ Unit)) else some (.inl ())) else some (.inl ())) = some (.inl ()) := by
    cases hd : decide ((65536 : Int) < (t.length : Int))
    · cases hv : (vOk (go t false [] ([], [])) && decide (txt (go t false [] ([], [])) = t))
      · have : PA t = ([], 2) := by unfold PA; rw [hd, hv]; rfl
        rw [this]; rfl
      · have hP : PA t = (go t false [] ([], []), 0) := by unfold PA; rw [hd, hv]; rfl
        simp only [Bool.and_eq_true, decide_eq_true_eq] at hv
        have hT : TX (go t false [] ([], [])) = (t, 0) := by unfold TX; rw [hv.1, hv.2]; rfl
        rw [hP, hT]
        simp
    · have : PA t = ([], 3) := by unfold PA; rw [hd]; rfl
      rw [this]; rfl
  have s3 := f3_loop n hn' (by omega) (n.length + 1) 1 (by omega) (by omega) (by omega)
  rw [show ((1 : Nat) : Int) = 1 from rfl] at s3
  simp only [s1, s2, s3, f4_true, Option.bind_some]
end Go.Ab
