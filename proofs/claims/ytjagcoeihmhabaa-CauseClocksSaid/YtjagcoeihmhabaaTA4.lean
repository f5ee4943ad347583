/- Lemmas for a law of the seat: what functions of the program do, each stated as a contract of its own (TA4). -/
import Derived.Test.YtjagcoeihmhabaaLayT
import Derived.Test.YtjagcoeihmhabaaChecked
import Derived.Test.YtjagcoeihmhabaaTAd
import Derived.Test.YtjagcoeihmhabaaTA3
set_option linter.unusedVariables false
set_option maxRecDepth 100000
namespace Go.Ab
open Go.RowKit Go.Shelf Go.Proofs Go.Eng
abbrev Y2 : Ty := .st (.pair (.int .i64) (.pair (.int .i64) (.int .i64)))
abbrev Y3 : Ty := .st (.pair (.int .i64) (.int .i64))
theorem ent8 : Enters Try.prog 8 := enters_of Try.func8 (by kernel_rfl) rfl
theorem ent9 : Enters Try.prog 9 := enters_of Try.func9 (by kernel_rfl) rfl
theorem und38 : Und Try.prog 38 (.slice 40) := by unfold Und; kernel_rfl
theorem zt40 : ZeroT Try.prog 40 (.slice .bool) 24 := zeroT_of (z := .slice none 0 0) (by kernel_rfl) rfl
theorem und40 : Und Try.prog 40 (.slice 4) := by unfold Und; kernel_rfl
theorem zt4 : ZeroT Try.prog 4 .bool 1 := zeroT_of (z := .bool false) (by kernel_rfl) rfl
theorem sz40 : Sz Try.prog 40 1 := fun w => by kernel_rfl
theorem ent56 : Enters Try.prog 56 := enters_of Try.func56 (by kernel_rfl) rfl
theorem ts40 : TyS Try.prog 40 false 1 := ⟨fun w => by kernel_rfl, fun w => by kernel_rfl⟩
theorem sz4 : Sz Try.prog 4 1 := fun w => by kernel_rfl
theorem ts4 : TyS Try.prog 4 false 1 := ⟨fun w => by kernel_rfl, fun w => by kernel_rfl⟩
theorem ent53 : Enters Try.prog 53 := enters_of Try.func53 (by kernel_rfl) rfl
theorem ent23 : Enters Try.prog 23 := enters_of Try.func23 (by kernel_rfl) rfl
theorem zt22 : ZeroT Try.prog 22 (.slice (.int .i64)) 24 := zeroT_of (z := .slice none 0 0) (by kernel_rfl) rfl
theorem zero22 : Eng.Zero Try.prog 22 (.slice none 0 0) := fun w => by kernel_rfl
theorem ent54 : Enters Try.prog 54 := enters_of Try.func54 (by kernel_rfl) rfl
theorem ent55 : Enters Try.prog 55 := enters_of Try.func55 (by kernel_rfl) rfl
theorem ent14 : Enters Try.prog 14 := enters_of Try.func14 (by kernel_rfl) rfl
theorem und4 : Und Try.prog 4 .bool := by unfold Und; kernel_rfl
theorem ent20 : Enters Try.prog 20 := enters_of Try.func20 (by kernel_rfl) rfl
theorem ent21 : Enters Try.prog 21 := enters_of Try.func21 (by kernel_rfl) rfl
theorem ent22 : Enters Try.prog 22 := enters_of Try.func22 (by kernel_rfl) rfl
theorem f23_runs {p0 : List (Int × Int × Int × Int × Str)} {r : List (List Bool)} (hr : f23 p0 = some r) : RunsP Try.prog 23 [.sl Y1 p0] [.sl (.slice .bool) r] := by
  refine runs_w Try.func23 Try.ntmps23 rfl (rs := [.tmp 2]) rfl rfl fun w0 X hX => ?_
  refine awc_seq ?_
  refine awc_region ?_
  refine awl_v (av_assign rfl) ?_
  refine awl_nil (athen_norm (awc_seq ?_))
  refine awc_region ?_
  refine awl_v (av_move rfl) ?_
  refine awl_v (av_len_sl (t := Y1) rfl rfl und30 rfl) ?_
  obtain ⟨h1, hr⟩ := chk_some hr
  refine awl_op (aop_makeO (t := .bool) 4 und38 zt40 rfl rfl h1 rfl ?_)
  refine awl_v (av_assign rfl) ?_
  refine awl_nil (athen_norm (awc_seq (awc_seq ?_)))
  refine awc_region ?_
  refine awl_v (av_move rfl) ?_
  refine awl_v (av_len_sl (t := Y1) rfl rfl und30 rfl) ?_
  refine awl_v (av_move rfl) ?_
  refine awl_nil (athen_norm (awc_block ?_))
  obtain ⟨o7, e8, hr⟩ := bnd_some hr
  refine awc_len (t := 0) rfl (fun hl => ?_)
  refine awc_range (S := List (List Bool)) (R := Unit) (List.length p0 : Int) (f23_b0 p0) (fun p => match p with | (i2, s4) => (⟨[(0, .sl Y1 p0), (2, .nils), (3, .sog 0), (11, .int .i64 (List.length p0 : Int)), (12, .int .i64 i2)], [(0, .slo 40 4 .bool s4)], 1⟩ : AS)) (fun o e st => match o with | .inr _ => False | .inl s4 => e = .exit 0 ∧ Wk X st ⟨[(2, .nils), (3, .sog 0)], [(0, .slo 40 4 .bool s4)], 1⟩) (len_ok hl) e8 (wk_of hX [0] 4 rfl rfl ⟨⟨_, rfl, cv0⟩, ⟨_, rfl, cv0⟩, ⟨_, rfl, cv0⟩, ⟨_, rfl, cv0⟩, ⟨_, rfl, cv0⟩, trivial⟩ ⟨cvo0, trivial⟩) ?_ ?_
  · intro e st hx
    rcases o7 with s4 | _
    · obtain ⟨rfl, hw⟩ := hx
      refine ablock_here (athen_norm ((awc_wk hw) (awc_seq ?_)))
      refine awc_region ?_
      refine awl_v (av_move rfl) ?_
      refine awl_v (av_assign rfl) ?_
      have hr := Option.some.inj hr
      subst hr
      exact awl_nil (athen_norm (awc_ret (ret_q (l' := [(2, .sl (.slice .bool) s4)]) (wk_of hX [] 4 rfl rfl ⟨⟨_, rfl, cv0⟩, trivial⟩ trivial) rfl ⟨rfl, trivial⟩)))
    · exact hx.elim
  · rintro i2 s4 o ho
    refine awc_seq ?_
    refine awc_region ?_
    refine awl_v (av_lss rfl rfl) ?_
    refine awl_nil (athen_norm (awc_seq ?_))
    refine awc_cond (b := decide (i2 < (List.length p0 : Int))) rfl (fun hc9 => ?_) (fun hc9 => ?_)
    · obtain ⟨q, hr, rfl⟩ := rb_t hc9 ho
      refine awc_skip (athen_norm (awc_seq (awc_block (awc_seq ?_))))
      refine awc_region ?_
      refine awl_v (av_move rfl) ?_
      refine awl_v (av_assign rfl) ?_
      refine awl_nil (athen_norm (awc_seq ?_))
      refine awc_region ?_
      refine awl_v (av_move rfl) ?_
      refine awl_v (av_move rfl) ?_
      refine awl_v (av_move rfl) ?_
      refine awl_v (av_len_sl (t := Y1) rfl rfl und30 rfl) ?_
      obtain ⟨h10, hr⟩ := chk_some hr
      refine awl_op (aop_make (t := .bool) und40 zt4 rfl rfl h10 rfl ?_)
      obtain ⟨x11, e12, hr⟩ := bnd_some hr
      refine awl_v (av_ia_sog (t := .bool) und38 sz40 rfl rfl rfl e12) ?_
      refine awl_op (aop_store_epg (l' := [(0, .sl Y1 p0), (2, .nils), (3, .sog 0), (11, .int .i64 (List.length p0 : Int)), (12, .int .i64 i2), (13, .bool (decide (i2 < (List.length p0 : Int)))), (14, .int .i64 i2), (4, .int .i64 i2), (15, .sog 0), (16, .int .i64 i2), (17, .sl Y1 p0), (18, .int .i64 (List.length p0 : Int)), (19, .osl 1), (20, .epg 0 (Int.toNat i2))]) sz40 rfl rfl rfl rfl (ix_at e12) (by rw [hX]; rfl) rfl ⟨⟨rfl, rfl⟩, ⟨rfl, rfl⟩, ⟨rfl, rfl⟩, ⟨rfl, rfl⟩, ⟨rfl, rfl⟩, ⟨rfl, rfl⟩, ⟨rfl, rfl⟩, ⟨rfl, rfl⟩, ⟨rfl, rfl⟩, ⟨rfl, rfl⟩, ⟨rfl, rfl⟩, ⟨rfl, rfl⟩, ⟨rfl, rfl⟩, ⟨rfl, rfl⟩, trivial⟩ rfl ?_)
      refine awl_nil (athen_norm (awc_seq ?_))
      refine awc_region ?_
      refine awl_v (av_move rfl) ?_
      refine awl_v (av_move rfl) ?_
      refine awl_nil (athen_norm (awc_block ?_))
      obtain ⟨h18, hr⟩ := chk_some hr
      obtain ⟨o19, e20, hr⟩ := bnd_some hr
      refine awc_range (S := List (List Bool)) (R := Unit) i2 (f23_b1 p0 i2) (fun p => match p with | (i13, s15) => (⟨[(0, .sl Y1 p0), (2, .nils), (3, .sog 0), (4, .int .i64 i2), (11, .int .i64 (List.length p0 : Int)), (12, .int .i64 i2), (21, .int .i64 i2), (22, .int .i64 i13)], [(0, .slo 40 4 .bool s15)], 1⟩ : AS)) (fun o e st => match o with | .inr _ => False | .inl s15 => e = .exit 2 ∧ Wk X st ⟨[(0, .sl Y1 p0), (2, .nils), (3, .sog 0), (11, .int .i64 (List.length p0 : Int)), (12, .int .i64 i2)], [(0, .slo 40 4 .bool s15)], 1⟩) (of_decide_eq_true h18) e20 (wk_of hX [0] 4 rfl rfl ⟨⟨_, rfl, cv0⟩, ⟨_, rfl, cv0⟩, ⟨_, rfl, cv0⟩, ⟨_, rfl, cv0⟩, ⟨_, rfl, cv0⟩, ⟨_, rfl, cv0⟩, ⟨_, rfl, cv0⟩, ⟨_, rfl, cv0⟩, trivial⟩ ⟨cvo0, trivial⟩) ?_ ?_
      · intro e st hx
        rcases o19 with s15 | _
        · obtain ⟨rfl, hw⟩ := hx
          refine ablock_here (ablock_norm (athen_norm ((awc_wk hw) ?_)))
          refine awc_region ?_
          refine awl_v (av_add rfl rfl) ?_
          refine awl_v (av_move rfl) ?_
          have hr := Option.some.inj hr
          subst hr
          exact awl_nil ((wk_of hX [0] 4 rfl rfl ⟨⟨_, rfl, cv0⟩, ⟨_, rfl, cv0⟩, ⟨_, rfl, cv0⟩, ⟨_, rfl, cv0⟩, ⟨_, rfl, cv0⟩, trivial⟩ ⟨cvo0, trivial⟩))
        · exact hx.elim
      · rintro i13 s15 o ho
        refine awc_seq ?_
        refine awc_region ?_
        refine awl_v (av_lss rfl rfl) ?_
        refine awl_nil (athen_norm (awc_seq ?_))
        refine awc_cond (b := decide (i13 < i2)) rfl (fun hc21 => ?_) (fun hc21 => ?_)
        · obtain ⟨q, hr, rfl⟩ := rb_t hc21 ho
          refine awc_skip (athen_norm ?_)
          obtain ⟨o23, e24, hr⟩ := bnd_some hr
          refine awc_join (S := List (List Bool)) (R := Unit) (fun s => match s with | s22 => (⟨[(0, .sl Y1 p0), (2, .nils), (3, .sog 0), (4, .int .i64 i2), (11, .int .i64 (List.length p0 : Int)), (12, .int .i64 i2), (21, .int .i64 i2), (22, .int .i64 i13)], [(0, .slo 40 4 .bool s22)], 1⟩ : AS)) (fun _ _ _ => False) e24 (fun hr => ?_) ?_ ?_
          · refine awc_block (awc_seq ?_)
            refine awc_region ?_
            refine awl_v (av_move rfl) ?_
            refine awl_v (av_assign rfl) ?_
            refine awl_nil (athen_norm (awc_seq (awc_seq ?_)))
            refine awc_region ?_
            refine awl_v (av_move rfl) ?_
            refine awl_v (av_move rfl) ?_
            refine awl_v (av_move rfl) ?_
            obtain ⟨x25, e26, hr⟩ := bnd_some hr
            refine awl_v (av_call (f56_runs e26) ent56 rfl rfl) ?_
            refine awl_v (av_not rfl) ?_
            refine awl_nil (athen_norm ?_)
            refine awc_cond (b := !x25) rfl (fun hc27 => ?_) (fun hc27 => ?_)
            · have hr := if_t hc27 hr
              have hr := Option.some.inj hr
              subst hr
              exact awc_exit (athen_exit (ablock_here ((wk_of hX [0] 4 rfl rfl ⟨⟨_, rfl, cv0⟩, ⟨_, rfl, cv0⟩, ⟨_, rfl, cv0⟩, ⟨_, rfl, cv0⟩, ⟨_, rfl, cv0⟩, ⟨_, rfl, cv0⟩, ⟨_, rfl, cv0⟩, ⟨_, rfl, cv0⟩, trivial⟩ ⟨cvo0, trivial⟩))))
            · have hr := if_f hc27 hr
              refine awc_skip (athen_norm (awc_seq ?_))
              refine awc_region ?_
              refine awl_v (av_move rfl) ?_
              refine awl_v (av_move rfl) ?_
              obtain ⟨x28, e29, hr⟩ := bnd_some hr
              refine awl_v (av_ia_sog (t := .bool) und38 sz40 rfl rfl rfl e29) ?_
              refine awl_v (av_load_epg (t := .bool) ts40 rfl rfl (ix_at e29)) ?_
              refine awl_v (av_move rfl) ?_
              obtain ⟨x30, e31, hr⟩ := bnd_some hr
              refine awl_v (av_ia_row (t := .bool) und40 sz4 rfl rfl rfl (ix_at e29) e31) ?_
              refine awl_op (aop_store_epr (u' := true) sz4 rfl rfl rfl rfl (ix_at e29) (ix_at e31) rfl rfl rfl rfl rfl ?_)
              refine awl_nil (athen_norm (awc_seq ?_))
              refine awc_region ?_
              refine awl_v (av_move rfl) ?_
              refine awl_v (av_move rfl) ?_
              refine awl_nil (athen_norm (awc_block ?_))
              obtain ⟨h37, hr⟩ := chk_some hr
              obtain ⟨o38, e39, hr⟩ := bnd_some hr
              refine awc_range (S := List (List Bool)) (R := Unit) i13 (f23_b2 i2 i13) (fun p => match p with | (i32, s34) => (⟨[(0, .sl Y1 p0), (2, .nils), (3, .sog 0), (4, .int .i64 i2), (5, .int .i64 i13), (11, .int .i64 (List.length p0 : Int)), (12, .int .i64 i2), (21, .int .i64 i2), (22, .int .i64 i13), (36, .int .i64 i13), (37, .int .i64 i32)], [(0, .slo 40 4 .bool s34)], 1⟩ : AS)) (fun o e st => match o with | .inr _ => False | .inl s34 => e = .exit 4 ∧ Wk X st ⟨[(0, .sl Y1 p0), (2, .nils), (3, .sog 0), (4, .int .i64 i2), (11, .int .i64 (List.length p0 : Int)), (12, .int .i64 i2), (21, .int .i64 i2), (22, .int .i64 i13)], [(0, .slo 40 4 .bool s34)], 1⟩) (of_decide_eq_true h37) e39 (wk_of hX [0] 4 rfl rfl ⟨⟨_, rfl, cv0⟩, ⟨_, rfl, cv0⟩, ⟨_, rfl, cv0⟩, ⟨_, rfl, cv0⟩, ⟨_, rfl, cv0⟩, ⟨_, rfl, cv0⟩, ⟨_, rfl, cv0⟩, ⟨_, rfl, cv0⟩, ⟨_, rfl, cv0⟩, ⟨_, rfl, cv0⟩, ⟨_, rfl, cv0⟩, trivial⟩ ⟨cvo0, trivial⟩) ?_ ?_
              · intro e st hx
                rcases o38 with s34 | _
                · obtain ⟨rfl, hw⟩ := hx
                  have hr := Option.some.inj hr
                  subst hr
                  exact ablock_here (ablock_norm ((Wk.trans hw (wk_of hX [0] 4 rfl rfl ⟨⟨_, rfl, cv0⟩, ⟨_, rfl, cv0⟩, ⟨_, rfl, cv0⟩, ⟨_, rfl, cv0⟩, ⟨_, rfl, cv0⟩, ⟨_, rfl, cv0⟩, ⟨_, rfl, cv0⟩, ⟨_, rfl, cv0⟩, trivial⟩ ⟨cvo0, trivial⟩))))
                · exact hx.elim
              · rintro i32 s34 o ho
                refine awc_seq ?_
                refine awc_region ?_
                refine awl_v (av_lss rfl rfl) ?_
                refine awl_nil (athen_norm (awc_seq ?_))
                refine awc_cond (b := decide (i32 < i13)) rfl (fun hc40 => ?_) (fun hc40 => ?_)
                · obtain ⟨q, hr, rfl⟩ := rb_t hc40 ho
                  refine awc_skip (athen_norm (awc_seq (awc_block (awc_seq ?_))))
                  refine awc_region ?_
                  refine awl_v (av_move rfl) ?_
                  refine awl_v (av_assign rfl) ?_
                  refine awl_nil (athen_norm ?_)
                  obtain ⟨x41, e42, hr⟩ := bnd_some hr
                  obtain ⟨x43, e44, hr⟩ := bnd_some hr
                  obtain ⟨h45, hr⟩ := chk_some hr
                  obtain ⟨h46, hr⟩ := chk_some hr
                  refine awc_draw_tail2 22 [22, 22, 22, 22, 22, 22, 22, 22, 22, 22, 22, 22, 22, 22, 22, 22, 22, 22, 22, 22, 22, 22] mixed [0, 2, 3, 4, 5, 11, 12, 21, 22, 36, 37, 6] [(true, .sog 0), (true, .int .i64 i2), (true, .epg 0 (Int.toNat i2)), (true, .row 0 (Int.toNat i2)), (true, .int .i64 i32), (true, .sog 0), (true, .int .i64 i2), (true, .epg 0 (Int.toNat i2)), (true, .row 0 (Int.toNat i2)), (true, .int .i64 i32), (true, .epr 0 (Int.toNat i2) 1 (Int.toNat i32) 0), (true, .bool x43), (true, .bool x43), (!x43, .sog 0), (!x43, .int .i64 i13), (!x43, .epg 0 (Int.toNat i13)), (!x43, .row 0 (Int.toNat i13)), (!x43, .int .i64 i32), (!x43, .epr 0 (Int.toNat i13) 1 (Int.toNat i32) 0), (!x43, .bool ((ix ((ix s34 i13).getD default) i32).getD default)), (true, .bool (x43 || ((ix ((ix s34 i13).getD default) i32).getD default))), (true, .epr 0 (Int.toNat i2) 1 (Int.toNat i32) 0)] [[], [], [0, 1], [2], [], [], [], [5, 6], [7], [], [8, 9], [10], [11], [12], [12], [13, 14, 12], [15, 12], [12], [16, 17, 12], [18, 12], [19, 12], [3, 4]] [20, 21] rfl rfl rfl rfl rfl rfl rfl rfl ⟨?_, ?_, ?_, ?_, ?_, ?_, ?_, ?_, ?_, ?_, ?_, ?_, ?_, ?_, ?_, ?_, ?_, ?_, ?_, ?_, ?_, ?_, trivial⟩ (allT_of ⟨rfl, rfl, trivial⟩) ?_
                  · exact ob_v rfl (fun hg => allT_of trivial) (fun hg => av_move rfl)
                  · exact ob_v rfl (fun hg => allT_of trivial) (fun hg => av_move rfl)
                  · exact ob_v rfl (fun hg => allT_of ⟨rfl, rfl, trivial⟩) (fun hg => av_ia_sog (t := .bool) und38 sz40 rfl rfl rfl e42)
                  · exact ob_v rfl (fun hg => allT_of ⟨rfl, trivial⟩) (fun hg => av_load_epg (t := .bool) ts40 rfl rfl (ix_at e42))
                  · exact ob_v rfl (fun hg => allT_of trivial) (fun hg => av_move rfl)
                  · exact ob_v rfl (fun hg => allT_of trivial) (fun hg => av_move rfl)
                  · exact ob_v rfl (fun hg => allT_of trivial) (fun hg => av_move rfl)
                  · exact ob_v rfl (fun hg => allT_of ⟨rfl, rfl, trivial⟩) (fun hg => av_ia_sog (t := .bool) und38 sz40 rfl rfl rfl e42)
                  · exact ob_v rfl (fun hg => allT_of ⟨rfl, trivial⟩) (fun hg => av_load_epg (t := .bool) ts40 rfl rfl (ix_at e42))
                  · exact ob_v rfl (fun hg => allT_of trivial) (fun hg => av_move rfl)
                  · exact ob_v rfl (fun hg => allT_of ⟨rfl, rfl, trivial⟩) (fun hg => av_ia_row (t := .bool) und40 sz4 rfl rfl rfl (ix_at e42) e44)
                  · exact ob_v rfl (fun hg => allT_of ⟨rfl, trivial⟩) (fun hg => av_load_epr (t := .bool) ts4 rfl rfl rfl (ix_at e42) (ix_at e44) rfl)
                  · exact ob_v rfl (fun hg => allT_of ⟨rfl, trivial⟩) (fun hg => av_move rfl)
                  · exact ob_v ⟨rfl, rfl, rfl, _, rfl, rfl⟩ (fun hg => allT_of ⟨rfl, trivial⟩) (fun hg => av_move rfl)
                  · exact ob_v ⟨rfl, rfl, rfl, _, rfl, rfl⟩ (fun hg => allT_of ⟨rfl, trivial⟩) (fun hg => av_move rfl)
                  · exact ob_v ⟨rfl, rfl, rfl, _, rfl, rfl⟩ (fun hg => allT_of ⟨hg, hg, rfl, trivial⟩) (fun hg => av_ia_sog (t := .bool) und38 sz40 rfl rfl rfl (get_g h45 hg))
                  · exact ob_v ⟨rfl, rfl, rfl, _, rfl, rfl⟩ (fun hg => allT_of ⟨hg, rfl, trivial⟩) (fun hg => av_load_epg (t := .bool) ts40 rfl rfl (ix_at (get_g h45 hg)))
                  · exact ob_v ⟨rfl, rfl, rfl, _, rfl, rfl⟩ (fun hg => allT_of ⟨rfl, trivial⟩) (fun hg => av_move rfl)
                  · exact ob_v ⟨rfl, rfl, rfl, _, rfl, rfl⟩ (fun hg => allT_of ⟨hg, hg, rfl, trivial⟩) (fun hg => av_ia_row (t := .bool) und40 sz4 rfl rfl rfl (ix_at (get_g h45 hg)) (get_g h46 hg))
                  · exact ob_v ⟨rfl, rfl, rfl, _, rfl, rfl⟩ (fun hg => allT_of ⟨hg, rfl, trivial⟩) (fun hg => av_load_epr (t := .bool) ts4 rfl rfl rfl (ix_at (get_g h45 hg)) (ix_at (get_g h46 hg)) rfl)
                  · exact ob_pick (b := false) (p := x43) (q := ((ix ((ix s34 i13).getD default) i32).getD default)) rfl rfl rfl (fun hg => allT_of ⟨rfl, trivial⟩) rfl rfl rfl rfl rfl
                  · exact ob_v rfl (fun hg => allT_of ⟨rfl, rfl, trivial⟩) (fun hg => av_ia_row (t := .bool) und40 sz4 rfl rfl rfl (ix_at e42) e44)
                  refine awl_op (aop_store_epr (u' := x43 || ((ix ((ix s34 i13).getD default) i32).getD default)) sz4 rfl rfl rfl rfl (ix_at e42) (ix_at e44) rfl rfl rfl rfl rfl ?_)
                  refine awl_nil (ablock_norm (athen_norm ?_))
                  refine awc_region ?_
                  refine awl_v (av_add rfl rfl) ?_
                  refine awl_v (av_move rfl) ?_
                  have hr := Option.some.inj hr
                  subst hr
                  exact awl_nil ((wk_of hX [0] 4 rfl rfl ⟨⟨_, rfl, cv0⟩, ⟨_, rfl, cv0⟩, ⟨_, rfl, cv0⟩, ⟨_, rfl, cv0⟩, ⟨_, rfl, cv0⟩, ⟨_, rfl, cv0⟩, ⟨_, rfl, cv0⟩, ⟨_, rfl, cv0⟩, ⟨_, rfl, cv0⟩, ⟨_, rfl, cv0⟩, ⟨_, rfl, cv0⟩, trivial⟩ ⟨cvo0, trivial⟩))
                · obtain rfl := rb_f hc40 ho
                  exact awc_exit (athen_exit (⟨rfl, (wk_of hX [0] 4 rfl rfl ⟨⟨_, rfl, cv0⟩, ⟨_, rfl, cv0⟩, ⟨_, rfl, cv0⟩, ⟨_, rfl, cv0⟩, ⟨_, rfl, cv0⟩, ⟨_, rfl, cv0⟩, ⟨_, rfl, cv0⟩, ⟨_, rfl, cv0⟩, trivial⟩ ⟨cvo0, trivial⟩)⟩))
          · rintro s22 rfl
            refine awc_region ?_
            refine awl_v (av_add rfl rfl) ?_
            refine awl_v (av_move rfl) ?_
            have hr := Option.some.inj hr
            subst hr
            exact awl_nil ((wk_of hX [0] 4 rfl rfl ⟨⟨_, rfl, cv0⟩, ⟨_, rfl, cv0⟩, ⟨_, rfl, cv0⟩, ⟨_, rfl, cv0⟩, ⟨_, rfl, cv0⟩, ⟨_, rfl, cv0⟩, ⟨_, rfl, cv0⟩, ⟨_, rfl, cv0⟩, trivial⟩ ⟨cvo0, trivial⟩))
          · exact fun r h e st hne hx => hx.elim
        · obtain rfl := rb_f hc21 ho
          exact awc_exit (athen_exit (⟨rfl, (wk_of hX [0] 4 rfl rfl ⟨⟨_, rfl, cv0⟩, ⟨_, rfl, cv0⟩, ⟨_, rfl, cv0⟩, ⟨_, rfl, cv0⟩, ⟨_, rfl, cv0⟩, trivial⟩ ⟨cvo0, trivial⟩)⟩))
    · obtain rfl := rb_f hc9 ho
      exact awc_exit (athen_exit (⟨rfl, (wk_of hX [0] 4 rfl rfl ⟨⟨_, rfl, cv0⟩, ⟨_, rfl, cv0⟩, trivial⟩ ⟨cvo0, trivial⟩)⟩))
theorem f20_runs {p0 : Int} {p1 : List (Int × Int × Int × Int × Str)} {r : List (List Int) × Int} (hr : f20 p0 p1 = some r) : RunsP Try.prog 20 [.int .i64 p0, .sl Y1 p1] [.sl (.slice (.int .i64)) r.1, .int .i64 r.2] := by
  refine runs_w Try.func20 Try.ntmps20 rfl (rs := [.tmp 4, .tmp 5]) rfl rfl fun w0 X hX => ?_
  refine awc_seq ?_
  refine awc_region ?_
  refine awl_v (av_assign rfl) ?_
  refine awl_v (av_assign rfl) ?_
  refine awl_nil (athen_norm (awc_seq (awc_seq ?_)))
  refine awc_region ?_
  refine awl_v (av_move rfl) ?_
  refine awl_v (av_move rfl) ?_
  obtain ⟨x1, e2, hr⟩ := bnd_some hr
  refine awl_v (av_callN (as' := [.int .i64 p0, .sl Y1 p1, .nils]) (f53_runs e2) ent53 rfl ⟨cv0, cv0, cv2, trivial⟩ rfl) ?_
  refine awl_v (av_assign rfl) ?_
  refine awl_nil (athen_norm (awc_seq ?_))
  refine awc_region ?_
  refine awl_v (av_move rfl) ?_
  refine awl_v (av_neq rfl rfl) ?_
  refine awl_nil (athen_norm ?_)
  refine awc_cond (b := !decide (x1 = 0)) rfl (fun hc3 => ?_) (fun hc3 => ?_)
  · have hr := if_t hc3 hr
    refine awc_seq ?_
    refine awc_region ?_
    refine awl_v (av_move rfl) ?_
    refine awl_v (av_assign rfl) ?_
    refine awl_v (av_assign rfl) ?_
    have hr := Option.some.inj hr
    subst hr
    exact awl_nil (athen_norm (awc_ret (athen_ret (ret_q (l' := [(4, .sl (.slice (.int .i64)) ([] : List (List Int))), (5, .int .i64 x1)]) (wk_of hX [] 4 rfl rfl ⟨⟨_, rfl, cv2⟩, ⟨_, rfl, cv0⟩, trivial⟩ trivial) rfl ⟨rfl, rfl, trivial⟩))))
  · have hr := if_f hc3 hr
    refine awc_skip (athen_norm (awc_seq ?_))
    refine awc_region ?_
    refine awl_v (av_move rfl) ?_
    obtain ⟨x4, e5, hr⟩ := bnd_some hr
    refine awl_v (av_call (f23_runs e5) ent23 rfl rfl) ?_
    refine awl_v (av_assign rfl) ?_
    refine awl_nil (athen_norm (awc_seq ?_))
    refine awc_region ?_
    refine awl_v (av_move rfl) ?_
    refine awl_v (av_len_sl (t := Y1) rfl rfl und30 rfl) ?_
    obtain ⟨h6, hr⟩ := chk_some hr
    refine awl_op (aop_makeO (t := (.int .i64)) 3 und34 zt22 rfl rfl h6 rfl ?_)
    refine awl_v (av_assign rfl) ?_
    refine awl_nil (athen_norm (awc_seq (awc_seq ?_)))
    refine awc_region ?_
    refine awl_v (av_move rfl) ?_
    refine awl_v (av_len_sl (t := Y1) rfl rfl und30 rfl) ?_
    refine awl_v (av_move rfl) ?_
    refine awl_nil (athen_norm (awc_block ?_))
    obtain ⟨o12, e13, hr⟩ := bnd_some hr
    refine awc_len (t := 1) rfl (fun hl => ?_)
    refine awc_range (S := List (List Int)) (R := Unit) (List.length p1 : Int) (f20_b0 p0 p1 x4) (fun p => match p with | (i7, s9) => (⟨[(0, .int .i64 p0), (1, .sl Y1 p1), (4, .nils), (5, .int .i64 0), (7, .sl (.slice .bool) x4), (8, .sog 0), (24, .int .i64 (List.length p1 : Int)), (25, .int .i64 i7)], [(0, .slo 22 3 (.int .i64) s9)], 1⟩ : AS)) (fun o e st => match o with | .inr _ => False | .inl s9 => e = .exit 0 ∧ Wk X st ⟨[(4, .nils), (5, .int .i64 0), (8, .sog 0)], [(0, .slo 22 3 (.int .i64) s9)], 1⟩) (len_ok hl) e13 (wk_of hX [0] 4 rfl rfl ⟨⟨_, rfl, cv0⟩, ⟨_, rfl, cv0⟩, ⟨_, rfl, cv0⟩, ⟨_, rfl, cv0⟩, ⟨_, rfl, cv0⟩, ⟨_, rfl, cv0⟩, ⟨_, rfl, cv0⟩, ⟨_, rfl, cv0⟩, trivial⟩ ⟨cvo0, trivial⟩) ?_ ?_
    · intro e st hx
      rcases o12 with s9 | _
      · obtain ⟨rfl, hw⟩ := hx
        refine ablock_here (athen_norm ((awc_wk hw) (awc_seq ?_)))
        refine awc_region ?_
        refine awl_v (av_move rfl) ?_
        refine awl_v (av_assign rfl) ?_
        refine awl_v (av_assign rfl) ?_
        have hr := Option.some.inj hr
        subst hr
        exact awl_nil (athen_norm (awc_ret (ret_q (l' := [(4, .sl (.slice (.int .i64)) s9), (5, .int .i64 0)]) (wk_of hX [] 4 rfl rfl ⟨⟨_, rfl, cv0⟩, ⟨_, rfl, cv0⟩, trivial⟩ trivial) rfl ⟨rfl, rfl, trivial⟩)))
      · exact hx.elim
    · rintro i7 s9 o ho
      refine awc_seq ?_
      refine awc_region ?_
      refine awl_v (av_lss rfl rfl) ?_
      refine awl_nil (athen_norm (awc_seq ?_))
      refine awc_cond (b := decide (i7 < (List.length p1 : Int))) rfl (fun hc14 => ?_) (fun hc14 => ?_)
      · obtain ⟨q, hr, rfl⟩ := rb_t hc14 ho
        refine awc_skip (athen_norm (awc_seq (awc_block (awc_seq ?_))))
        refine awc_region ?_
        refine awl_v (av_move rfl) ?_
        refine awl_v (av_assign rfl) ?_
        refine awl_nil (athen_norm (awc_seq ?_))
        refine awc_region ?_
        refine awl_v (av_move rfl) ?_
        refine awl_v (av_move rfl) ?_
        refine awl_v (av_move rfl) ?_
        obtain ⟨h15, hr⟩ := chk_some hr
        refine awl_op (aop_make (t := (.int .i64)) und22 zt3 rfl rfl h15 rfl ?_)
        obtain ⟨x16, e17, hr⟩ := bnd_some hr
        refine awl_v (av_ia_sog (t := (.int .i64)) und34 sz22 rfl rfl rfl e17) ?_
        refine awl_op (aop_store_epg (l' := [(0, .int .i64 p0), (1, .sl Y1 p1), (4, .nils), (5, .int .i64 0), (7, .sl (.slice .bool) x4), (8, .sog 0), (24, .int .i64 (List.length p1 : Int)), (25, .int .i64 i7), (26, .bool (decide (i7 < (List.length p1 : Int)))), (27, .int .i64 i7), (9, .int .i64 i7), (28, .sog 0), (29, .int .i64 i7), (30, .int .i64 p0), (31, .osl 1), (32, .epg 0 (Int.toNat i7))]) sz22 rfl rfl rfl rfl (ix_at e17) (by rw [hX]; rfl) rfl ⟨⟨rfl, rfl⟩, ⟨rfl, rfl⟩, ⟨rfl, rfl⟩, ⟨rfl, rfl⟩, ⟨rfl, rfl⟩, ⟨rfl, rfl⟩, ⟨rfl, rfl⟩, ⟨rfl, rfl⟩, ⟨rfl, rfl⟩, ⟨rfl, rfl⟩, ⟨rfl, rfl⟩, ⟨rfl, rfl⟩, ⟨rfl, rfl⟩, ⟨rfl, rfl⟩, ⟨rfl, rfl⟩, ⟨rfl, rfl⟩, trivial⟩ rfl ?_)
        refine awl_nil (athen_norm (awc_seq ?_))
        obtain ⟨x18, e19, hr⟩ := bnd_some hr
        obtain ⟨x20, e21, hr⟩ := bnd_some hr
        obtain ⟨x22, e23, hr⟩ := bnd_some hr
        refine awc_draw_tail2 10 [10, 10, 10, 10, 10, 10, 10, 10, 10, 10] mixed [0, 1, 4, 5, 7, 8, 24, 25, 9] [(true, .sog 0), (true, .int .i64 i7), (true, .epg 0 (Int.toNat i7)), (true, .row 0 (Int.toNat i7)), (true, .sl Y1 p1), (true, .int .i64 i7), (true, .rp [.int .i64 x20.1, .int .i64 x20.2.1, .int .i64 x20.2.2.1, .int .i64 x20.2.2.2.1, .str x20.2.2.2.2]), (true, .rp [.int .i64 x20.1, .int .i64 x20.2.1, .int .i64 x20.2.2.1, .int .i64 x20.2.2.2.1, .str x20.2.2.2.2]), (true, .int .i64 x20.1), (true, .epr 0 (Int.toNat i7) 1 (Int.toNat x20.1) 0)] [[], [], [0, 1], [2], [], [], [4, 5], [6], [7], [3, 8]] [9] rfl rfl rfl rfl rfl rfl rfl rfl ⟨?_, ?_, ?_, ?_, ?_, ?_, ?_, ?_, ?_, ?_, trivial⟩ (allT_of ⟨rfl, trivial⟩) ?_
        · exact ob_v rfl (fun hg => allT_of trivial) (fun hg => av_move rfl)
        · exact ob_v rfl (fun hg => allT_of trivial) (fun hg => av_move rfl)
        · exact ob_v rfl (fun hg => allT_of ⟨rfl, rfl, trivial⟩) (fun hg => av_ia_sog (t := (.int .i64)) und34 sz22 rfl rfl rfl e19)
        · exact ob_v rfl (fun hg => allT_of ⟨rfl, trivial⟩) (fun hg => av_load_epg (t := (.int .i64)) ts22 rfl rfl (ix_at e19))
        · exact ob_v rfl (fun hg => allT_of trivial) (fun hg => av_move rfl)
        · exact ob_v rfl (fun hg => allT_of trivial) (fun hg => av_move rfl)
        · exact ob_v rfl (fun hg => allT_of ⟨rfl, rfl, trivial⟩) (fun hg => av_ia_sl (t := Y1) (e := x20) und30 sz50 rfl rfl e21)
        · exact ob_v rfl (fun hg => allT_of ⟨rfl, trivial⟩) (fun hg => av_fa_rp fa50_0 rfl rfl)
        · exact ob_v rfl (fun hg => allT_of ⟨rfl, trivial⟩) (fun hg => av_load_rp ts3 rfl)
        · exact ob_v rfl (fun hg => allT_of ⟨rfl, rfl, trivial⟩) (fun hg => av_ia_row (t := (.int .i64)) und22 sz3 rfl rfl rfl (ix_at e19) e23)
        refine awl_op (aop_store_epr (u' := 1) sz3 rfl rfl rfl rfl (ix_at e19) (ix_at e23) rfl rfl rfl rfl rfl ?_)
        refine awl_nil (athen_norm (awc_seq ?_))
        refine awc_region ?_
        refine awl_v (av_move rfl) ?_
        refine awl_v (av_move rfl) ?_
        obtain ⟨x24, e25, hr⟩ := bnd_some hr
        refine awl_v (av_ia_sl (t := (.slice .bool)) (e := x24) und38 sz40 rfl rfl e25) ?_
        refine awl_v (av_load_rp ts40 rfl) ?_
        refine awl_v (av_len_sl (t := .bool) rfl rfl und40 rfl) ?_
        refine awl_v (av_move rfl) ?_
        refine awl_nil (athen_norm (awc_block ?_))
        obtain ⟨o31, e32, hr⟩ := bnd_some hr
        refine awc_len (t := 46) rfl (fun hl => ?_)
        refine awc_range (S := List (List Int)) (R := Unit) (List.length x24 : Int) (f20_b1 p1 i7 x24) (fun p => match p with | (i26, s28) => (⟨[(0, .int .i64 p0), (1, .sl Y1 p1), (4, .nils), (5, .int .i64 0), (7, .sl (.slice .bool) x4), (8, .sog 0), (9, .int .i64 i7), (24, .int .i64 (List.length p1 : Int)), (25, .int .i64 i7), (46, .sl .bool x24), (47, .int .i64 (List.length x24 : Int)), (48, .int .i64 i26)], [(0, .slo 22 3 (.int .i64) s28)], 1⟩ : AS)) (fun o e st => match o with | .inr _ => False | .inl s28 => e = .exit 2 ∧ Wk X st ⟨[(0, .int .i64 p0), (1, .sl Y1 p1), (4, .nils), (5, .int .i64 0), (7, .sl (.slice .bool) x4), (8, .sog 0), (24, .int .i64 (List.length p1 : Int)), (25, .int .i64 i7)], [(0, .slo 22 3 (.int .i64) s28)], 1⟩) (len_ok hl) e32 (wk_of hX [0] 4 rfl rfl ⟨⟨_, rfl, cv0⟩, ⟨_, rfl, cv0⟩, ⟨_, rfl, cv0⟩, ⟨_, rfl, cv0⟩, ⟨_, rfl, cv0⟩, ⟨_, rfl, cv0⟩, ⟨_, rfl, cv0⟩, ⟨_, rfl, cv0⟩, ⟨_, rfl, cv0⟩, ⟨_, rfl, cv0⟩, ⟨_, rfl, cv0⟩, ⟨_, rfl, cv0⟩, trivial⟩ ⟨cvo0, trivial⟩) ?_ ?_
        · intro e st hx
          rcases o31 with s28 | _
          · obtain ⟨rfl, hw⟩ := hx
            refine ablock_here (ablock_norm (athen_norm ((awc_wk hw) ?_)))
            refine awc_region ?_
            refine awl_v (av_add rfl rfl) ?_
            refine awl_v (av_move rfl) ?_
            have hr := Option.some.inj hr
            subst hr
            exact awl_nil ((wk_of hX [0] 4 rfl rfl ⟨⟨_, rfl, cv0⟩, ⟨_, rfl, cv0⟩, ⟨_, rfl, cv0⟩, ⟨_, rfl, cv0⟩, ⟨_, rfl, cv0⟩, ⟨_, rfl, cv0⟩, ⟨_, rfl, cv0⟩, ⟨_, rfl, cv0⟩, trivial⟩ ⟨cvo0, trivial⟩))
          · exact hx.elim
        · rintro i26 s28 o ho
          refine awc_seq ?_
          refine awc_region ?_
          refine awl_v (av_lss rfl rfl) ?_
          refine awl_nil (athen_norm (awc_seq ?_))
          refine awc_cond (b := decide (i26 < (List.length x24 : Int))) rfl (fun hc33 => ?_) (fun hc33 => ?_)
          · obtain ⟨q, hr, rfl⟩ := rb_t hc33 ho
            refine awc_skip (athen_norm ?_)
            obtain ⟨o35, e36, hr⟩ := bnd_some hr
            refine awc_join (S := List (List Int)) (R := Unit) (fun s => match s with | s34 => (⟨[(0, .int .i64 p0), (1, .sl Y1 p1), (4, .nils), (5, .int .i64 0), (7, .sl (.slice .bool) x4), (8, .sog 0), (9, .int .i64 i7), (24, .int .i64 (List.length p1 : Int)), (25, .int .i64 i7), (46, .sl .bool x24), (47, .int .i64 (List.length x24 : Int)), (48, .int .i64 i26)], [(0, .slo 22 3 (.int .i64) s34)], 1⟩ : AS)) (fun _ _ _ => False) e36 (fun hr => ?_) ?_ ?_
            · refine awc_block (awc_seq ?_)
              refine awc_region ?_
              refine awl_v (av_move rfl) ?_
              obtain ⟨x37, e38, hr⟩ := bnd_some hr
              refine awl_v (av_ia_sl (t := .bool) (e := x37) und40 sz4 rfl rfl e38) ?_
              refine awl_v (av_load_rp ts4 rfl) ?_
              refine awl_v (av_assign rfl) ?_
              refine awl_v (av_assign rfl) ?_
              refine awl_nil (athen_norm (awc_seq ?_))
              refine awc_region ?_
              refine awl_v (av_move rfl) ?_
              refine awl_nil (athen_norm ?_)
              refine awc_cond (b := x37) rfl (fun hc39 => ?_) (fun hc39 => ?_)
              · have hr := if_t hc39 hr
                obtain ⟨x40, e41, hr⟩ := bnd_some hr
                obtain ⟨x42, e43, hr⟩ := bnd_some hr
                obtain ⟨x44, e45, hr⟩ := bnd_some hr
                refine awc_draw_tail2 13 [13, 13, 13, 13, 13, 13, 13, 13, 13, 13, 13, 13, 13] mixed [0, 1, 4, 5, 7, 8, 9, 24, 25, 46, 47, 48, 10] [(true, .sog 0), (true, .int .i64 i7), (true, .epg 0 (Int.toNat i7)), (true, .row 0 (Int.toNat i7)), (true, .sl Y1 p1), (true, .int .i64 i26), (true, .rp [.int .i64 x42.1, .int .i64 x42.2.1, .int .i64 x42.2.2.1, .int .i64 x42.2.2.2.1, .str x42.2.2.2.2]), (true, .rp [.int .i64 x42.1, .int .i64 x42.2.1, .int .i64 x42.2.2.1, .int .i64 x42.2.2.2.1, .str x42.2.2.2.2]), (true, .int .i64 x42.1), (true, .epr 0 (Int.toNat i7) 1 (Int.toNat x42.1) 0), (true, .int .i64 x44), (true, .int .i64 (w64 (x44 + 1))), (true, .epr 0 (Int.toNat i7) 1 (Int.toNat x42.1) 0)] [[], [], [0, 1], [2], [], [], [4, 5], [6], [7], [3, 8], [9], [10], [3, 8]] [11, 12] rfl rfl rfl rfl rfl rfl rfl rfl ⟨?_, ?_, ?_, ?_, ?_, ?_, ?_, ?_, ?_, ?_, ?_, ?_, ?_, trivial⟩ (allT_of ⟨rfl, rfl, trivial⟩) ?_
                · exact ob_v rfl (fun hg => allT_of trivial) (fun hg => av_move rfl)
                · exact ob_v rfl (fun hg => allT_of trivial) (fun hg => av_move rfl)
                · exact ob_v rfl (fun hg => allT_of ⟨rfl, rfl, trivial⟩) (fun hg => av_ia_sog (t := (.int .i64)) und34 sz22 rfl rfl rfl e41)
                · exact ob_v rfl (fun hg => allT_of ⟨rfl, trivial⟩) (fun hg => av_load_epg (t := (.int .i64)) ts22 rfl rfl (ix_at e41))
                · exact ob_v rfl (fun hg => allT_of trivial) (fun hg => av_move rfl)
                · exact ob_v rfl (fun hg => allT_of trivial) (fun hg => av_move rfl)
                · exact ob_v rfl (fun hg => allT_of ⟨rfl, rfl, trivial⟩) (fun hg => av_ia_sl (t := Y1) (e := x42) und30 sz50 rfl rfl e43)
                · exact ob_v rfl (fun hg => allT_of ⟨rfl, trivial⟩) (fun hg => av_fa_rp fa50_0 rfl rfl)
                · exact ob_v rfl (fun hg => allT_of ⟨rfl, trivial⟩) (fun hg => av_load_rp ts3 rfl)
                · exact ob_v rfl (fun hg => allT_of ⟨rfl, rfl, trivial⟩) (fun hg => av_ia_row (t := (.int .i64)) und22 sz3 rfl rfl rfl (ix_at e41) e45)
                · exact ob_v rfl (fun hg => allT_of ⟨rfl, trivial⟩) (fun hg => av_load_epr (t := (.int .i64)) ts3 rfl rfl rfl (ix_at e41) (ix_at e45) rfl)
                · exact ob_v rfl (fun hg => allT_of ⟨rfl, trivial⟩) (fun hg => av_add rfl rfl)
                · exact ob_v rfl (fun hg => allT_of ⟨rfl, rfl, trivial⟩) (fun hg => av_ia_row (t := (.int .i64)) und22 sz3 rfl rfl rfl (ix_at e41) e45)
                refine awl_op (aop_store_epr (u' := (w64 (x44 + 1))) sz3 rfl rfl rfl rfl (ix_at e41) (ix_at e45) rfl rfl rfl rfl rfl ?_)
                have hr := Option.some.inj hr
                subst hr
                exact awl_nil (ablock_norm ((wk_of hX [0] 4 rfl rfl ⟨⟨_, rfl, cv0⟩, ⟨_, rfl, cv0⟩, ⟨_, rfl, cv0⟩, ⟨_, rfl, cv0⟩, ⟨_, rfl, cv0⟩, ⟨_, rfl, cv0⟩, ⟨_, rfl, cv0⟩, ⟨_, rfl, cv0⟩, ⟨_, rfl, cv0⟩, ⟨_, rfl, cv0⟩, ⟨_, rfl, cv0⟩, ⟨_, rfl, cv0⟩, trivial⟩ ⟨cvo0, trivial⟩)))
              · have hr := if_f hc39 hr
                have hr := Option.some.inj hr
                subst hr
                exact awc_skip (ablock_norm ((wk_of hX [0] 4 rfl rfl ⟨⟨_, rfl, cv0⟩, ⟨_, rfl, cv0⟩, ⟨_, rfl, cv0⟩, ⟨_, rfl, cv0⟩, ⟨_, rfl, cv0⟩, ⟨_, rfl, cv0⟩, ⟨_, rfl, cv0⟩, ⟨_, rfl, cv0⟩, ⟨_, rfl, cv0⟩, ⟨_, rfl, cv0⟩, ⟨_, rfl, cv0⟩, ⟨_, rfl, cv0⟩, trivial⟩ ⟨cvo0, trivial⟩)))
            · rintro s34 rfl
              refine awc_region ?_
              refine awl_v (av_add rfl rfl) ?_
              refine awl_v (av_move rfl) ?_
              have hr := Option.some.inj hr
              subst hr
              exact awl_nil ((wk_of hX [0] 4 rfl rfl ⟨⟨_, rfl, cv0⟩, ⟨_, rfl, cv0⟩, ⟨_, rfl, cv0⟩, ⟨_, rfl, cv0⟩, ⟨_, rfl, cv0⟩, ⟨_, rfl, cv0⟩, ⟨_, rfl, cv0⟩, ⟨_, rfl, cv0⟩, ⟨_, rfl, cv0⟩, ⟨_, rfl, cv0⟩, ⟨_, rfl, cv0⟩, ⟨_, rfl, cv0⟩, trivial⟩ ⟨cvo0, trivial⟩))
            · exact fun r h e st hne hx => hx.elim
          · obtain rfl := rb_f hc33 ho
            exact awc_exit (athen_exit (⟨rfl, (wk_of hX [0] 4 rfl rfl ⟨⟨_, rfl, cv0⟩, ⟨_, rfl, cv0⟩, ⟨_, rfl, cv0⟩, ⟨_, rfl, cv0⟩, ⟨_, rfl, cv0⟩, ⟨_, rfl, cv0⟩, ⟨_, rfl, cv0⟩, ⟨_, rfl, cv0⟩, trivial⟩ ⟨cvo0, trivial⟩)⟩))
      · obtain rfl := rb_f hc14 ho
        exact awc_exit (athen_exit (⟨rfl, (wk_of hX [0] 4 rfl rfl ⟨⟨_, rfl, cv0⟩, ⟨_, rfl, cv0⟩, ⟨_, rfl, cv0⟩, trivial⟩ ⟨cvo0, trivial⟩)⟩))
theorem f54_runs {p0 : Int} {p1 : List (Int × Int × Int × Int × Str)} {r : List Int} (hr : f54 p0 p1 = some r) : RunsP Try.prog 54 [.int .i64 p0, .sl Y1 p1] [.sl (.int .i64) r] := by
  refine runs_wM Try.func54 Try.ntmps54 rfl (rs := [.tmp 4]) rfl rfl fun w0 X hX => ?_
  refine awc_seq ?_
  refine awc_region ?_
  refine awl_v (av_assign rfl) ?_
  refine awl_nil (athen_norm (awc_seq ?_))
  refine awc_region ?_
  refine awl_op (aop_alloc zero22 rfl ?_)
  refine awl_nil (athen_norm (awc_seq (awc_seq ?_)))
  refine awc_region ?_
  refine awl_v (av_move rfl) ?_
  refine awl_v (av_move rfl) ?_
  obtain ⟨x1, e2, hr⟩ := bnd_some hr
  refine awl_v (av_call (f62_runs e2) ent62 rfl rfl) ?_
  refine awl_nil (athen_norm (awc_block ?_))
  obtain ⟨s5, e10, hr⟩ := bnd_some hr
  refine awc_wk (st' := ⟨[(4, .nils), (5, .ptr 0 0), (13, .fn 82 [] [.rp [.int .i64 p0], .rp [.sl Y1 p1]])], [(0, .var 22 [.osl 1]), (1, .sl 3 (.int .i64) ([] : List Int))], 2⟩) (Wk.trans (wk_ownC (i := 0) (o := 0) 3 (.int .i64) rfl rfl rfl) (wk_of hX [0, 1] 4 rfl rfl ⟨⟨_, rfl, cv0⟩, ⟨_, rfl, cv0⟩, ⟨_, rfl, cv0⟩, trivial⟩ ⟨cvo0, cvo0, trivial⟩)) (awc_rangeF (σ := List Int) (α := Int × List Int) 1 (f54_b0) (fun x => [.int .i64 x.1, .sl (.int .i64) x.2]) [(4, .nils), (5, .ptr 0 0), (13, .fn 82 [] [.rp [.int .i64 p0], .rp [.sl Y1 p1]])] (fun p => match p with | s5 => ([(0, .var 22 [.osl 1]), (1, .sl 3 (.int .i64) s5)] : AH)) 2 rfl rfl rfl ent82 rfl rfl (fun _ => rfl) rfl (by rw [hX]; rfl) rfl (fun L rec G hrec hY => f82_iter (q := f54_b0) e10 hrec hY) ?_ ?_)
  · intro w0 L X hX
    rintro s5 ⟨y11, y12⟩ s' hr
    refine awc_region ?_
    refine awl_v (av_assign rfl) ?_
    refine awl_nil (ranged ?_)
    intro w0
    refine awc_block (awc_seq ?_)
    refine awc_region ?_
    refine awl_v (av_assign rfl) ?_
    refine awl_nil (athen_norm (awc_seq (awc_seq ?_)))
    refine awc_region ?_
    refine awl_v (av_move rfl) ?_
    refine awl_v (av_len_sl (t := (.int .i64)) rfl rfl und22 rfl) ?_
    refine awl_v (av_move rfl) ?_
    refine awl_nil (athen_norm (awc_block ?_))
    obtain ⟨o18, e19, hr⟩ := bnd_some hr
    refine awc_len (t := 15) rfl (fun hl => ?_)
    refine awc_range (S := Int) (R := Unit) (List.length y12 : Int) (f54_b1 s5 y12) (fun p => match p with | (i13, s14) => (⟨[(4, .nils), (5, .ptr 0 0), (7, .sl (.int .i64) y12), (8, .int .i64 s14), (15, .sl (.int .i64) y12), (16, .sl (.int .i64) y12), (17, .int .i64 (List.length y12 : Int)), (18, .int .i64 i13)], [(0, .var 22 [.osl 1]), (1, .sl 3 (.int .i64) s5)], 2⟩ : AS)) (fun o e st => match o with | .inr _ => False | .inl s14 => e = .exit 2 ∧ Wk X st ⟨[(4, .nils), (5, .ptr 0 0), (7, .sl (.int .i64) y12), (8, .int .i64 s14), (15, .sl (.int .i64) y12)], [(0, .var 22 [.osl 1]), (1, .sl 3 (.int .i64) s5)], 2⟩) (len_ok hl) e19 (wk_of hX [0, 1] 4 rfl rfl ⟨⟨_, rfl, cv0⟩, ⟨_, rfl, cv0⟩, ⟨_, rfl, cv0⟩, ⟨_, rfl, cv0⟩, ⟨_, rfl, cv0⟩, ⟨_, rfl, cv0⟩, ⟨_, rfl, cv0⟩, ⟨_, rfl, cv0⟩, trivial⟩ ⟨cvo0, cvo0, trivial⟩) ?_ ?_
    · intro e st hx
      rcases o18 with s14 | _
      · obtain ⟨rfl, hw⟩ := hx
        refine ablock_here (athen_norm ((awc_wk hw) ?_))
        refine awc_region ?_
        refine awl_v (av_load_ptr ts22 rfl rfl rfl) ?_
        refine awl_v (av_move rfl) ?_
        refine awl_v (av_add rfl rfl) ?_
        refine awl_v (av_buildSlice (t := (.int .i64)) (qs := [(0, [.int .i64 (w64 (s14 + 1))])]) (ys := [(w64 (s14 + 1))]) bs22 rfl rfl rfl rfl rfl rfl rfl rfl) ?_
        obtain ⟨h20, hr⟩ := chk_some hr
        refine awl_op (aop_append rfl rfl app22 rfl rfl rfl h20 rfl ?_)
        refine awl_op (aop_store sz22 rfl rfl rfl rfl rfl rfl rfl ?_)
        have hr := Option.some.inj hr
        subst hr
        exact awl_nil (ablock_norm ((wk_of hX [0, 2] 4 rfl rfl trivial ⟨cvo0, cvo0, trivial⟩)))
      · exact hx.elim
    · rintro i13 s14 o ho
      refine awc_seq ?_
      refine awc_region ?_
      refine awl_v (av_lss rfl rfl) ?_
      refine awl_nil (athen_norm (awc_seq ?_))
      refine awc_cond (b := decide (i13 < (List.length y12 : Int))) rfl (fun hc21 => ?_) (fun hc21 => ?_)
      · obtain ⟨q, hr, rfl⟩ := rb_t hc21 ho
        refine awc_skip (athen_norm (awc_seq (awc_block (awc_seq ?_))))
        refine awc_region ?_
        obtain ⟨x22, e23, hr⟩ := bnd_some hr
        refine awl_v (av_ia_sl (t := (.int .i64)) (e := x22) und22 sz3 rfl rfl e23) ?_
        refine awl_v (av_load_rp ts3 rfl) ?_
        refine awl_v (av_assign rfl) ?_
        refine awl_nil (athen_norm ?_)
        refine awc_region ?_
        refine awl_v (av_move rfl) ?_
        refine awl_v (av_load_ptr ts22 rfl rfl rfl) ?_
        refine awl_v (av_move rfl) ?_
        obtain ⟨x24, e25, hr⟩ := bnd_some hr
        refine awl_v (av_ia_osl (t := (.int .i64)) und22 sz3 rfl rfl rfl e25) ?_
        refine awl_v (av_load_ep ts3 rfl rfl rfl (ix_at e25) rfl) ?_
        refine awl_v (av_max rfl rfl rfl) ?_
        refine awl_v (av_assign rfl) ?_
        refine awl_nil (ablock_norm (athen_norm ?_))
        refine awc_region ?_
        refine awl_v (av_add rfl rfl) ?_
        refine awl_v (av_move rfl) ?_
        have hr := Option.some.inj hr
        subst hr
        exact awl_nil ((wk_of hX [0, 1] 4 rfl rfl ⟨⟨_, rfl, cv0⟩, ⟨_, rfl, cv0⟩, ⟨_, rfl, cv0⟩, ⟨_, rfl, cv0⟩, ⟨_, rfl, cv0⟩, ⟨_, rfl, cv0⟩, ⟨_, rfl, cv0⟩, ⟨_, rfl, cv0⟩, trivial⟩ ⟨cvo0, cvo0, trivial⟩))
      · obtain rfl := rb_f hc21 ho
        exact awc_exit (athen_exit (⟨rfl, (wk_of hX [0, 1] 4 rfl rfl ⟨⟨_, rfl, cv0⟩, ⟨_, rfl, cv0⟩, ⟨_, rfl, cv0⟩, ⟨_, rfl, cv0⟩, ⟨_, rfl, cv0⟩, trivial⟩ ⟨cvo0, cvo0, trivial⟩)⟩))
  refine ablock_norm (athen_norm (awc_seq ?_))
  refine awc_region ?_
  refine awl_v (av_load_ptr ts22 rfl rfl rfl) ?_
  refine awl_v (av_assign rfl) ?_
  have hr := Option.some.inj hr
  subst hr
  exact awl_nil (athen_norm (awc_ret (ret_q (l' := [(4, .sl (.int .i64) s5)]) (wk_of hX [] 4 rfl rfl ⟨⟨_, rfl, cv0⟩, trivial⟩ trivial) rfl ⟨rfl, trivial⟩)))
theorem f21_runs {p0 : Int} {p1 : List (Int × Int × Int × Int × Str)} {r : List Int × Int} (hr : f21 p0 p1 = some r) : RunsP Try.prog 21 [.int .i64 p0, .sl Y1 p1] [.sl (.int .i64) r.1, .int .i64 r.2] := by
  refine runs_w Try.func21 Try.ntmps21 rfl (rs := [.tmp 4, .tmp 5]) rfl rfl fun w0 X hX => ?_
  refine awc_seq ?_
  refine awc_region ?_
  refine awl_v (av_assign rfl) ?_
  refine awl_v (av_assign rfl) ?_
  refine awl_nil (athen_norm (awc_seq (awc_seq ?_)))
  refine awc_region ?_
  refine awl_v (av_move rfl) ?_
  refine awl_v (av_move rfl) ?_
  obtain ⟨x1, e2, hr⟩ := bnd_some hr
  refine awl_v (av_call (f17_runs e2) ent17 rfl rfl) ?_
  refine awl_v (av_not rfl) ?_
  refine awl_nil (athen_norm ?_)
  refine awc_cond (b := !x1) rfl (fun hc3 => ?_) (fun hc3 => ?_)
  · have hr := if_t hc3 hr
    refine awc_seq ?_
    refine awc_region ?_
    refine awl_v (av_assign rfl) ?_
    refine awl_v (av_assign rfl) ?_
    have hr := Option.some.inj hr
    subst hr
    exact awl_nil (athen_norm (awc_ret (athen_ret (ret_q (l' := [(4, .sl (.int .i64) ([] : List Int)), (5, .int .i64 1)]) (wk_of hX [] 4 rfl rfl ⟨⟨_, rfl, cv2⟩, ⟨_, rfl, cv0⟩, trivial⟩ trivial) rfl ⟨rfl, rfl, trivial⟩))))
  · have hr := if_f hc3 hr
    refine awc_skip (athen_norm (awc_seq ?_))
    refine awc_region ?_
    refine awl_v (av_move rfl) ?_
    refine awl_v (av_move rfl) ?_
    obtain ⟨x4, e5, hr⟩ := bnd_some hr
    refine awl_v (av_call (f54_runs e5) ent54 rfl rfl) ?_
    refine awl_v (av_assign rfl) ?_
    refine awl_v (av_assign rfl) ?_
    have hr := Option.some.inj hr
    subst hr
    exact awl_nil (athen_norm (awc_ret (ret_q (l' := [(4, .sl (.int .i64) x4), (5, .int .i64 0)]) (wk_of hX [] 4 rfl rfl ⟨⟨_, rfl, cv0⟩, ⟨_, rfl, cv0⟩, trivial⟩ trivial) rfl ⟨rfl, rfl, trivial⟩)))
theorem f55_runs {p0 : List (Int × Int × Int × Int × Str)} {r : List Int} (hr : f55 p0 = some r) : RunsP Try.prog 55 [.sl Y1 p0] [.sl (.int .i64) r] := by
  refine runs_w Try.func55 Try.ntmps55 rfl (rs := [.tmp 2]) rfl rfl fun w0 X hX => ?_
  refine awc_seq ?_
  refine awc_region ?_
  refine awl_v (av_assign rfl) ?_
  refine awl_nil (athen_norm (awc_seq ?_))
  refine awc_region ?_
  refine awl_v (av_move rfl) ?_
  obtain ⟨x1, e2, hr⟩ := bnd_some hr
  refine awl_v (av_call (f23_runs e2) ent23 rfl rfl) ?_
  refine awl_v (av_assign rfl) ?_
  refine awl_nil (athen_norm (awc_seq ?_))
  refine awc_region ?_
  refine awl_v (av_move rfl) ?_
  refine awl_v (av_len_sl (t := Y1) rfl rfl und30 rfl) ?_
  obtain ⟨h3, hr⟩ := chk_some hr
  refine awl_op (aop_make (t := (.int .i64)) und22 zt3 rfl rfl h3 rfl ?_)
  refine awl_v (av_assign rfl) ?_
  refine awl_nil (athen_norm (awc_seq (awc_seq ?_)))
  refine awc_region ?_
  refine awl_v (av_move rfl) ?_
  refine awl_v (av_len_sl (t := Y1) rfl rfl und30 rfl) ?_
  refine awl_v (av_move rfl) ?_
  refine awl_nil (athen_norm (awc_block ?_))
  obtain ⟨o9, e10, hr⟩ := bnd_some hr
  refine awc_len (t := 0) rfl (fun hl => ?_)
  refine awc_range (S := List Int) (R := Unit) (List.length p0 : Int) (f55_b0 x1) (fun p => match p with | (i4, s6) => (⟨[(2, .nils), (3, .sl (.slice .bool) x1), (4, .osl 0), (14, .int .i64 (List.length p0 : Int)), (15, .int .i64 i4)], [(0, .sl 3 (.int .i64) s6)], 1⟩ : AS)) (fun o e st => match o with | .inr _ => False | .inl s6 => e = .exit 0 ∧ Wk X st ⟨[(2, .nils), (4, .osl 0)], [(0, .sl 3 (.int .i64) s6)], 1⟩) (len_ok hl) e10 (wk_of hX [0] 4 rfl rfl ⟨⟨_, rfl, cv0⟩, ⟨_, rfl, cv0⟩, ⟨_, rfl, cv0⟩, ⟨_, rfl, cv0⟩, ⟨_, rfl, cv0⟩, trivial⟩ ⟨cvo0, trivial⟩) ?_ ?_
  · intro e st hx
    rcases o9 with s6 | _
    · obtain ⟨rfl, hw⟩ := hx
      refine ablock_here (athen_norm ((awc_wk hw) (awc_seq ?_)))
      refine awc_region ?_
      refine awl_v (av_move rfl) ?_
      refine awl_v (av_assign rfl) ?_
      have hr := Option.some.inj hr
      subst hr
      exact awl_nil (athen_norm (awc_ret (ret_q (l' := [(2, .sl (.int .i64) s6)]) (wk_of hX [] 4 rfl rfl ⟨⟨_, rfl, cv0⟩, trivial⟩ trivial) rfl ⟨rfl, trivial⟩)))
    · exact hx.elim
  · rintro i4 s6 o ho
    refine awc_seq ?_
    refine awc_region ?_
    refine awl_v (av_lss rfl rfl) ?_
    refine awl_nil (athen_norm (awc_seq ?_))
    refine awc_cond (b := decide (i4 < (List.length p0 : Int))) rfl (fun hc11 => ?_) (fun hc11 => ?_)
    · obtain ⟨q, hr, rfl⟩ := rb_t hc11 ho
      refine awc_skip (athen_norm (awc_seq (awc_block (awc_seq ?_))))
      refine awc_region ?_
      refine awl_v (av_move rfl) ?_
      refine awl_v (av_assign rfl) ?_
      refine awl_nil (athen_norm (awc_seq ?_))
      refine awc_region ?_
      refine awl_v (av_move rfl) ?_
      refine awl_v (av_move rfl) ?_
      obtain ⟨x12, e13, hr⟩ := bnd_some hr
      refine awl_v (av_ia_osl (t := (.int .i64)) und22 sz3 rfl rfl rfl e13) ?_
      refine awl_op (aop_store_ep (e' := 1) sz3 rfl rfl rfl rfl (ix_at e13) rfl rfl rfl rfl rfl ?_)
      refine awl_nil (athen_norm (awc_seq ?_))
      refine awc_region ?_
      refine awl_v (av_move rfl) ?_
      refine awl_v (av_move rfl) ?_
      obtain ⟨x14, e15, hr⟩ := bnd_some hr
      refine awl_v (av_ia_sl (t := (.slice .bool)) (e := x14) und38 sz40 rfl rfl e15) ?_
      refine awl_v (av_load_rp ts40 rfl) ?_
      refine awl_v (av_len_sl (t := .bool) rfl rfl und40 rfl) ?_
      refine awl_v (av_move rfl) ?_
      refine awl_nil (athen_norm (awc_block ?_))
      obtain ⟨o21, e22, hr⟩ := bnd_some hr
      refine awc_len (t := 24) rfl (fun hl => ?_)
      refine awc_range (S := List Int) (R := Unit) (List.length x14 : Int) (f55_b1 i4 x14) (fun p => match p with | (i16, s18) => (⟨[(2, .nils), (3, .sl (.slice .bool) x1), (4, .osl 0), (5, .int .i64 i4), (14, .int .i64 (List.length p0 : Int)), (15, .int .i64 i4), (24, .sl .bool x14), (25, .int .i64 (List.length x14 : Int)), (26, .int .i64 i16)], [(0, .sl 3 (.int .i64) s18)], 1⟩ : AS)) (fun o e st => match o with | .inr _ => False | .inl s18 => e = .exit 2 ∧ Wk X st ⟨[(2, .nils), (3, .sl (.slice .bool) x1), (4, .osl 0), (14, .int .i64 (List.length p0 : Int)), (15, .int .i64 i4)], [(0, .sl 3 (.int .i64) s18)], 1⟩) (len_ok hl) e22 (wk_of hX [0] 4 rfl rfl ⟨⟨_, rfl, cv0⟩, ⟨_, rfl, cv0⟩, ⟨_, rfl, cv0⟩, ⟨_, rfl, cv0⟩, ⟨_, rfl, cv0⟩, ⟨_, rfl, cv0⟩, ⟨_, rfl, cv0⟩, ⟨_, rfl, cv0⟩, ⟨_, rfl, cv0⟩, trivial⟩ ⟨cvo0, trivial⟩) ?_ ?_
      · intro e st hx
        rcases o21 with s18 | _
        · obtain ⟨rfl, hw⟩ := hx
          refine ablock_here (ablock_norm (athen_norm ((awc_wk hw) ?_)))
          refine awc_region ?_
          refine awl_v (av_add rfl rfl) ?_
          refine awl_v (av_move rfl) ?_
          have hr := Option.some.inj hr
          subst hr
          exact awl_nil ((wk_of hX [0] 4 rfl rfl ⟨⟨_, rfl, cv0⟩, ⟨_, rfl, cv0⟩, ⟨_, rfl, cv0⟩, ⟨_, rfl, cv0⟩, ⟨_, rfl, cv0⟩, trivial⟩ ⟨cvo0, trivial⟩))
        · exact hx.elim
      · rintro i16 s18 o ho
        refine awc_seq ?_
        refine awc_region ?_
        refine awl_v (av_lss rfl rfl) ?_
        refine awl_nil (athen_norm (awc_seq ?_))
        refine awc_cond (b := decide (i16 < (List.length x14 : Int))) rfl (fun hc23 => ?_) (fun hc23 => ?_)
        · obtain ⟨q, hr, rfl⟩ := rb_t hc23 ho
          refine awc_skip (athen_norm ?_)
          obtain ⟨o25, e26, hr⟩ := bnd_some hr
          refine awc_join (S := List Int) (R := Unit) (fun s => match s with | s24 => (⟨[(2, .nils), (3, .sl (.slice .bool) x1), (4, .osl 0), (5, .int .i64 i4), (14, .int .i64 (List.length p0 : Int)), (15, .int .i64 i4), (24, .sl .bool x14), (25, .int .i64 (List.length x14 : Int)), (26, .int .i64 i16)], [(0, .sl 3 (.int .i64) s24)], 1⟩ : AS)) (fun _ _ _ => False) e26 (fun hr => ?_) ?_ ?_
          · refine awc_block (awc_seq ?_)
            refine awc_region ?_
            refine awl_v (av_move rfl) ?_
            obtain ⟨x27, e28, hr⟩ := bnd_some hr
            refine awl_v (av_ia_sl (t := .bool) (e := x27) und40 sz4 rfl rfl e28) ?_
            refine awl_v (av_load_rp ts4 rfl) ?_
            refine awl_v (av_assign rfl) ?_
            refine awl_v (av_assign rfl) ?_
            refine awl_nil (athen_norm (awc_seq ?_))
            refine awc_region ?_
            refine awl_v (av_move rfl) ?_
            refine awl_nil (athen_norm ?_)
            refine awc_cond (b := x27) rfl (fun hc29 => ?_) (fun hc29 => ?_)
            · have hr := if_t hc29 hr
              obtain ⟨x30, e31, hr⟩ := bnd_some hr
              obtain ⟨x32, e33, hr⟩ := bnd_some hr
              refine awc_draw_tail2 13 [13, 13, 13, 13, 13, 13, 13, 13, 13, 13, 13, 13, 13] mixed [2, 3, 4, 5, 14, 15, 24, 25, 26, 6] [(true, .osl 0), (true, .int .i64 i4), (true, .osl 0), (true, .int .i64 i4), (true, .ep 0 1 (Int.toNat i4) 0), (true, .int .i64 x30), (true, .osl 0), (true, .int .i64 i16), (true, .ep 0 1 (Int.toNat i16) 0), (true, .int .i64 x32), (true, .int .i64 (w64 (x32 + 1))), (true, .int .i64 (max x30 (w64 (x32 + 1)))), (true, .ep 0 1 (Int.toNat i4) 0)] [[], [], [], [], [2, 3], [4], [], [], [6, 7], [8], [9], [5, 10], [0, 1]] [11, 12] rfl rfl rfl rfl rfl rfl rfl rfl ⟨?_, ?_, ?_, ?_, ?_, ?_, ?_, ?_, ?_, ?_, ?_, ?_, ?_, trivial⟩ (allT_of ⟨rfl, rfl, trivial⟩) ?_
              · exact ob_v rfl (fun hg => allT_of trivial) (fun hg => av_move rfl)
              · exact ob_v rfl (fun hg => allT_of trivial) (fun hg => av_move rfl)
              · exact ob_v rfl (fun hg => allT_of trivial) (fun hg => av_move rfl)
              · exact ob_v rfl (fun hg => allT_of trivial) (fun hg => av_move rfl)
              · exact ob_v rfl (fun hg => allT_of ⟨rfl, rfl, trivial⟩) (fun hg => av_ia_osl (t := (.int .i64)) und22 sz3 rfl rfl rfl e31)
              · exact ob_v rfl (fun hg => allT_of ⟨rfl, trivial⟩) (fun hg => av_load_ep ts3 rfl rfl rfl (ix_at e31) rfl)
              · exact ob_v rfl (fun hg => allT_of trivial) (fun hg => av_move rfl)
              · exact ob_v rfl (fun hg => allT_of trivial) (fun hg => av_move rfl)
              · exact ob_v rfl (fun hg => allT_of ⟨rfl, rfl, trivial⟩) (fun hg => av_ia_osl (t := (.int .i64)) und22 sz3 rfl rfl rfl e33)
              · exact ob_v rfl (fun hg => allT_of ⟨rfl, trivial⟩) (fun hg => av_load_ep ts3 rfl rfl rfl (ix_at e33) rfl)
              · exact ob_v rfl (fun hg => allT_of ⟨rfl, trivial⟩) (fun hg => av_add rfl rfl)
              · exact ob_v rfl (fun hg => allT_of ⟨rfl, rfl, trivial⟩) (fun hg => av_max rfl rfl rfl)
              · exact ob_v rfl (fun hg => allT_of ⟨rfl, rfl, trivial⟩) (fun hg => av_ia_osl (t := (.int .i64)) und22 sz3 rfl rfl rfl e31)
              refine awl_op (aop_store_ep (e' := (max x30 (w64 (x32 + 1)))) sz3 rfl rfl rfl rfl (ix_at e31) rfl rfl rfl rfl rfl ?_)
              have hr := Option.some.inj hr
              subst hr
              exact awl_nil (ablock_norm ((wk_of hX [0] 4 rfl rfl ⟨⟨_, rfl, cv0⟩, ⟨_, rfl, cv0⟩, ⟨_, rfl, cv0⟩, ⟨_, rfl, cv0⟩, ⟨_, rfl, cv0⟩, ⟨_, rfl, cv0⟩, ⟨_, rfl, cv0⟩, ⟨_, rfl, cv0⟩, ⟨_, rfl, cv0⟩, trivial⟩ ⟨cvo0, trivial⟩)))
            · have hr := if_f hc29 hr
              have hr := Option.some.inj hr
              subst hr
              exact awc_skip (ablock_norm ((wk_of hX [0] 4 rfl rfl ⟨⟨_, rfl, cv0⟩, ⟨_, rfl, cv0⟩, ⟨_, rfl, cv0⟩, ⟨_, rfl, cv0⟩, ⟨_, rfl, cv0⟩, ⟨_, rfl, cv0⟩, ⟨_, rfl, cv0⟩, ⟨_, rfl, cv0⟩, ⟨_, rfl, cv0⟩, trivial⟩ ⟨cvo0, trivial⟩)))
          · rintro s24 rfl
            refine awc_region ?_
            refine awl_v (av_add rfl rfl) ?_
            refine awl_v (av_move rfl) ?_
            have hr := Option.some.inj hr
            subst hr
            exact awl_nil ((wk_of hX [0] 4 rfl rfl ⟨⟨_, rfl, cv0⟩, ⟨_, rfl, cv0⟩, ⟨_, rfl, cv0⟩, ⟨_, rfl, cv0⟩, ⟨_, rfl, cv0⟩, ⟨_, rfl, cv0⟩, ⟨_, rfl, cv0⟩, ⟨_, rfl, cv0⟩, ⟨_, rfl, cv0⟩, trivial⟩ ⟨cvo0, trivial⟩))
          · exact fun r h e st hne hx => hx.elim
        · obtain rfl := rb_f hc23 ho
          exact awc_exit (athen_exit (⟨rfl, (wk_of hX [0] 4 rfl rfl ⟨⟨_, rfl, cv0⟩, ⟨_, rfl, cv0⟩, ⟨_, rfl, cv0⟩, ⟨_, rfl, cv0⟩, ⟨_, rfl, cv0⟩, trivial⟩ ⟨cvo0, trivial⟩)⟩))
    · obtain rfl := rb_f hc11 ho
      exact awc_exit (athen_exit (⟨rfl, (wk_of hX [0] 4 rfl rfl ⟨⟨_, rfl, cv0⟩, ⟨_, rfl, cv0⟩, trivial⟩ ⟨cvo0, trivial⟩)⟩))
theorem f22_runs {p0 : Int} {p1 : List (Int × Int × Int × Int × Str)} {r : List Int × Int} (hr : f22 p0 p1 = some r) : RunsP Try.prog 22 [.int .i64 p0, .sl Y1 p1] [.sl (.int .i64) r.1, .int .i64 r.2] := by
  refine runs_w Try.func22 Try.ntmps22 rfl (rs := [.tmp 4, .tmp 5]) rfl rfl fun w0 X hX => ?_
  refine awc_seq ?_
  refine awc_region ?_
  refine awl_v (av_assign rfl) ?_
  refine awl_v (av_assign rfl) ?_
  refine awl_nil (athen_norm (awc_seq (awc_seq ?_)))
  refine awc_region ?_
  refine awl_v (av_move rfl) ?_
  refine awl_v (av_move rfl) ?_
  obtain ⟨x1, e2, hr⟩ := bnd_some hr
  refine awl_v (av_callN (as' := [.int .i64 p0, .sl Y1 p1, .nils]) (f53_runs e2) ent53 rfl ⟨cv0, cv0, cv2, trivial⟩ rfl) ?_
  refine awl_v (av_assign rfl) ?_
  refine awl_nil (athen_norm (awc_seq ?_))
  refine awc_region ?_
  refine awl_v (av_move rfl) ?_
  refine awl_v (av_neq rfl rfl) ?_
  refine awl_nil (athen_norm ?_)
  refine awc_cond (b := !decide (x1 = 0)) rfl (fun hc3 => ?_) (fun hc3 => ?_)
  · have hr := if_t hc3 hr
    refine awc_seq ?_
    refine awc_region ?_
    refine awl_v (av_move rfl) ?_
    refine awl_v (av_assign rfl) ?_
    refine awl_v (av_assign rfl) ?_
    have hr := Option.some.inj hr
    subst hr
    exact awl_nil (athen_norm (awc_ret (athen_ret (ret_q (l' := [(4, .sl (.int .i64) ([] : List Int)), (5, .int .i64 x1)]) (wk_of hX [] 4 rfl rfl ⟨⟨_, rfl, cv2⟩, ⟨_, rfl, cv0⟩, trivial⟩ trivial) rfl ⟨rfl, rfl, trivial⟩))))
  · have hr := if_f hc3 hr
    refine awc_skip (athen_norm (awc_seq ?_))
    refine awc_region ?_
    refine awl_v (av_move rfl) ?_
    obtain ⟨x4, e5, hr⟩ := bnd_some hr
    refine awl_v (av_call (f55_runs e5) ent55 rfl rfl) ?_
    refine awl_v (av_assign rfl) ?_
    refine awl_v (av_assign rfl) ?_
    have hr := Option.some.inj hr
    subst hr
    exact awl_nil (athen_norm (awc_ret (ret_q (l' := [(4, .sl (.int .i64) x4), (5, .int .i64 0)]) (wk_of hX [] 4 rfl rfl ⟨⟨_, rfl, cv0⟩, ⟨_, rfl, cv0⟩, trivial⟩ trivial) rfl ⟨rfl, rfl, trivial⟩)))
theorem f4_runs {p0 : Int} {p1 : List (Int × Int × Int × Int × Str)} {r : Bool} (hr : f4 p0 p1 = some r) : RunsP Try.prog 4 [.int .i64 p0, .sl Y1 p1] [.bool r] := by
  refine runs_w Try.func4 Try.ntmps4 rfl (rs := [.tmp 4]) rfl rfl fun w0 X hX => ?_
  refine awc_seq ?_
  refine awc_region ?_
  refine awl_v (av_assign rfl) ?_
  refine awl_nil (athen_norm (awc_seq (awc_seq ?_)))
  refine awc_region ?_
  refine awl_v (av_move rfl) ?_
  obtain ⟨x1, e2, hr⟩ := bnd_some hr
  refine awl_v (av_call (f14_runs e2) ent14 rfl rfl) ?_
  refine awl_v (av_not rfl) ?_
  refine awl_nil (athen_norm ?_)
  refine awc_cond (b := !x1) rfl (fun hc3 => ?_) (fun hc3 => ?_)
  · have hr := if_t hc3 hr
    refine awc_seq ?_
    refine awc_region ?_
    obtain ⟨x4, e5, hr⟩ := bnd_some hr
    refine awl_v (av_call (f8_runs e5) ent8 rfl rfl) ?_
    refine awl_v (av_assign rfl) ?_
    have hr := Option.some.inj hr
    subst hr
    exact awl_nil (athen_norm (awc_ret (athen_ret (ret_q (l' := [(4, .bool x4)]) (wk_of hX [] 4 rfl rfl ⟨⟨_, rfl, cv0⟩, trivial⟩ trivial) rfl ⟨rfl, trivial⟩))))
  · have hr := if_f hc3 hr
    refine awc_skip (athen_norm (awc_seq ?_))
    refine awc_region ?_
    refine awl_v (av_move rfl) ?_
    refine awl_v (av_move rfl) ?_
    obtain ⟨x6, e7, hr⟩ := bnd_some hr
    refine awl_v (av_call (f15_runs e7) ent15 rfl rfl) ?_
    refine awl_v (av_move rfl) ?_
    refine awl_v (av_extract rfl rfl) ?_
    refine awl_v (av_extract rfl rfl) ?_
    refine awl_v (av_assign rfl) ?_
    refine awl_v (av_assign rfl) ?_
    refine awl_nil (athen_norm (awc_seq ?_))
    refine awc_region ?_
    refine awl_v (av_move rfl) ?_
    refine awl_v (av_move rfl) ?_
    obtain ⟨x8, e9, hr⟩ := bnd_some hr
    refine awl_v (av_call (f16_runs e9) ent16 rfl rfl) ?_
    refine awl_v (av_move rfl) ?_
    refine awl_v (av_extract rfl rfl) ?_
    refine awl_v (av_extract rfl rfl) ?_
    refine awl_v (av_assign rfl) ?_
    refine awl_v (av_assign rfl) ?_
    refine awl_nil (athen_norm (awc_seq (awc_seq ?_)))
    obtain ⟨h10, hr⟩ := chk_some hr
    obtain ⟨h11, hr⟩ := chk_some hr
    refine awc_text [0, 1, 4, 5, 6, 7, 8] [(true, .int .i64 x6.1), (true, .int .i64 x8.1), (true, .bool (!decide (x6.1 = x8.1))), (true, .bool (!decide (x6.1 = x8.1))), (!(!decide (x6.1 = x8.1)), .int .i64 x6.2), (!(!decide (x6.1 = x8.1)), .int .i64 x8.2), (!(!decide (x6.1 = x8.1)), .bool (!decide (x6.2 = x8.2))), (true, .bool ((!decide (x6.1 = x8.1)) || (!decide (x6.2 = x8.2)))), (true, .bool ((!decide (x6.1 = x8.1)) || (!decide (x6.2 = x8.2)))), (!((!decide (x6.1 = x8.1)) || (!decide (x6.2 = x8.2))), .int .i64 p0), (!((!decide (x6.1 = x8.1)) || (!decide (x6.2 = x8.2))), .sl Y1 p1), (!((!decide (x6.1 = x8.1)) || (!decide (x6.2 = x8.2))), .bool ((f17 p0 p1).getD default)), (!((!decide (x6.1 = x8.1)) || (!decide (x6.2 = x8.2))), .int .i64 p0), (!((!decide (x6.1 = x8.1)) || (!decide (x6.2 = x8.2))), .sl Y1 p1), (!((!decide (x6.1 = x8.1)) || (!decide (x6.2 = x8.2))), .bool ((f18 p0 p1).getD default)), (!((!decide (x6.1 = x8.1)) || (!decide (x6.2 = x8.2))), .bool (!decide (((f17 p0 p1).getD default) = ((f18 p0 p1).getD default)))), (true, .bool (((!decide (x6.1 = x8.1)) || (!decide (x6.2 = x8.2))) || (!decide (((f17 p0 p1).getD default) = ((f18 p0 p1).getD default)))))] [[], [], [0, 1], [2], [3], [3], [4, 5, 3], [6, 3], [7], [8], [8], [9, 10, 8], [8], [8], [12, 13, 8], [11, 14, 8], [15, 8]] [16] rfl rfl rfl rfl rfl ⟨?_, ?_, ?_, ?_, ?_, ?_, ?_, ?_, ?_, ?_, ?_, ?_, ?_, ?_, ?_, ?_, ?_, trivial⟩ (allT_of ⟨rfl, trivial⟩) ?_
    · exact ob_v rfl (fun hg => allT_of trivial) (fun hg => av_move rfl)
    · exact ob_v rfl (fun hg => allT_of trivial) (fun hg => av_move rfl)
    · exact ob_v rfl (fun hg => allT_of ⟨rfl, rfl, trivial⟩) (fun hg => av_neq rfl rfl)
    · exact ob_v rfl (fun hg => allT_of ⟨rfl, trivial⟩) (fun hg => av_move rfl)
    · exact ob_v ⟨rfl, rfl, rfl, _, rfl, rfl⟩ (fun hg => allT_of ⟨rfl, trivial⟩) (fun hg => av_move rfl)
    · exact ob_v ⟨rfl, rfl, rfl, _, rfl, rfl⟩ (fun hg => allT_of ⟨rfl, trivial⟩) (fun hg => av_move rfl)
    · exact ob_v ⟨rfl, rfl, rfl, _, rfl, rfl⟩ (fun hg => allT_of ⟨hg, hg, rfl, trivial⟩) (fun hg => av_neq rfl rfl)
    · exact ob_pick (b := false) (p := !decide (x6.1 = x8.1)) (q := !decide (x6.2 = x8.2)) rfl rfl rfl (fun hg => allT_of ⟨rfl, trivial⟩) rfl rfl rfl rfl rfl
    · exact ob_v rfl (fun hg => allT_of ⟨rfl, trivial⟩) (fun hg => av_move rfl)
    · exact ob_v ⟨rfl, rfl, rfl, _, rfl, rfl⟩ (fun hg => allT_of ⟨rfl, trivial⟩) (fun hg => av_move rfl)
    · exact ob_v ⟨rfl, rfl, rfl, _, rfl, rfl⟩ (fun hg => allT_of ⟨rfl, trivial⟩) (fun hg => av_move rfl)
    · exact ob_v ⟨rfl, rfl, rfl, _, rfl, rfl⟩ (fun hg => allT_of ⟨hg, hg, rfl, trivial⟩) (fun hg => av_call (f17_runs (get_g h10 hg)) ent17 rfl rfl)
    · exact ob_v ⟨rfl, rfl, rfl, _, rfl, rfl⟩ (fun hg => allT_of ⟨rfl, trivial⟩) (fun hg => av_move rfl)
    · exact ob_v ⟨rfl, rfl, rfl, _, rfl, rfl⟩ (fun hg => allT_of ⟨rfl, trivial⟩) (fun hg => av_move rfl)
    · exact ob_v ⟨rfl, rfl, rfl, _, rfl, rfl⟩ (fun hg => allT_of ⟨hg, hg, rfl, trivial⟩) (fun hg => av_call (f18_runs (get_g h11 hg)) ent18 rfl rfl)
    · exact ob_v ⟨rfl, rfl, rfl, _, rfl, rfl⟩ (fun hg => allT_of ⟨hg, hg, rfl, trivial⟩) (fun hg => av_neqb und4 rfl rfl)
    · exact ob_pick (b := false) (p := (!decide (x6.1 = x8.1)) || (!decide (x6.2 = x8.2))) (q := !decide (((f17 p0 p1).getD default) = ((f18 p0 p1).getD default))) rfl rfl rfl (fun hg => allT_of ⟨rfl, trivial⟩) rfl rfl rfl rfl rfl
    refine athen_norm ?_
    refine awc_cond (b := ((!decide (x6.1 = x8.1)) || (!decide (x6.2 = x8.2))) || (!decide (((f17 p0 p1).getD default) = ((f18 p0 p1).getD default)))) rfl (fun hc12 => ?_) (fun hc12 => ?_)
    · have hr := if_t hc12 hr
      refine awc_seq ?_
      refine awc_region ?_
      refine awl_v (av_assign rfl) ?_
      have hr := Option.some.inj hr
      subst hr
      exact awl_nil (athen_norm (awc_ret (athen_ret (ret_q (l' := [(4, .bool false)]) (wk_of hX [] 4 rfl rfl ⟨⟨_, rfl, cv0⟩, trivial⟩ trivial) rfl ⟨rfl, trivial⟩))))
    · have hr := if_f hc12 hr
      refine awc_skip (athen_norm (awc_seq ?_))
      refine awc_region ?_
      refine awl_v (av_move rfl) ?_
      refine awl_v (av_move rfl) ?_
      obtain ⟨x13, e14, hr⟩ := bnd_some hr
      refine awl_v (av_call (f19_runs e14) ent19 rfl rfl) ?_
      refine awl_v (av_move rfl) ?_
      refine awl_v (av_extract rfl rfl) ?_
      refine awl_v (av_extract rfl rfl) ?_
      refine awl_v (av_assign rfl) ?_
      refine awl_v (av_assign rfl) ?_
      refine awl_nil (athen_norm (awc_seq ?_))
      refine awc_region ?_
      refine awl_v (av_move rfl) ?_
      refine awl_v (av_move rfl) ?_
      obtain ⟨x15, e16, hr⟩ := bnd_some hr
      refine awl_v (av_call (f20_runs e16) ent20 rfl rfl) ?_
      refine awl_v (av_move rfl) ?_
      refine awl_v (av_extract rfl rfl) ?_
      refine awl_v (av_extract rfl rfl) ?_
      refine awl_v (av_assign rfl) ?_
      refine awl_v (av_assign rfl) ?_
      refine awl_nil (athen_norm (awc_seq ?_))
      refine awc_region ?_
      refine awl_v (av_move rfl) ?_
      refine awl_v (av_move rfl) ?_
      obtain ⟨x17, e18, hr⟩ := bnd_some hr
      refine awl_v (av_call (f21_runs e18) ent21 rfl rfl) ?_
      refine awl_v (av_move rfl) ?_
      refine awl_v (av_extract rfl rfl) ?_
      refine awl_v (av_extract rfl rfl) ?_
      refine awl_v (av_assign rfl) ?_
      refine awl_v (av_assign rfl) ?_
      refine awl_nil (athen_norm (awc_seq ?_))
      refine awc_region ?_
      refine awl_v (av_move rfl) ?_
      refine awl_v (av_move rfl) ?_
      obtain ⟨x19, e20, hr⟩ := bnd_some hr
      refine awl_v (av_call (f22_runs e20) ent22 rfl rfl) ?_
      refine awl_v (av_move rfl) ?_
      refine awl_v (av_extract rfl rfl) ?_
      refine awl_v (av_extract rfl rfl) ?_
      refine awl_v (av_assign rfl) ?_
      refine awl_v (av_assign rfl) ?_
      refine awl_nil (athen_norm (awc_seq (awc_seq ?_)))
      obtain ⟨h21, hr⟩ := chk_some hr
      refine awc_text [1, 4, 9, 10, 11, 12, 13, 14, 15, 16] [(true, .int .i64 x13.2), (true, .int .i64 x15.2), (true, .bool (!decide (x13.2 = x15.2))), (true, .bool (!decide (x13.2 = x15.2))), (!(!decide (x13.2 = x15.2)), .sl (.slice (.int .i64)) x13.1), (!(!decide (x13.2 = x15.2)), .int .i64 (List.length x13.1 : Int)), (!(!decide (x13.2 = x15.2)), .sl (.slice (.int .i64)) x15.1), (!(!decide (x13.2 = x15.2)), .int .i64 (List.length x15.1 : Int)), (!(!decide (x13.2 = x15.2)), .bool (!decide ((List.length x13.1 : Int) = (List.length x15.1 : Int)))), (true, .bool ((!decide (x13.2 = x15.2)) || (!decide ((List.length x13.1 : Int) = (List.length x15.1 : Int))))), (true, .bool ((!decide (x13.2 = x15.2)) || (!decide ((List.length x13.1 : Int) = (List.length x15.1 : Int))))), (!((!decide (x13.2 = x15.2)) || (!decide ((List.length x13.1 : Int) = (List.length x15.1 : Int)))), .sl (.int .i64) x17.1), (!((!decide (x13.2 = x15.2)) || (!decide ((List.length x13.1 : Int) = (List.length x15.1 : Int)))), .sl (.int .i64) x19.1), (!((!decide (x13.2 = x15.2)) || (!decide ((List.length x13.1 : Int) = (List.length x15.1 : Int)))), .bool ((f13 x17.1 x19.1).getD default)), (!((!decide (x13.2 = x15.2)) || (!decide ((List.length x13.1 : Int) = (List.length x15.1 : Int)))), .bool (!((f13 x17.1 x19.1).getD default))), (true, .bool (((!decide (x13.2 = x15.2)) || (!decide ((List.length x13.1 : Int) = (List.length x15.1 : Int)))) || (!((f13 x17.1 x19.1).getD default)))), (true, .bool (((!decide (x13.2 = x15.2)) || (!decide ((List.length x13.1 : Int) = (List.length x15.1 : Int)))) || (!((f13 x17.1 x19.1).getD default)))), (!(((!decide (x13.2 = x15.2)) || (!decide ((List.length x13.1 : Int) = (List.length x15.1 : Int)))) || (!((f13 x17.1 x19.1).getD default))), .int .i64 x17.2), (!(((!decide (x13.2 = x15.2)) || (!decide ((List.length x13.1 : Int) = (List.length x15.1 : Int)))) || (!((f13 x17.1 x19.1).getD default))), .int .i64 x19.2), (!(((!decide (x13.2 = x15.2)) || (!decide ((List.length x13.1 : Int) = (List.length x15.1 : Int)))) || (!((f13 x17.1 x19.1).getD default))), .bool (!decide (x17.2 = x19.2))), (true, .bool ((((!decide (x13.2 = x15.2)) || (!decide ((List.length x13.1 : Int) = (List.length x15.1 : Int)))) || (!((f13 x17.1 x19.1).getD default))) || (!decide (x17.2 = x19.2))))] [[], [], [0, 1], [2], [3], [4, 3], [3], [6, 3], [5, 7, 3], [8, 3], [9], [10], [10], [11, 12, 10], [13, 10], [14, 10], [15], [16], [16], [17, 18, 16], [19, 16]] [20] rfl rfl rfl rfl rfl ⟨?_, ?_, ?_, ?_, ?_, ?_, ?_, ?_, ?_, ?_, ?_, ?_, ?_, ?_, ?_, ?_, ?_, ?_, ?_, ?_, ?_, trivial⟩ (allT_of ⟨rfl, trivial⟩) ?_
      · exact ob_v rfl (fun hg => allT_of trivial) (fun hg => av_move rfl)
      · exact ob_v rfl (fun hg => allT_of trivial) (fun hg => av_move rfl)
      · exact ob_v rfl (fun hg => allT_of ⟨rfl, rfl, trivial⟩) (fun hg => av_neq rfl rfl)
      · exact ob_v rfl (fun hg => allT_of ⟨rfl, trivial⟩) (fun hg => av_move rfl)
      · exact ob_v ⟨rfl, rfl, rfl, _, rfl, rfl⟩ (fun hg => allT_of ⟨rfl, trivial⟩) (fun hg => av_move rfl)
      · exact ob_v ⟨rfl, rfl, rfl, _, rfl, rfl⟩ (fun hg => allT_of ⟨hg, rfl, trivial⟩) (fun hg => av_len_sl (t := (.slice (.int .i64))) rfl rfl und34 rfl)
      · exact ob_v ⟨rfl, rfl, rfl, _, rfl, rfl⟩ (fun hg => allT_of ⟨rfl, trivial⟩) (fun hg => av_move rfl)
      · exact ob_v ⟨rfl, rfl, rfl, _, rfl, rfl⟩ (fun hg => allT_of ⟨hg, rfl, trivial⟩) (fun hg => av_len_sl (t := (.slice (.int .i64))) rfl rfl und34 rfl)
      · exact ob_v ⟨rfl, rfl, rfl, _, rfl, rfl⟩ (fun hg => allT_of ⟨hg, hg, rfl, trivial⟩) (fun hg => av_neq rfl rfl)
      · exact ob_pick (b := false) (p := !decide (x13.2 = x15.2)) (q := !decide ((List.length x13.1 : Int) = (List.length x15.1 : Int))) rfl rfl rfl (fun hg => allT_of ⟨rfl, trivial⟩) rfl rfl rfl rfl rfl
      · exact ob_v rfl (fun hg => allT_of ⟨rfl, trivial⟩) (fun hg => av_move rfl)
      · exact ob_v ⟨rfl, rfl, rfl, _, rfl, rfl⟩ (fun hg => allT_of ⟨rfl, trivial⟩) (fun hg => av_move rfl)
      · exact ob_v ⟨rfl, rfl, rfl, _, rfl, rfl⟩ (fun hg => allT_of ⟨rfl, trivial⟩) (fun hg => av_move rfl)
      · exact ob_v ⟨rfl, rfl, rfl, _, rfl, rfl⟩ (fun hg => allT_of ⟨hg, hg, rfl, trivial⟩) (fun hg => av_call (f13_runs (get_g h21 hg)) ent13 rfl rfl)
      · exact ob_v ⟨rfl, rfl, rfl, _, rfl, rfl⟩ (fun hg => allT_of ⟨hg, rfl, trivial⟩) (fun hg => av_not rfl)
      · exact ob_pick (b := false) (p := (!decide (x13.2 = x15.2)) || (!decide ((List.length x13.1 : Int) = (List.length x15.1 : Int)))) (q := !((f13 x17.1 x19.1).getD default)) rfl rfl rfl (fun hg => allT_of ⟨rfl, trivial⟩) rfl rfl rfl rfl rfl
      · exact ob_v rfl (fun hg => allT_of ⟨rfl, trivial⟩) (fun hg => av_move rfl)
      · exact ob_v ⟨rfl, rfl, rfl, _, rfl, rfl⟩ (fun hg => allT_of ⟨rfl, trivial⟩) (fun hg => av_move rfl)
      · exact ob_v ⟨rfl, rfl, rfl, _, rfl, rfl⟩ (fun hg => allT_of ⟨rfl, trivial⟩) (fun hg => av_move rfl)
      · exact ob_v ⟨rfl, rfl, rfl, _, rfl, rfl⟩ (fun hg => allT_of ⟨hg, hg, rfl, trivial⟩) (fun hg => av_neq rfl rfl)
      · exact ob_pick (b := false) (p := ((!decide (x13.2 = x15.2)) || (!decide ((List.length x13.1 : Int) = (List.length x15.1 : Int)))) || (!((f13 x17.1 x19.1).getD default))) (q := !decide (x17.2 = x19.2)) rfl rfl rfl (fun hg => allT_of ⟨rfl, trivial⟩) rfl rfl rfl rfl rfl
      refine athen_norm ?_
      refine awc_cond (b := (((!decide (x13.2 = x15.2)) || (!decide ((List.length x13.1 : Int) = (List.length x15.1 : Int)))) || (!((f13 x17.1 x19.1).getD default))) || (!decide (x17.2 = x19.2))) rfl (fun hc22 => ?_) (fun hc22 => ?_)
      · have hr := if_t hc22 hr
        refine awc_seq ?_
        refine awc_region ?_
        refine awl_v (av_assign rfl) ?_
        have hr := Option.some.inj hr
        subst hr
        exact awl_nil (athen_norm (awc_ret (athen_ret (ret_q (l' := [(4, .bool false)]) (wk_of hX [] 4 rfl rfl ⟨⟨_, rfl, cv0⟩, trivial⟩ trivial) rfl ⟨rfl, trivial⟩))))
      · have hr := if_f hc22 hr
        refine awc_skip (athen_norm (awc_seq (awc_seq ?_)))
        refine awc_region ?_
        refine awl_v (av_move rfl) ?_
        refine awl_v (av_len_sl (t := (.slice (.int .i64))) rfl rfl und34 rfl) ?_
        refine awl_v (av_move rfl) ?_
        refine awl_nil (athen_norm (awc_block ?_))
        obtain ⟨o25, e26, hr⟩ := bnd_some hr
        refine awc_len (t := 9) rfl (fun hl => ?_)
        refine awc_range (S := Unit) (R := Unit) (List.length x13.1 : Int) (f4_b0 x13 x15) (fun p => match p with | (i23, ()) => (⟨[(1, .sl Y1 p1), (4, .bool false), (9, .sl (.slice (.int .i64)) x13.1), (10, .int .i64 x13.2), (11, .sl (.slice (.int .i64)) x15.1), (13, .sl (.int .i64) x17.1), (103, .int .i64 (List.length x13.1 : Int)), (104, .int .i64 i23)], [], 0⟩ : AS)) (fun o e st => match o with | .inl () => e = .exit 0 ∧ Wk X st ⟨[(1, .sl Y1 p1), (4, .bool false), (9, .sl (.slice (.int .i64)) x13.1), (10, .int .i64 x13.2), (13, .sl (.int .i64) x17.1)], [], 0⟩ | .inr () => e = .ret ∧ Wk X st ⟨[(4, .bool false)], [], 0⟩) (len_ok hl) e26 (wk_of hX [] 4 rfl rfl ⟨⟨_, rfl, cv0⟩, ⟨_, rfl, cv0⟩, ⟨_, rfl, cv0⟩, ⟨_, rfl, cv0⟩, ⟨_, rfl, cv0⟩, ⟨_, rfl, cv0⟩, ⟨_, rfl, cv0⟩, ⟨_, rfl, cv0⟩, trivial⟩ trivial) ?_ ?_
        · intro e st hx
          rcases o25 with _ | _
          · obtain ⟨rfl, hw⟩ := hx
            refine ablock_here (athen_norm ((awc_wk hw) (awc_seq (awc_seq ?_))))
            refine awc_region ?_
            refine awl_v (av_move rfl) ?_
            refine awl_v (av_neq rfl rfl) ?_
            refine awl_nil (athen_norm ?_)
            refine awc_cond (b := !decide (x13.2 = 0)) rfl (fun hc27 => ?_) (fun hc27 => ?_)
            · have hr := if_t hc27 hr
              refine awc_seq ?_
              refine awc_region ?_
              obtain ⟨x28, e29, hr⟩ := bnd_some hr
              refine awl_v (av_call (f8_runs e29) ent8 rfl rfl) ?_
              refine awl_v (av_assign rfl) ?_
              have hr := Option.some.inj hr
              subst hr
              exact awl_nil (athen_norm (awc_ret (athen_ret (ret_q (l' := [(4, .bool x28)]) (wk_of hX [] 4 rfl rfl ⟨⟨_, rfl, cv0⟩, trivial⟩ trivial) rfl ⟨rfl, trivial⟩))))
            · have hr := if_f hc27 hr
              refine awc_skip (athen_norm (awc_seq ?_))
              refine awc_region ?_
              refine awl_v (av_move rfl) ?_
              obtain ⟨x30, e31, hr⟩ := bnd_some hr
              refine awl_v (av_call (f23_runs e31) ent23 rfl rfl) ?_
              refine awl_v (av_assign rfl) ?_
              refine awl_nil (athen_norm (awc_seq (awc_seq ?_)))
              refine awc_region ?_
              refine awl_v (av_move rfl) ?_
              refine awl_v (av_len_sl (t := Y1) rfl rfl und30 rfl) ?_
              refine awl_v (av_move rfl) ?_
              refine awl_nil (athen_norm (awc_block ?_))
              obtain ⟨o34, e35, hr⟩ := bnd_some hr
              refine awc_len (t := 1) rfl (fun hl => ?_)
              refine awc_range (S := Unit) (R := Unit) (List.length p1 : Int) (f4_b1 p1 x13 x17 x30) (fun p => match p with | (i32, ()) => (⟨[(1, .sl Y1 p1), (4, .bool false), (9, .sl (.slice (.int .i64)) x13.1), (13, .sl (.int .i64) x17.1), (18, .sl (.slice .bool) x30), (124, .int .i64 (List.length p1 : Int)), (125, .int .i64 i32)], [], 0⟩ : AS)) (fun o e st => match o with | .inl () => e = .exit 2 ∧ Wk X st ⟨[(4, .bool false)], [], 0⟩ | .inr () => e = .ret ∧ Wk X st ⟨[(4, .bool false)], [], 0⟩) (len_ok hl) e35 (wk_of hX [] 4 rfl rfl ⟨⟨_, rfl, cv0⟩, ⟨_, rfl, cv0⟩, ⟨_, rfl, cv0⟩, ⟨_, rfl, cv0⟩, ⟨_, rfl, cv0⟩, ⟨_, rfl, cv0⟩, ⟨_, rfl, cv0⟩, trivial⟩ trivial) ?_ ?_
              · intro e st hx
                rcases o34 with _ | _
                · obtain ⟨rfl, hw⟩ := hx
                  refine ablock_here (athen_norm ((awc_wk hw) (awc_seq ?_)))
                  refine awc_region ?_
                  obtain ⟨x36, e37, hr⟩ := bnd_some hr
                  refine awl_v (av_call (f8_runs e37) ent8 rfl rfl) ?_
                  refine awl_v (av_assign rfl) ?_
                  have hr := Option.some.inj hr
                  subst hr
                  exact awl_nil (athen_norm (awc_ret (ret_q (l' := [(4, .bool x36)]) (wk_of hX [] 4 rfl rfl ⟨⟨_, rfl, cv0⟩, trivial⟩ trivial) rfl ⟨rfl, trivial⟩)))
                · obtain ⟨rfl, hw⟩ := hx
                  have hr := Option.some.inj hr
                  subst hr
                  exact ablock_ret (athen_ret (ret_q (l' := [(4, .bool false)]) (Wk.trans hw (wk_of hX [] 4 rfl rfl ⟨⟨_, rfl, cv0⟩, trivial⟩ trivial)) rfl ⟨rfl, trivial⟩))
              · rintro i32 _ o ho
                refine awc_seq ?_
                refine awc_region ?_
                refine awl_v (av_lss rfl rfl) ?_
                refine awl_nil (athen_norm (awc_seq ?_))
                refine awc_cond (b := decide (i32 < (List.length p1 : Int))) rfl (fun hc38 => ?_) (fun hc38 => ?_)
                · obtain ⟨q, hr, rfl⟩ := rb_t hc38 ho
                  refine awc_skip (athen_norm (awc_seq (awc_block (awc_seq ?_))))
                  refine awc_region ?_
                  refine awl_v (av_move rfl) ?_
                  refine awl_v (av_assign rfl) ?_
                  refine awl_nil (athen_norm (awc_seq ?_))
                  refine awc_region ?_
                  refine awl_v (av_move rfl) ?_
                  refine awl_v (av_len_sl (t := Y1) rfl rfl und30 rfl) ?_
                  refine awl_v (av_move rfl) ?_
                  refine awl_nil (athen_norm (awc_block ?_))
                  obtain ⟨o41, e42, hr⟩ := bnd_some hr
                  refine awc_len (t := 1) rfl (fun hl => ?_)
                  refine awc_range (S := Unit) (R := Unit) (List.length p1 : Int) (f4_b2 x13 x17 x30 i32) (fun p => match p with | (i39, ()) => (⟨[(1, .sl Y1 p1), (4, .bool false), (9, .sl (.slice (.int .i64)) x13.1), (13, .sl (.int .i64) x17.1), (18, .sl (.slice .bool) x30), (19, .int .i64 i32), (124, .int .i64 (List.length p1 : Int)), (125, .int .i64 i32), (129, .int .i64 (List.length p1 : Int)), (130, .int .i64 i39)], [], 0⟩ : AS)) (fun o e st => match o with | .inl () => e = .exit 4 ∧ Wk X st ⟨[(1, .sl Y1 p1), (4, .bool false), (9, .sl (.slice (.int .i64)) x13.1), (13, .sl (.int .i64) x17.1), (18, .sl (.slice .bool) x30), (124, .int .i64 (List.length p1 : Int)), (125, .int .i64 i32)], [], 0⟩ | .inr () => e = .ret ∧ Wk X st ⟨[(4, .bool false)], [], 0⟩) (len_ok hl) e42 (wk_of hX [] 4 rfl rfl ⟨⟨_, rfl, cv0⟩, ⟨_, rfl, cv0⟩, ⟨_, rfl, cv0⟩, ⟨_, rfl, cv0⟩, ⟨_, rfl, cv0⟩, ⟨_, rfl, cv0⟩, ⟨_, rfl, cv0⟩, ⟨_, rfl, cv0⟩, ⟨_, rfl, cv0⟩, ⟨_, rfl, cv0⟩, trivial⟩ trivial) ?_ ?_
                  · intro e st hx
                    rcases o41 with _ | _
                    · obtain ⟨rfl, hw⟩ := hx
                      refine ablock_here (ablock_norm (athen_norm ((awc_wk hw) ?_)))
                      refine awc_region ?_
                      refine awl_v (av_add rfl rfl) ?_
                      refine awl_v (av_move rfl) ?_
                      have hr := Option.some.inj hr
                      subst hr
                      exact awl_nil ((wk_of hX [] 4 rfl rfl ⟨⟨_, rfl, cv0⟩, ⟨_, rfl, cv0⟩, ⟨_, rfl, cv0⟩, ⟨_, rfl, cv0⟩, ⟨_, rfl, cv0⟩, ⟨_, rfl, cv0⟩, ⟨_, rfl, cv0⟩, trivial⟩ trivial))
                    · obtain ⟨rfl, hw⟩ := hx
                      have hr := Option.some.inj hr
                      subst hr
                      exact ablock_ret (ablock_ret (athen_ret (⟨rfl, (Wk.trans hw (wk_of hX [] 4 rfl rfl ⟨⟨_, rfl, cv0⟩, trivial⟩ trivial))⟩)))
                  · rintro i39 _ o ho
                    refine awc_seq ?_
                    refine awc_region ?_
                    refine awl_v (av_lss rfl rfl) ?_
                    refine awl_nil (athen_norm (awc_seq ?_))
                    refine awc_cond (b := decide (i39 < (List.length p1 : Int))) rfl (fun hc43 => ?_) (fun hc43 => ?_)
                    · obtain ⟨q, hr, rfl⟩ := rb_t hc43 ho
                      refine awc_skip (athen_norm (awc_seq (awc_block (awc_seq ?_))))
                      refine awc_region ?_
                      refine awl_v (av_move rfl) ?_
                      refine awl_v (av_assign rfl) ?_
                      refine awl_nil (athen_norm (awc_seq ?_))
                      refine awc_region ?_
                      refine awl_v (av_assign rfl) ?_
                      refine awl_nil (athen_norm ?_)
                      obtain ⟨o45, e46, hr⟩ := bnd_some hr
                      refine awc_join (S := Int) (R := Unit) (fun s => match s with | s44 => (⟨[(1, .sl Y1 p1), (4, .bool false), (9, .sl (.slice (.int .i64)) x13.1), (13, .sl (.int .i64) x17.1), (18, .sl (.slice .bool) x30), (19, .int .i64 i32), (20, .int .i64 i39), (21, .int .i64 s44), (124, .int .i64 (List.length p1 : Int)), (125, .int .i64 i32), (129, .int .i64 (List.length p1 : Int)), (130, .int .i64 i39)], [], 0⟩ : AS)) (fun _ _ _ => False) e46 (fun hr => ?_) ?_ ?_
                      · refine awc_block (awc_seq ?_)
                        refine awc_region ?_
                        refine awl_v (av_move rfl) ?_
                        refine awl_v (av_move rfl) ?_
                        refine awl_v (av_eql rfl rfl) ?_
                        refine awl_v (av_assign rfl) ?_
                        refine awl_nil (athen_norm ?_)
                        refine awc_cond (b := decide (i32 = i39)) rfl (fun hc47 => ?_) (fun hc47 => ?_)
                        · have hr := if_t hc47 hr
                          refine awc_region ?_
                          refine awl_v (av_assign rfl) ?_
                          have hr := Option.some.inj hr
                          subst hr
                          exact awl_nil (ablock_norm ((wk_of hX [] 4 rfl rfl ⟨⟨_, rfl, cv0⟩, ⟨_, rfl, cv0⟩, ⟨_, rfl, cv0⟩, ⟨_, rfl, cv0⟩, ⟨_, rfl, cv0⟩, ⟨_, rfl, cv0⟩, ⟨_, rfl, cv0⟩, ⟨_, rfl, cv0⟩, ⟨_, rfl, cv0⟩, ⟨_, rfl, cv0⟩, ⟨_, rfl, cv0⟩, ⟨_, rfl, cv0⟩, trivial⟩ trivial)))
                        · have hr := if_f hc47 hr
                          refine awc_seq ?_
                          refine awc_region ?_
                          refine awl_v (av_move rfl) ?_
                          refine awl_v (av_move rfl) ?_
                          obtain ⟨x48, e49, hr⟩ := bnd_some hr
                          refine awl_v (av_ia_sl (t := (.slice .bool)) (e := x48) und38 sz40 rfl rfl e49) ?_
                          refine awl_v (av_load_rp ts40 rfl) ?_
                          refine awl_v (av_move rfl) ?_
                          obtain ⟨x50, e51, hr⟩ := bnd_some hr
                          refine awl_v (av_ia_sl (t := .bool) (e := x50) und40 sz4 rfl rfl e51) ?_
                          refine awl_v (av_load_rp ts4 rfl) ?_
                          refine awl_v (av_assign rfl) ?_
                          refine awl_nil (athen_norm ?_)
                          refine awc_cond (b := x50) rfl (fun hc52 => ?_) (fun hc52 => ?_)
                          · have hr := if_t hc52 hr
                            refine awc_region ?_
                            refine awl_v (av_assign rfl) ?_
                            have hr := Option.some.inj hr
                            subst hr
                            exact awl_nil (ablock_norm ((wk_of hX [] 4 rfl rfl ⟨⟨_, rfl, cv0⟩, ⟨_, rfl, cv0⟩, ⟨_, rfl, cv0⟩, ⟨_, rfl, cv0⟩, ⟨_, rfl, cv0⟩, ⟨_, rfl, cv0⟩, ⟨_, rfl, cv0⟩, ⟨_, rfl, cv0⟩, ⟨_, rfl, cv0⟩, ⟨_, rfl, cv0⟩, ⟨_, rfl, cv0⟩, ⟨_, rfl, cv0⟩, trivial⟩ trivial)))
                          · have hr := if_f hc52 hr
                            refine awc_seq ?_
                            refine awc_region ?_
                            refine awl_v (av_move rfl) ?_
                            refine awl_v (av_move rfl) ?_
                            obtain ⟨x53, e54, hr⟩ := bnd_some hr
                            refine awl_v (av_ia_sl (t := (.slice .bool)) (e := x53) und38 sz40 rfl rfl e54) ?_
                            refine awl_v (av_load_rp ts40 rfl) ?_
                            refine awl_v (av_move rfl) ?_
                            obtain ⟨x55, e56, hr⟩ := bnd_some hr
                            refine awl_v (av_ia_sl (t := .bool) (e := x55) und40 sz4 rfl rfl e56) ?_
                            refine awl_v (av_load_rp ts4 rfl) ?_
                            refine awl_v (av_assign rfl) ?_
                            refine awl_nil (athen_norm ?_)
                            refine awc_cond (b := x55) rfl (fun hc57 => ?_) (fun hc57 => ?_)
                            · have hr := if_t hc57 hr
                              refine awc_region ?_
                              refine awl_v (av_assign rfl) ?_
                              have hr := Option.some.inj hr
                              subst hr
                              exact awl_nil (ablock_norm ((wk_of hX [] 4 rfl rfl ⟨⟨_, rfl, cv0⟩, ⟨_, rfl, cv0⟩, ⟨_, rfl, cv0⟩, ⟨_, rfl, cv0⟩, ⟨_, rfl, cv0⟩, ⟨_, rfl, cv0⟩, ⟨_, rfl, cv0⟩, ⟨_, rfl, cv0⟩, ⟨_, rfl, cv0⟩, ⟨_, rfl, cv0⟩, ⟨_, rfl, cv0⟩, ⟨_, rfl, cv0⟩, trivial⟩ trivial)))
                            · have hr := if_f hc57 hr
                              have hr := Option.some.inj hr
                              subst hr
                              exact awc_skip (ablock_norm ((wk_of hX [] 4 rfl rfl ⟨⟨_, rfl, cv0⟩, ⟨_, rfl, cv0⟩, ⟨_, rfl, cv0⟩, ⟨_, rfl, cv0⟩, ⟨_, rfl, cv0⟩, ⟨_, rfl, cv0⟩, ⟨_, rfl, cv0⟩, ⟨_, rfl, cv0⟩, ⟨_, rfl, cv0⟩, ⟨_, rfl, cv0⟩, ⟨_, rfl, cv0⟩, ⟨_, rfl, cv0⟩, trivial⟩ trivial)))
                      · rintro s44 rfl
                        refine awc_seq ?_
                        obtain ⟨x58, e59, hr⟩ := bnd_some hr
                        obtain ⟨x60, e61, hr⟩ := bnd_some hr
                        obtain ⟨x62, e63, hr⟩ := bnd_some hr
                        refine awc_draw mixed [1, 4, 9, 13, 18, 19, 20, 21, 124, 125, 129, 130] [(true, .sl (.slice (.int .i64)) x13.1), (true, .int .i64 i32), (true, .rp [.sl (.int .i64) x58]), (true, .sl (.int .i64) x58), (true, .sl (.slice (.int .i64)) x13.1), (true, .int .i64 i39), (true, .rp [.sl (.int .i64) x60]), (true, .sl (.int .i64) x60), (true, .tup [.int .i64 x62.1, .int .i64 x62.2]), (true, .tup [.int .i64 x62.1, .int .i64 x62.2]), (true, .int .i64 x62.1), (true, .int .i64 x62.2), (true, .int .i64 x62.1), (true, .int .i64 x62.2)] [[], [], [0, 1], [2], [], [], [4, 5], [6], [3, 7], [8], [9], [9], [10], [11]] [12, 13] rfl rfl rfl rfl rfl ⟨?_, ?_, ?_, ?_, ?_, ?_, ?_, ?_, ?_, ?_, ?_, ?_, ?_, ?_, trivial⟩ (allT_of ⟨rfl, rfl, trivial⟩) ?_
                        · exact ob_v rfl (fun hg => allT_of trivial) (fun hg => av_move rfl)
                        · exact ob_v rfl (fun hg => allT_of trivial) (fun hg => av_move rfl)
                        · exact ob_v rfl (fun hg => allT_of ⟨rfl, rfl, trivial⟩) (fun hg => av_ia_sl (t := (.slice (.int .i64))) (e := x58) und34 sz22 rfl rfl e59)
                        · exact ob_v rfl (fun hg => allT_of ⟨rfl, trivial⟩) (fun hg => av_load_rp ts22 rfl)
                        · exact ob_v rfl (fun hg => allT_of trivial) (fun hg => av_move rfl)
                        · exact ob_v rfl (fun hg => allT_of trivial) (fun hg => av_move rfl)
                        · exact ob_v rfl (fun hg => allT_of ⟨rfl, rfl, trivial⟩) (fun hg => av_ia_sl (t := (.slice (.int .i64))) (e := x60) und34 sz22 rfl rfl e61)
                        · exact ob_v rfl (fun hg => allT_of ⟨rfl, trivial⟩) (fun hg => av_load_rp ts22 rfl)
                        · exact ob_v rfl (fun hg => allT_of ⟨rfl, rfl, trivial⟩) (fun hg => av_call (f9_runs e63) ent9 rfl rfl)
                        · exact ob_v rfl (fun hg => allT_of ⟨rfl, trivial⟩) (fun hg => av_move rfl)
                        · exact ob_v rfl (fun hg => allT_of ⟨rfl, trivial⟩) (fun hg => av_extract rfl rfl)
                        · exact ob_v rfl (fun hg => allT_of ⟨rfl, trivial⟩) (fun hg => av_extract rfl rfl)
                        · exact ob_v rfl (fun hg => allT_of ⟨rfl, trivial⟩) (fun hg => av_assign rfl)
                        · exact ob_v rfl (fun hg => allT_of ⟨rfl, trivial⟩) (fun hg => av_assign rfl)
                        refine athen_norm (awc_seq ?_)
                        obtain ⟨h64, hr⟩ := chk_some hr
                        obtain ⟨h65, hr⟩ := chk_some hr
                        refine awc_draw mixed [1, 4, 9, 13, 18, 19, 20, 21, 124, 125, 129, 130, 22, 23] [(true, .int .i64 x62.2), (true, .bool (!decide (x62.2 = 0))), (true, .bool (!decide (x62.2 = 0))), (!(!decide (x62.2 = 0)), .int .i64 x62.1), (!(!decide (x62.2 = 0)), .int .i64 s44), (!(!decide (x62.2 = 0)), .bool (!decide (x62.1 = s44))), (true, .bool ((!decide (x62.2 = 0)) || (!decide (x62.1 = s44)))), (true, .bool ((!decide (x62.2 = 0)) || (!decide (x62.1 = s44)))), (!((!decide (x62.2 = 0)) || (!decide (x62.1 = s44))), .int .i64 s44), (!((!decide (x62.2 = 0)) || (!decide (x62.1 = s44))), .bool (decide (s44 = (-1)))), (!((!decide (x62.2 = 0)) || (!decide (x62.1 = s44))), .bool (decide (s44 = (-1)))), ((!((!decide (x62.2 = 0)) || (!decide (x62.1 = s44)))) && (decide (s44 = (-1))), .sl (.int .i64) x17.1), ((!((!decide (x62.2 = 0)) || (!decide (x62.1 = s44)))) && (decide (s44 = (-1))), .int .i64 i32), ((!((!decide (x62.2 = 0)) || (!decide (x62.1 = s44)))) && (decide (s44 = (-1))), .rp [.int .i64 ((ix x17.1 i32).getD default)]), ((!((!decide (x62.2 = 0)) || (!decide (x62.1 = s44)))) && (decide (s44 = (-1))), .int .i64 ((ix x17.1 i32).getD default)), ((!((!decide (x62.2 = 0)) || (!decide (x62.1 = s44)))) && (decide (s44 = (-1))), .sl (.int .i64) x17.1), ((!((!decide (x62.2 = 0)) || (!decide (x62.1 = s44)))) && (decide (s44 = (-1))), .int .i64 i39), ((!((!decide (x62.2 = 0)) || (!decide (x62.1 = s44)))) && (decide (s44 = (-1))), .rp [.int .i64 ((ix x17.1 i39).getD default)]), ((!((!decide (x62.2 = 0)) || (!decide (x62.1 = s44)))) && (decide (s44 = (-1))), .int .i64 ((ix x17.1 i39).getD default)), ((!((!decide (x62.2 = 0)) || (!decide (x62.1 = s44)))) && (decide (s44 = (-1))), .bool (decide (((ix x17.1 i39).getD default) ≤ ((ix x17.1 i32).getD default)))), (!((!decide (x62.2 = 0)) || (!decide (x62.1 = s44))), .bool ((decide (s44 = (-1))) && (decide (((ix x17.1 i39).getD default) ≤ ((ix x17.1 i32).getD default))))), (true, .bool (((!decide (x62.2 = 0)) || (!decide (x62.1 = s44))) || ((decide (s44 = (-1))) && (decide (((ix x17.1 i39).getD default) ≤ ((ix x17.1 i32).getD default))))))] [[], [0], [1], [2], [2], [3, 4, 2], [5, 2], [6], [7], [8, 7], [9, 7], [10], [10], [11, 12, 10], [13, 10], [10], [10], [15, 16, 10], [17, 10], [14, 18, 10], [19, 10, 7], [20, 7]] [21] rfl rfl rfl rfl rfl ⟨?_, ?_, ?_, ?_, ?_, ?_, ?_, ?_, ?_, ?_, ?_, ?_, ?_, ?_, ?_, ?_, ?_, ?_, ?_, ?_, ?_, ?_, trivial⟩ (allT_of ⟨rfl, trivial⟩) ?_
                        · exact ob_v rfl (fun hg => allT_of trivial) (fun hg => av_move rfl)
                        · exact ob_v rfl (fun hg => allT_of ⟨rfl, trivial⟩) (fun hg => av_neq rfl rfl)
                        · exact ob_v rfl (fun hg => allT_of ⟨rfl, trivial⟩) (fun hg => av_move rfl)
                        · exact ob_v ⟨rfl, rfl, rfl, _, rfl, rfl⟩ (fun hg => allT_of ⟨rfl, trivial⟩) (fun hg => av_move rfl)
                        · exact ob_v ⟨rfl, rfl, rfl, _, rfl, rfl⟩ (fun hg => allT_of ⟨rfl, trivial⟩) (fun hg => av_move rfl)
                        · exact ob_v ⟨rfl, rfl, rfl, _, rfl, rfl⟩ (fun hg => allT_of ⟨hg, hg, rfl, trivial⟩) (fun hg => av_neq rfl rfl)
                        · exact ob_pick (b := false) (p := !decide (x62.2 = 0)) (q := !decide (x62.1 = s44)) rfl rfl rfl (fun hg => allT_of ⟨rfl, trivial⟩) rfl rfl rfl rfl rfl
                        · exact ob_v rfl (fun hg => allT_of ⟨rfl, trivial⟩) (fun hg => av_move rfl)
                        · exact ob_v ⟨rfl, rfl, rfl, _, rfl, rfl⟩ (fun hg => allT_of ⟨rfl, trivial⟩) (fun hg => av_move rfl)
                        · exact ob_v ⟨rfl, rfl, rfl, _, rfl, rfl⟩ (fun hg => allT_of ⟨hg, rfl, trivial⟩) (fun hg => av_eql rfl rfl)
                        · exact ob_v ⟨rfl, rfl, rfl, _, rfl, rfl⟩ (fun hg => allT_of ⟨hg, rfl, trivial⟩) (fun hg => av_move rfl)
                        · exact ob_v ⟨rfl, rfl, rfl, _, rfl, rfl⟩ (fun hg => allT_of ⟨(and_l hg), trivial⟩) (fun hg => av_move rfl)
                        · exact ob_v ⟨rfl, rfl, rfl, _, rfl, rfl⟩ (fun hg => allT_of ⟨(and_l hg), trivial⟩) (fun hg => av_move rfl)
                        · exact ob_v ⟨rfl, rfl, rfl, _, rfl, rfl⟩ (fun hg => allT_of ⟨hg, hg, (and_l hg), trivial⟩) (fun hg => av_ia_sl (t := (.int .i64)) (e := ((ix x17.1 i32).getD default)) und22 sz3 rfl rfl (get_g h64 hg))
                        · exact ob_v ⟨rfl, rfl, rfl, _, rfl, rfl⟩ (fun hg => allT_of ⟨hg, (and_l hg), trivial⟩) (fun hg => av_load_rp ts3 rfl)
                        · exact ob_v ⟨rfl, rfl, rfl, _, rfl, rfl⟩ (fun hg => allT_of ⟨(and_l hg), trivial⟩) (fun hg => av_move rfl)
                        · exact ob_v ⟨rfl, rfl, rfl, _, rfl, rfl⟩ (fun hg => allT_of ⟨(and_l hg), trivial⟩) (fun hg => av_move rfl)
                        · exact ob_v ⟨rfl, rfl, rfl, _, rfl, rfl⟩ (fun hg => allT_of ⟨hg, hg, (and_l hg), trivial⟩) (fun hg => av_ia_sl (t := (.int .i64)) (e := ((ix x17.1 i39).getD default)) und22 sz3 rfl rfl (get_g h65 hg))
                        · exact ob_v ⟨rfl, rfl, rfl, _, rfl, rfl⟩ (fun hg => allT_of ⟨hg, (and_l hg), trivial⟩) (fun hg => av_load_rp ts3 rfl)
                        · exact ob_v ⟨rfl, rfl, rfl, _, rfl, rfl⟩ (fun hg => allT_of ⟨hg, hg, (and_l hg), trivial⟩) (fun hg => av_geq rfl rfl)
                        · exact ob_pick (b := true) (p := decide (s44 = (-1))) (q := decide (((ix x17.1 i39).getD default) ≤ ((ix x17.1 i32).getD default))) ⟨rfl, rfl, rfl, _, rfl, rfl⟩ rfl rfl (fun hg => allT_of ⟨hg, rfl, trivial⟩) rfl rfl rfl rfl rfl
                        · exact ob_pick (b := false) (p := (!decide (x62.2 = 0)) || (!decide (x62.1 = s44))) (q := (decide (s44 = (-1))) && (decide (((ix x17.1 i39).getD default) ≤ ((ix x17.1 i32).getD default)))) rfl rfl rfl (fun hg => allT_of ⟨rfl, trivial⟩) rfl rfl rfl rfl rfl
                        refine athen_norm ?_
                        refine awc_cond (b := ((!decide (x62.2 = 0)) || (!decide (x62.1 = s44))) || ((decide (s44 = (-1))) && (decide (((ix x17.1 i39).getD default) ≤ ((ix x17.1 i32).getD default))))) rfl (fun hc66 => ?_) (fun hc66 => ?_)
                        · have hr := if_t hc66 hr
                          refine awc_seq ?_
                          refine awc_region ?_
                          refine awl_v (av_assign rfl) ?_
                          have hr := Option.some.inj hr
                          subst hr
                          exact awl_nil (athen_norm (awc_ret (ablock_ret (athen_ret (⟨rfl, (wk_of hX [] 4 rfl rfl ⟨⟨_, rfl, cv0⟩, trivial⟩ trivial)⟩)))))
                        · have hr := if_f hc66 hr
                          refine awc_skip (ablock_norm (athen_norm ?_))
                          refine awc_region ?_
                          refine awl_v (av_add rfl rfl) ?_
                          refine awl_v (av_move rfl) ?_
                          have hr := Option.some.inj hr
                          subst hr
                          exact awl_nil ((wk_of hX [] 4 rfl rfl ⟨⟨_, rfl, cv0⟩, ⟨_, rfl, cv0⟩, ⟨_, rfl, cv0⟩, ⟨_, rfl, cv0⟩, ⟨_, rfl, cv0⟩, ⟨_, rfl, cv0⟩, ⟨_, rfl, cv0⟩, ⟨_, rfl, cv0⟩, ⟨_, rfl, cv0⟩, ⟨_, rfl, cv0⟩, trivial⟩ trivial))
                      · exact fun r h e st hne hx => hx.elim
                    · obtain rfl := rb_f hc43 ho
                      exact awc_exit (athen_exit (⟨rfl, (wk_of hX [] 4 rfl rfl ⟨⟨_, rfl, cv0⟩, ⟨_, rfl, cv0⟩, ⟨_, rfl, cv0⟩, ⟨_, rfl, cv0⟩, ⟨_, rfl, cv0⟩, ⟨_, rfl, cv0⟩, ⟨_, rfl, cv0⟩, trivial⟩ trivial)⟩))
                · obtain rfl := rb_f hc38 ho
                  exact awc_exit (athen_exit (⟨rfl, (wk_of hX [] 4 rfl rfl ⟨⟨_, rfl, cv0⟩, trivial⟩ trivial)⟩))
          · obtain ⟨rfl, hw⟩ := hx
            have hr := Option.some.inj hr
            subst hr
            exact ablock_ret (athen_ret (ret_q (l' := [(4, .bool false)]) (Wk.trans hw (wk_of hX [] 4 rfl rfl ⟨⟨_, rfl, cv0⟩, trivial⟩ trivial)) rfl ⟨rfl, trivial⟩))
        · rintro i23 _ o ho
          refine awc_seq ?_
          refine awc_region ?_
          refine awl_v (av_lss rfl rfl) ?_
          refine awl_nil (athen_norm (awc_seq ?_))
          refine awc_cond (b := decide (i23 < (List.length x13.1 : Int))) rfl (fun hc67 => ?_) (fun hc67 => ?_)
          · obtain ⟨q, hr, rfl⟩ := rb_t hc67 ho
            refine awc_skip (athen_norm (awc_seq (awc_block (awc_seq ?_))))
            refine awc_region ?_
            refine awl_v (av_move rfl) ?_
            refine awl_v (av_assign rfl) ?_
            refine awl_nil (athen_norm (awc_seq ?_))
            obtain ⟨x68, e69, hr⟩ := bnd_some hr
            obtain ⟨x70, e71, hr⟩ := bnd_some hr
            obtain ⟨x72, e73, hr⟩ := bnd_some hr
            refine awc_draw mixed [1, 4, 9, 10, 11, 13, 103, 104, 17] [(true, .sl (.slice (.int .i64)) x13.1), (true, .int .i64 i23), (true, .rp [.sl (.int .i64) x68]), (true, .sl (.int .i64) x68), (true, .sl (.slice (.int .i64)) x15.1), (true, .int .i64 i23), (true, .rp [.sl (.int .i64) x70]), (true, .sl (.int .i64) x70), (true, .bool x72), (true, .bool (!x72))] [[], [], [0, 1], [2], [], [], [4, 5], [6], [3, 7], [8]] [9] rfl rfl rfl rfl rfl ⟨?_, ?_, ?_, ?_, ?_, ?_, ?_, ?_, ?_, ?_, trivial⟩ (allT_of ⟨rfl, trivial⟩) ?_
            · exact ob_v rfl (fun hg => allT_of trivial) (fun hg => av_move rfl)
            · exact ob_v rfl (fun hg => allT_of trivial) (fun hg => av_move rfl)
            · exact ob_v rfl (fun hg => allT_of ⟨rfl, rfl, trivial⟩) (fun hg => av_ia_sl (t := (.slice (.int .i64))) (e := x68) und34 sz22 rfl rfl e69)
            · exact ob_v rfl (fun hg => allT_of ⟨rfl, trivial⟩) (fun hg => av_load_rp ts22 rfl)
            · exact ob_v rfl (fun hg => allT_of trivial) (fun hg => av_move rfl)
            · exact ob_v rfl (fun hg => allT_of trivial) (fun hg => av_move rfl)
            · exact ob_v rfl (fun hg => allT_of ⟨rfl, rfl, trivial⟩) (fun hg => av_ia_sl (t := (.slice (.int .i64))) (e := x70) und34 sz22 rfl rfl e71)
            · exact ob_v rfl (fun hg => allT_of ⟨rfl, trivial⟩) (fun hg => av_load_rp ts22 rfl)
            · exact ob_v rfl (fun hg => allT_of ⟨rfl, rfl, trivial⟩) (fun hg => av_call (f13_runs e73) ent13 rfl rfl)
            · exact ob_v rfl (fun hg => allT_of ⟨rfl, trivial⟩) (fun hg => av_not rfl)
            refine athen_norm ?_
            refine awc_cond (b := !x72) rfl (fun hc74 => ?_) (fun hc74 => ?_)
            · have hr := if_t hc74 hr
              refine awc_seq ?_
              refine awc_region ?_
              refine awl_v (av_assign rfl) ?_
              have hr := Option.some.inj hr
              subst hr
              exact awl_nil (athen_norm (awc_ret (ablock_ret (athen_ret (⟨rfl, (wk_of hX [] 4 rfl rfl ⟨⟨_, rfl, cv0⟩, trivial⟩ trivial)⟩)))))
            · have hr := if_f hc74 hr
              refine awc_skip (ablock_norm (athen_norm ?_))
              refine awc_region ?_
              refine awl_v (av_add rfl rfl) ?_
              refine awl_v (av_move rfl) ?_
              have hr := Option.some.inj hr
              subst hr
              exact awl_nil ((wk_of hX [] 4 rfl rfl ⟨⟨_, rfl, cv0⟩, ⟨_, rfl, cv0⟩, ⟨_, rfl, cv0⟩, ⟨_, rfl, cv0⟩, ⟨_, rfl, cv0⟩, ⟨_, rfl, cv0⟩, ⟨_, rfl, cv0⟩, ⟨_, rfl, cv0⟩, trivial⟩ trivial))
          · obtain rfl := rb_f hc67 ho
            exact awc_exit (athen_exit (⟨rfl, (wk_of hX [] 4 rfl rfl ⟨⟨_, rfl, cv0⟩, ⟨_, rfl, cv0⟩, ⟨_, rfl, cv0⟩, ⟨_, rfl, cv0⟩, ⟨_, rfl, cv0⟩, trivial⟩ trivial)⟩))
end Go.Ab
