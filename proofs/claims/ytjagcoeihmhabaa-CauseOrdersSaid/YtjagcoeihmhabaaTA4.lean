/- Lemmas for a law of the seat: what functions of the program do, each stated as a contract of its own (TA4). -/
import Derived.Test.YtjagcoeihmhabaaLayT
import Derived.Test.YtjagcoeihmhabaaLayS29
import Derived.Test.YtjagcoeihmhabaaChecked
import Derived.Test.YtjagcoeihmhabaaTAd
import Derived.Test.YtjagcoeihmhabaaTA3
set_option linter.unusedVariables false
set_option maxRecDepth 100000
namespace Go.Ab
open Go.RowKit Go.Shelf Go.Proofs Go.Eng
abbrev Y2 : Ty := .st (.pair (.int .i64) (.pair (.int .i64) (.int .i64)))
abbrev Y3 : Ty := .st (.pair (.int .i64) (.int .i64))
theorem ent8 : Enters Try.prog 8 := enters_of Try.func8 (by kernel_rfl) rfl
theorem ent18 : Enters Try.prog 18 := enters_of Try.func18 (by kernel_rfl) rfl
theorem ent23 : Enters Try.prog 23 := enters_of Try.func23 (by kernel_rfl) rfl
theorem ent14 : Enters Try.prog 14 := enters_of Try.func14 (by kernel_rfl) rfl
theorem ent21 : Enters Try.prog 21 := enters_of Try.func21 (by kernel_rfl) rfl
theorem ent76 : Enters Try.prog 76 := enters_of Try.func76 (by kernel_rfl) rfl
theorem zero40 : Eng.Zero Try.prog 40 (.slice none 0 0) := fun w => by kernel_rfl
theorem ent77 : Enters Try.prog 77 := enters_of Try.func77 (by kernel_rfl) rfl
theorem fa93_0 : FieldAt Try.prog 93 0 0 := fun b o w => by kernel_rfl
theorem und90 : Und Try.prog 90 (.slice 93) := by unfold Und; kernel_rfl
theorem sz93 : Sz Try.prog 93 3 := fun w => by kernel_rfl
theorem ts93 : TyS Try.prog 93 true 3 := ⟨fun w => by kernel_rfl, fun w => by kernel_rfl⟩
theorem zero93 : Eng.Zero Try.prog 93 (.agg #[.int .i64 0, .int .i64 0, .int .i64 0]) := fun w => by kernel_rfl
theorem bt93 : BuildT Try.prog 93 (.agg #[.int .i64 0, .int .i64 0, .int .i64 0]) (fun i => [(0, 1), (1, 1), (2, 1)][i]?) := buildT_struct zero93 (fs := Try.prog.fieldsOf 93) (by kernel_rfl) (fun w => by kernel_rfl)
theorem bs90 : BuildS Try.prog 90 93 Y2 := buildS_of (z := .agg #[.int .i64 0, .int .i64 0, .int .i64 0]) (by kernel_rfl) (by kernel_rfl) rfl
theorem app90 : AppT Try.prog 90 93 (Ty.cells Y2) 24 := appT_of (z := .agg #[.int .i64 0, .int .i64 0, .int .i64 0]) (by kernel_rfl) (by kernel_rfl) rfl rfl
theorem ent90 : Enters Try.prog 90 := enters_of Try.func90 (by kernel_rfl) rfl
theorem ent89 : Enters Try.prog 89 := enters_of Try.func89 (by kernel_rfl) rfl
theorem fa93_2 : FieldAt Try.prog 93 2 2 := fun b o w => by kernel_rfl
theorem ent91 : Enters Try.prog 91 := enters_of Try.func91 (by kernel_rfl) rfl
theorem ent78 : Enters Try.prog 78 := enters_of Try.func78 (by kernel_rfl) rfl
theorem fa93_1 : FieldAt Try.prog 93 1 1 := fun b o w => by kernel_rfl
theorem zero54 : Eng.Zero Try.prog 54 (.agg #[.int .i64 0, .int .i64 0]) := fun w => by kernel_rfl
theorem bt54 : BuildT Try.prog 54 (.agg #[.int .i64 0, .int .i64 0]) (fun i => some (i * 1, 1)) := buildT_array (n := 2) zero54 (by kernel_rfl) sz3
theorem bs51 : BuildS Try.prog 51 54 Y3 := buildS_of (z := .agg #[.int .i64 0, .int .i64 0]) (by kernel_rfl) (by kernel_rfl) rfl
theorem app51 : AppT Try.prog 51 54 (Ty.cells Y3) 16 := appT_of (z := .agg #[.int .i64 0, .int .i64 0]) (by kernel_rfl) (by kernel_rfl) rfl rfl
theorem ent41 : Enters Try.prog 41 := enters_of Try.func41 (by kernel_rfl) rfl
theorem ent42 : Enters Try.prog 42 := enters_of Try.func42 (by kernel_rfl) rfl
theorem app30 : AppT Try.prog 30 50 (Ty.cells Y1) 48 := appT_of (z := .agg #[.int .i64 0, .int .i64 0, .int .i64 0, .int .i64 0, .string ByteArray.empty]) (by kernel_rfl) (by kernel_rfl) rfl rfl
theorem ent43 : Enters Try.prog 43 := enters_of Try.func43 (by kernel_rfl) rfl
theorem und51 : Und Try.prog 51 (.slice 54) := by unfold Und; kernel_rfl
theorem sz54 : Sz Try.prog 54 2 := fun w => by kernel_rfl
theorem ts54 : TyS Try.prog 54 true 2 := ⟨fun w => by kernel_rfl, fun w => by kernel_rfl⟩
theorem eq54 {a0 b0 : Int} {a1 b1 : Int} : EqT Try.prog 54 [.int .i64 a0, .int .i64 a1] [.int .i64 b0, .int .i64 b1] := ⟨by kernel_rfl, fun w => run_eqArr (e := 3) (n := 2) (by kernel_rfl) (by kernel_rfl) (by kernel_rfl) (by kernel_rfl) (by kernel_rfl) (by kernel_rfl)⟩
theorem f77_runs {p0 : Int} {p1 : List Bool} {r : Bool} (hr : f77 p0 p1 = some r) : RunsP Try.prog 77 [.int .i64 p0, .rp [.sl .bool p1]] [.bool r] := by
  refine runs_w Try.func77 Try.ntmps77 rfl (rs := [.tmp 3]) rfl rfl fun w0 X hX => ?_
  refine awc_seq ?_
  refine awc_region ?_
  refine awl_v (av_assign rfl) ?_
  refine awl_nil (athen_norm (awc_seq ?_))
  refine awc_region ?_
  refine awl_v (av_load_rp ts40 rfl) ?_
  refine awl_v (av_move rfl) ?_
  obtain ⟨x1, e2, hr⟩ := bnd_some hr
  refine awl_v (av_ia_sl (t := .bool) (e := x1) und40 sz4 rfl rfl e2) ?_
  refine awl_v (av_load_rp ts4 rfl) ?_
  refine awl_v (av_not rfl) ?_
  refine awl_v (av_assign rfl) ?_
  have hr := Option.some.inj hr
  subst hr
  exact awl_nil (athen_norm (awc_ret (ret_q (l' := [(3, .bool (!x1))]) (wk_of hX [] 4 rfl rfl ⟨⟨_, rfl, cv0⟩, trivial⟩ trivial) rfl ⟨rfl, trivial⟩)))
theorem f41_runs {p0 : Int} {p1 : List (Int × Int × Int × Int × Str)} {p2 : List Int} {r : List Int × Int} (hr : f41 p0 p1 p2 = some r) : RunsP Try.prog 41 [.int .i64 p0, .sl Y1 p1, .sl (.int .i64) p2] [.sl (.int .i64) r.1, .int .i64 r.2] := by
  refine runs_wM Try.func41 Try.ntmps41 rfl (rs := [.tmp 6, .tmp 7]) rfl rfl fun w0 X hX => ?_
  refine awc_seq ?_
  refine awc_region ?_
  refine awl_v (av_assign rfl) ?_
  refine awl_v (av_assign rfl) ?_
  refine awl_nil (athen_norm (awc_seq (awc_seq ?_)))
  refine awc_region ?_
  refine awl_v (av_move rfl) ?_
  refine awl_v (av_move rfl) ?_
  obtain ⟨x1, e2, hr⟩ := bnd_some hr
  refine awl_v (av_call (f17_runs e2) ent17 rfl rfl) ?_
  refine awl_v (av_not rfl) ?_
  refine awl_nil (athen_norm ?_)
  refine awc_cond (b := !x1) rfl (fun hc3 => ?_) (fun hc3 => ?_)
  · have hr := if_t hc3 hr
    refine awc_seq ?_
    refine awc_region ?_
    refine awl_v (av_assign rfl) ?_
    refine awl_v (av_assign rfl) ?_
    have hr := Option.some.inj hr
    subst hr
    exact awl_nil (athen_norm (awc_ret (athen_ret (ret_q (l' := [(6, .sl (.int .i64) ([] : List Int)), (7, .int .i64 1)]) (wk_of hX [] 4 rfl rfl ⟨⟨_, rfl, cv2⟩, ⟨_, rfl, cv0⟩, trivial⟩ trivial) rfl ⟨rfl, rfl, trivial⟩))))
  · have hr := if_f hc3 hr
    refine awc_skip (athen_norm (awc_seq (awc_seq ?_)))
    refine awc_region ?_
    refine awl_v (av_move rfl) ?_
    obtain ⟨x4, e5, hr⟩ := bnd_some hr
    refine awl_v (av_callN (as' := [.sl (.int .i64) p2, .fn 76 [] []]) (f75_runs (g1 := 76) (c1s := []) (fun _ r h => f76_runs h) ⟨ent76⟩ e5) ent75 rfl ⟨cv0, (cv3 rfl), trivial⟩ rfl) ?_
    refine awl_nil (athen_norm ?_)
    refine awc_cond (b := x4) rfl (fun hc6 => ?_) (fun hc6 => ?_)
    · have hr := if_t hc6 hr
      refine awc_seq ?_
      refine awc_region ?_
      refine awl_v (av_assign rfl) ?_
      refine awl_v (av_assign rfl) ?_
      have hr := Option.some.inj hr
      subst hr
      exact awl_nil (athen_norm (awc_ret (athen_ret (ret_q (l' := [(6, .sl (.int .i64) ([] : List Int)), (7, .int .i64 7)]) (wk_of hX [] 4 rfl rfl ⟨⟨_, rfl, cv2⟩, ⟨_, rfl, cv0⟩, trivial⟩ trivial) rfl ⟨rfl, rfl, trivial⟩))))
    · have hr := if_f hc6 hr
      refine awc_skip (athen_norm (awc_seq ?_))
      refine awc_region ?_
      refine awl_op (aop_alloc zero34 rfl ?_)
      refine awl_nil (athen_norm (awc_seq (awc_seq ?_)))
      refine awc_region ?_
      refine awl_v (av_move rfl) ?_
      refine awl_v (av_move rfl) ?_
      obtain ⟨x7, e8, hr⟩ := bnd_some hr
      refine awl_v (av_call (f62_runs e8) ent62 rfl rfl) ?_
      refine awl_nil (athen_norm (awc_block ?_))
      obtain ⟨s11, e16, hr⟩ := bnd_some hr
      refine awc_wk (st' := ⟨[(1, .sl Y1 p1), (2, .sl (.int .i64) p2), (6, .nils), (7, .int .i64 0), (8, .ptr 0 0), (24, .fn 82 [] [.rp [.int .i64 p0], .rp [.sl Y1 p1]])], [(0, .var 34 [.osl 1]), (1, .sl 22 (.slice (.int .i64)) ([] : List (List Int)))], 2⟩) (Wk.trans (wk_ownC (i := 0) (o := 0) 22 (.slice (.int .i64)) rfl rfl rfl) (wk_of hX [0, 1] 4 rfl rfl ⟨⟨_, rfl, cv0⟩, ⟨_, rfl, cv0⟩, ⟨_, rfl, cv0⟩, ⟨_, rfl, cv0⟩, ⟨_, rfl, cv0⟩, ⟨_, rfl, cv0⟩, trivial⟩ ⟨cvo0, cvo0, trivial⟩)) (awc_rangeF (σ := List (List Int)) (α := Int × List Int) 1 (f41_b0) (fun x => [.int .i64 x.1, .sl (.int .i64) x.2]) [(1, .sl Y1 p1), (2, .sl (.int .i64) p2), (6, .nils), (7, .int .i64 0), (8, .ptr 0 0), (24, .fn 82 [] [.rp [.int .i64 p0], .rp [.sl Y1 p1]])] (fun p => match p with | s11 => ([(0, .var 34 [.osl 1]), (1, .sl 22 (.slice (.int .i64)) s11)] : AH)) 2 rfl rfl rfl ent82 rfl rfl (fun _ => rfl) rfl (by rw [hX]; rfl) rfl (fun L rec G hrec hY => f82_iter (q := f41_b0) e16 hrec hY) ?_ ?_)
      · intro w0 L X hX
        rintro s11 ⟨y17, y18⟩ s' hr
        refine awc_region ?_
        refine awl_v (av_assign rfl) ?_
        refine awl_nil (ranged ?_)
        intro w0
        refine awc_block ?_
        refine awc_region ?_
        refine awl_v (av_load_ptr ts34 rfl rfl rfl) ?_
        refine awl_v (av_move rfl) ?_
        refine awl_v (av_buildSlice (t := (.slice (.int .i64))) (qs := [(0, [.sl (.int .i64) y18])]) (ys := [y18]) bs34 rfl rfl rfl rfl rfl rfl rfl rfl) ?_
        obtain ⟨h19, hr⟩ := chk_some hr
        refine awl_op (aop_append rfl rfl app34 rfl rfl rfl h19 rfl ?_)
        refine awl_op (aop_store sz34 rfl rfl rfl rfl rfl rfl rfl ?_)
        have hr := Option.some.inj hr
        subst hr
        exact awl_nil (ablock_norm ((wk_of hX [0, 2] 4 rfl rfl trivial ⟨cvo0, cvo0, trivial⟩)))
      refine ablock_norm (athen_norm (awc_seq ?_))
      refine awc_region ?_
      refine awl_v (av_move rfl) ?_
      refine awl_v (av_len_sl (t := Y1) rfl rfl und30 rfl) ?_
      obtain ⟨h20, hr⟩ := chk_some hr
      refine awl_op (aop_make (t := .bool) und40 zt4 rfl rfl h20 rfl ?_)
      refine awl_op (aop_alloc zero40 rfl ?_)
      refine awl_op (aop_store sz40 rfl rfl rfl rfl rfl rfl rfl ?_)
      refine awl_nil (athen_norm (awc_seq ?_))
      refine awc_region ?_
      refine awl_v (av_assign rfl) ?_
      refine awl_nil (athen_norm (awc_seq (awc_block ?_)))
      obtain ⟨s25, e28, hr⟩ := bnd_some hr
      refine awc_loop (S := List Int × List Bool) (R := List Int) (fun p => match p with | (s21, s22) => (⟨[(1, .sl Y1 p1), (2, .sl (.int .i64) p2), (6, .nils), (7, .int .i64 0), (8, .ptr 0 0), (11, .ptr 1 0), (12, .osl 2)], [(0, .var 34 [.osl 3]), (1, .var 40 [.osl 4]), (2, .sl 3 (.int .i64) s21), (3, .sl 22 (.slice (.int .i64)) s11), (4, .sl 4 .bool s22)], 5⟩ : AS)) (f41_b1 p1 p2 s11) (fun r e st => match r with | s25 => e = .exit 2 ∧ Wk X st ⟨[(6, .nils), (7, .int .i64 0), (12, .osl 0)], [(0, .sl 3 (.int .i64) s25)], 1⟩) e28 (Wk.trans (wk_own (t := 12) 3 (.int .i64) rfl) (wk_of hX [0, 3, 4, 1, 2] 4 rfl rfl ⟨⟨_, rfl, cv0⟩, ⟨_, rfl, cv0⟩, ⟨_, rfl, cv0⟩, ⟨_, rfl, cv0⟩, ⟨_, rfl, cv0⟩, ⟨_, rfl, cv0⟩, ⟨_, rfl, cv0⟩, trivial⟩ ⟨cvo0, cvo0, cvo0, cvo0, cvo0, trivial⟩)) ?_ ?_
      · intro e st hx
        obtain ⟨rfl, hw⟩ := hx
        refine ablock_here (athen_norm ((awc_wk hw) (awc_seq ?_)))
        refine awc_region ?_
        refine awl_v (av_move rfl) ?_
        refine awl_v (av_assign rfl) ?_
        refine awl_v (av_assign rfl) ?_
        have hr := Option.some.inj hr
        subst hr
        exact awl_nil (athen_norm (awc_ret (ret_q (l' := [(6, .sl (.int .i64) s25), (7, .int .i64 0)]) (wk_of hX [] 4 rfl rfl ⟨⟨_, rfl, cv0⟩, ⟨_, rfl, cv0⟩, trivial⟩ trivial) rfl ⟨rfl, rfl, trivial⟩)))
      · rintro ⟨s21, s22⟩ o hr
        refine awc_seq (awc_seq ?_)
        refine awc_region ?_
        refine awl_v (av_move rfl) ?_
        refine awl_v (av_len_osl (t := (.int .i64)) rfl rfl und22 rfl rfl) ?_
        refine awl_v (av_move rfl) ?_
        refine awl_v (av_len_sl (t := Y1) rfl rfl und30 rfl) ?_
        refine awl_v (av_lss rfl rfl) ?_
        refine awl_nil (athen_norm ?_)
        refine awc_cond (b := decide ((List.length s21 : Int) < (List.length p1 : Int))) rfl (fun hc29 => ?_) (fun hc29 => ?_)
        · have hr := if_t hc29 hr
          refine awc_skip (athen_norm (awc_block (awc_seq ?_)))
          refine awc_region ?_
          refine awl_v (av_assign rfl) ?_
          refine awl_nil (athen_norm (awc_seq (awc_seq ?_)))
          refine awc_region ?_
          refine awl_v (av_move rfl) ?_
          refine awl_v (av_len_sl (t := Y1) rfl rfl und30 rfl) ?_
          refine awl_v (av_move rfl) ?_
          refine awl_nil (athen_norm (awc_block ?_))
          obtain ⟨o35, e36, hr⟩ := bnd_some hr
          refine awc_len (t := 1) rfl (fun hl => ?_)
          refine awc_range (S := List Int) (R := Unit) (List.length p1 : Int) (f41_b2 s11 s22) (fun p => match p with | (i30, s32) => (⟨[(1, .sl Y1 p1), (2, .sl (.int .i64) p2), (6, .nils), (7, .int .i64 0), (8, .ptr 0 0), (11, .ptr 1 0), (12, .osl 2), (13, .osl 3), (40, .int .i64 (List.length p1 : Int)), (41, .int .i64 i30)], [(0, .var 34 [.osl 4]), (1, .var 40 [.osl 5]), (2, .sl 3 (.int .i64) s21), (3, .sl 3 (.int .i64) s32), (4, .sl 22 (.slice (.int .i64)) s11), (5, .sl 4 .bool s22)], 6⟩ : AS)) (fun o e st => match o with | .inr _ => False | .inl s32 => e = .exit 4 ∧ Wk X st ⟨[(1, .sl Y1 p1), (2, .sl (.int .i64) p2), (6, .nils), (7, .int .i64 0), (8, .ptr 0 0), (11, .ptr 1 0), (12, .osl 2), (13, .osl 3)], [(0, .var 34 [.osl 4]), (1, .var 40 [.osl 5]), (2, .sl 3 (.int .i64) s21), (3, .sl 3 (.int .i64) s32), (4, .sl 22 (.slice (.int .i64)) s11), (5, .sl 4 .bool s22)], 6⟩) (len_ok hl) e36 (Wk.trans (wk_own (t := 13) 3 (.int .i64) rfl) (wk_of hX [0, 1, 2, 5, 3, 4] 4 rfl rfl ⟨⟨_, rfl, cv0⟩, ⟨_, rfl, cv0⟩, ⟨_, rfl, cv0⟩, ⟨_, rfl, cv0⟩, ⟨_, rfl, cv0⟩, ⟨_, rfl, cv0⟩, ⟨_, rfl, cv0⟩, ⟨_, rfl, cv0⟩, ⟨_, rfl, cv0⟩, ⟨_, rfl, cv0⟩, trivial⟩ ⟨cvo0, cvo0, cvo0, cvo0, cvo0, cvo0, trivial⟩)) ?_ ?_
          · intro e st hx
            rcases o35 with s32 | _
            · obtain ⟨rfl, hw⟩ := hx
              refine ablock_here (athen_norm ((awc_wk hw) (awc_seq ?_)))
              refine awc_region ?_
              refine awl_v (av_assign rfl) ?_
              refine awl_nil (athen_norm ?_)
              obtain ⟨o38, e39, hr⟩ := bnd_some hr
              refine awc_join (S := Int) (R := Unit) (fun s => match s with | s37 => (⟨[(1, .sl Y1 p1), (2, .sl (.int .i64) p2), (6, .nils), (7, .int .i64 0), (8, .ptr 0 0), (11, .ptr 1 0), (12, .osl 2), (13, .osl 3), (15, .int .i64 s37)], [(0, .var 34 [.osl 4]), (1, .var 40 [.osl 5]), (2, .sl 3 (.int .i64) s21), (3, .sl 3 (.int .i64) s32), (4, .sl 22 (.slice (.int .i64)) s11), (5, .sl 4 .bool s22)], 6⟩ : AS)) (fun _ _ _ => False) e39 (fun hr => ?_) ?_ ?_
              · refine awc_seq ?_
                refine awc_region ?_
                refine awl_v (av_move rfl) ?_
                refine awl_v (av_len_osl (t := (.int .i64)) rfl rfl und22 rfl rfl) ?_
                refine awl_v (av_move rfl) ?_
                refine awl_v (av_len_sl (t := (.int .i64)) rfl rfl und22 rfl) ?_
                refine awl_v (av_lss rfl rfl) ?_
                refine awl_nil (athen_norm ?_)
                refine awc_cond (b := decide ((List.length s21 : Int) < (List.length p2 : Int))) rfl (fun hc40 => ?_) (fun hc40 => ?_)
                · have hr := if_t hc40 hr
                  refine awc_region ?_
                  refine awl_v (av_move rfl) ?_
                  refine awl_v (av_move rfl) ?_
                  refine awl_v (av_len_osl (t := (.int .i64)) rfl rfl und22 rfl rfl) ?_
                  obtain ⟨x41, e42, hr⟩ := bnd_some hr
                  refine awl_v (av_ia_sl (t := (.int .i64)) (e := x41) und22 sz3 rfl rfl e42) ?_
                  refine awl_v (av_load_rp ts3 rfl) ?_
                  refine awl_v (av_move rfl) ?_
                  refine awl_v (av_len_osl (t := (.int .i64)) rfl rfl und22 rfl rfl) ?_
                  obtain ⟨h43, hr⟩ := chk_some hr
                  refine awl_v (av_rem rfl rfl (not_t h43)) ?_
                  refine awl_v (av_assign rfl) ?_
                  have hr := Option.some.inj hr
                  subst hr
                  exact awl_nil ((wk_of hX [0, 1, 2, 3, 4, 5] 4 rfl rfl ⟨⟨_, rfl, cv0⟩, ⟨_, rfl, cv0⟩, ⟨_, rfl, cv0⟩, ⟨_, rfl, cv0⟩, ⟨_, rfl, cv0⟩, ⟨_, rfl, cv0⟩, ⟨_, rfl, cv0⟩, ⟨_, rfl, cv0⟩, ⟨_, rfl, cv0⟩, trivial⟩ ⟨cvo0, cvo0, cvo0, cvo0, cvo0, cvo0, trivial⟩))
                · have hr := if_f hc40 hr
                  have hr := Option.some.inj hr
                  subst hr
                  exact awc_skip ((wk_of hX [0, 1, 2, 3, 4, 5] 4 rfl rfl ⟨⟨_, rfl, cv0⟩, ⟨_, rfl, cv0⟩, ⟨_, rfl, cv0⟩, ⟨_, rfl, cv0⟩, ⟨_, rfl, cv0⟩, ⟨_, rfl, cv0⟩, ⟨_, rfl, cv0⟩, ⟨_, rfl, cv0⟩, ⟨_, rfl, cv0⟩, trivial⟩ ⟨cvo0, cvo0, cvo0, cvo0, cvo0, cvo0, trivial⟩))
              · rintro s37 rfl
                refine awc_seq ?_
                obtain ⟨x44, e45, hr⟩ := bnd_some hr
                obtain ⟨x46, e47, hr⟩ := bnd_some hr
                refine awc_draw_tail2 6 [6, 6, 6, 6, 6, 6] mixed [1, 2, 6, 7, 8, 11, 12, 13, 15] [(true, .osl 5), (true, .osl 3), (true, .int .i64 s37), (true, .ep 3 1 (Int.toNat s37) 0), (true, .int .i64 x44), (true, .ep 5 1 (Int.toNat x44) 0)] [[], [], [], [1, 2], [3], [0, 4]] [5] rfl rfl rfl rfl rfl rfl rfl rfl ⟨?_, ?_, ?_, ?_, ?_, ?_, trivial⟩ (allT_of ⟨rfl, trivial⟩) ?_
                · exact ob_v rfl (fun hg => allT_of trivial) (fun hg => av_load_ptr ts40 rfl rfl rfl)
                · exact ob_v rfl (fun hg => allT_of trivial) (fun hg => av_move rfl)
                · exact ob_v rfl (fun hg => allT_of trivial) (fun hg => av_move rfl)
                · exact ob_v rfl (fun hg => allT_of ⟨rfl, rfl, trivial⟩) (fun hg => av_ia_osl (t := (.int .i64)) und22 sz3 rfl rfl rfl e45)
                · exact ob_v rfl (fun hg => allT_of ⟨rfl, trivial⟩) (fun hg => av_load_ep ts3 rfl rfl rfl (ix_at e45) rfl)
                · exact ob_v rfl (fun hg => allT_of ⟨rfl, rfl, trivial⟩) (fun hg => av_ia_osl (t := .bool) und40 sz4 rfl rfl rfl e47)
                refine awl_op (aop_store_ep (e' := true) sz4 rfl rfl rfl rfl (ix_at e47) rfl rfl rfl rfl rfl ?_)
                refine awl_nil (athen_norm ?_)
                refine awc_region ?_
                refine awl_v (av_move rfl) ?_
                refine awl_v (av_move rfl) ?_
                refine awl_v (av_move rfl) ?_
                refine awl_v (av_ia_osl (t := (.int .i64)) und22 sz3 rfl rfl rfl e45) ?_
                refine awl_v (av_load_ep ts3 rfl rfl rfl (ix_at e45) rfl) ?_
                refine awl_v (av_buildSlice (t := (.int .i64)) (qs := [(0, [.int .i64 x44])]) (ys := [x44]) bs22 rfl rfl rfl rfl rfl rfl rfl rfl) ?_
                obtain ⟨h48, hr⟩ := chk_some hr
                refine awl_op (aop_append rfl rfl app22 rfl rfl rfl h48 rfl ?_)
                refine awl_v (av_assign rfl) ?_
                have hr := Option.some.inj hr
                subst hr
                exact awl_nil (ablock_norm ((wk_of hX [0, 1, 6, 4, 5] 4 rfl rfl ⟨⟨_, rfl, cv0⟩, ⟨_, rfl, cv0⟩, ⟨_, rfl, cv0⟩, ⟨_, rfl, cv0⟩, ⟨_, rfl, cv0⟩, ⟨_, rfl, cv0⟩, ⟨_, rfl, cv0⟩, trivial⟩ ⟨cvo0, cvo0, cvo0, cvo0, cvo0, trivial⟩)))
              · exact fun r h e st hne hx => hx.elim
            · exact hx.elim
          · rintro i30 s32 o ho
            refine awc_seq ?_
            refine awc_region ?_
            refine awl_v (av_lss rfl rfl) ?_
            refine awl_nil (athen_norm (awc_seq ?_))
            refine awc_cond (b := decide (i30 < (List.length p1 : Int))) rfl (fun hc49 => ?_) (fun hc49 => ?_)
            · obtain ⟨q, hr, rfl⟩ := rb_t hc49 ho
              refine awc_skip (athen_norm ?_)
              obtain ⟨o51, e52, hr⟩ := bnd_some hr
              refine awc_join (S := List Int) (R := Unit) (fun s => match s with | s50 => (⟨[(1, .sl Y1 p1), (2, .sl (.int .i64) p2), (6, .nils), (7, .int .i64 0), (8, .ptr 0 0), (11, .ptr 1 0), (12, .osl 2), (13, .osl 3), (40, .int .i64 (List.length p1 : Int)), (41, .int .i64 i30)], [(0, .var 34 [.osl 4]), (1, .var 40 [.osl 5]), (2, .sl 3 (.int .i64) s21), (3, .sl 3 (.int .i64) s50), (4, .sl 22 (.slice (.int .i64)) s11), (5, .sl 4 .bool s22)], 6⟩ : AS)) (fun _ _ _ => False) e52 (fun hr => ?_) ?_ ?_
              · refine awc_block (awc_seq ?_)
                refine awc_region ?_
                refine awl_v (av_move rfl) ?_
                refine awl_v (av_assign rfl) ?_
                refine awl_nil (athen_norm (awc_seq ?_))
                obtain ⟨x53, e54, hr⟩ := bnd_some hr
                obtain ⟨h55, hr⟩ := chk_some hr
                obtain ⟨h56, hr⟩ := chk_some hr
                refine awc_text [1, 2, 6, 7, 8, 11, 12, 13, 40, 41, 14] [(true, .osl 5), (true, .int .i64 i30), (true, .ep 5 1 (Int.toNat i30) 0), (true, .bool x53), (true, .bool (!x53)), (true, .bool (!x53)), (!x53, .osl 4), (!x53, .int .i64 i30), (!x53, .ep 4 1 (Int.toNat i30) 0), (!x53, .sl (.int .i64) ((ix s11 i30).getD default)), (!x53, .fn 77 [] [.ptr 1 0]), (!x53, .bool ((f75 ((ix s11 i30).getD default) (fun y1 => f77 y1 s22)).getD default)), (!x53, .bool (!((f75 ((ix s11 i30).getD default) (fun y1 => f77 y1 s22)).getD default))), (true, .bool ((!x53) && (!((f75 ((ix s11 i30).getD default) (fun y1 => f77 y1 s22)).getD default))))] [[], [], [0, 1], [2], [3], [4], [5], [5], [6, 7, 5], [8, 5], [5], [9, 10, 5], [11, 5], [12, 5]] [13] rfl rfl rfl rfl rfl ⟨?_, ?_, ?_, ?_, ?_, ?_, ?_, ?_, ?_, ?_, ?_, ?_, ?_, ?_, trivial⟩ (allT_of ⟨rfl, trivial⟩) ?_
                · exact ob_v rfl (fun hg => allT_of trivial) (fun hg => av_load_ptr ts40 rfl rfl rfl)
                · exact ob_v rfl (fun hg => allT_of trivial) (fun hg => av_move rfl)
                · exact ob_v rfl (fun hg => allT_of ⟨rfl, rfl, trivial⟩) (fun hg => av_ia_osl (t := .bool) und40 sz4 rfl rfl rfl e54)
                · exact ob_v rfl (fun hg => allT_of ⟨rfl, trivial⟩) (fun hg => av_load_ep ts4 rfl rfl rfl (ix_at e54) rfl)
                · exact ob_v rfl (fun hg => allT_of ⟨rfl, trivial⟩) (fun hg => av_not rfl)
                · exact ob_v rfl (fun hg => allT_of ⟨rfl, trivial⟩) (fun hg => av_move rfl)
                · exact ob_v ⟨rfl, rfl, rfl, _, rfl, rfl⟩ (fun hg => allT_of ⟨rfl, trivial⟩) (fun hg => av_load_ptr ts34 rfl rfl rfl)
                · exact ob_v ⟨rfl, rfl, rfl, _, rfl, rfl⟩ (fun hg => allT_of ⟨rfl, trivial⟩) (fun hg => av_move rfl)
                · exact ob_v ⟨rfl, rfl, rfl, _, rfl, rfl⟩ (fun hg => allT_of ⟨hg, hg, rfl, trivial⟩) (fun hg => av_ia_osl (t := (.slice (.int .i64))) und34 sz22 rfl rfl rfl (get_g h55 hg))
                · exact ob_v ⟨rfl, rfl, rfl, _, rfl, rfl⟩ (fun hg => allT_of ⟨hg, rfl, trivial⟩) (fun hg => av_load_ep ts22 rfl rfl rfl (ix_at (get_g h55 hg)) rfl)
                · exact ob_v ⟨rfl, rfl, rfl, _, rfl, rfl⟩ (fun hg => allT_of ⟨rfl, trivial⟩) (fun hg => av_makeFunc (us := []) (vs := [.ptr 1 0]) rfl rfl)
                · exact ob_v ⟨rfl, rfl, rfl, _, rfl, rfl⟩ (fun hg => allT_of ⟨hg, hg, rfl, trivial⟩) (fun hg => av_callB (as' := [.sl (.int .i64) ((ix s11 i30).getD default), .fn 77 [] [.ptr 1 0]]) (f75_runs (g1 := 77) (c1s := [.rp [.sl .bool s22]]) (fun _ r h => f77_runs h) ⟨ent77⟩ (get_g h56 hg)) ent75 rfl ⟨cv0, (cv3 rfl), trivial⟩ rfl rfl)
                · exact ob_v ⟨rfl, rfl, rfl, _, rfl, rfl⟩ (fun hg => allT_of ⟨hg, rfl, trivial⟩) (fun hg => av_not rfl)
                · exact ob_pick (b := true) (p := !x53) (q := !((f75 ((ix s11 i30).getD default) (fun y1 => f77 y1 s22)).getD default)) rfl rfl rfl (fun hg => allT_of ⟨rfl, trivial⟩) rfl rfl rfl rfl rfl
                refine athen_norm ?_
                refine awc_cond (b := (!x53) && (!((f75 ((ix s11 i30).getD default) (fun y1 => f77 y1 s22)).getD default))) rfl (fun hc57 => ?_) (fun hc57 => ?_)
                · have hr := if_t hc57 hr
                  refine awc_region ?_
                  refine awl_v (av_move rfl) ?_
                  refine awl_v (av_move rfl) ?_
                  refine awl_v (av_buildSlice (t := (.int .i64)) (qs := [(0, [.int .i64 i30])]) (ys := [i30]) bs22 rfl rfl rfl rfl rfl rfl rfl rfl) ?_
                  obtain ⟨h58, hr⟩ := chk_some hr
                  refine awl_op (aop_append rfl rfl app22 rfl rfl rfl h58 rfl ?_)
                  refine awl_v (av_assign rfl) ?_
                  have hr := Option.some.inj hr
                  subst hr
                  exact awl_nil (ablock_norm ((wk_of hX [0, 1, 2, 6, 4, 5] 4 rfl rfl ⟨⟨_, rfl, cv0⟩, ⟨_, rfl, cv0⟩, ⟨_, rfl, cv0⟩, ⟨_, rfl, cv0⟩, ⟨_, rfl, cv0⟩, ⟨_, rfl, cv0⟩, ⟨_, rfl, cv0⟩, ⟨_, rfl, cv0⟩, ⟨_, rfl, cv0⟩, ⟨_, rfl, cv0⟩, trivial⟩ ⟨cvo0, cvo0, cvo0, cvo0, cvo0, cvo0, trivial⟩)))
                · have hr := if_f hc57 hr
                  have hr := Option.some.inj hr
                  subst hr
                  exact awc_skip (ablock_norm ((wk_of hX [0, 1, 2, 3, 4, 5] 4 rfl rfl ⟨⟨_, rfl, cv0⟩, ⟨_, rfl, cv0⟩, ⟨_, rfl, cv0⟩, ⟨_, rfl, cv0⟩, ⟨_, rfl, cv0⟩, ⟨_, rfl, cv0⟩, ⟨_, rfl, cv0⟩, ⟨_, rfl, cv0⟩, ⟨_, rfl, cv0⟩, ⟨_, rfl, cv0⟩, trivial⟩ ⟨cvo0, cvo0, cvo0, cvo0, cvo0, cvo0, trivial⟩)))
              · rintro s50 rfl
                refine awc_region ?_
                refine awl_v (av_add rfl rfl) ?_
                refine awl_v (av_move rfl) ?_
                have hr := Option.some.inj hr
                subst hr
                exact awl_nil ((wk_of hX [0, 1, 2, 3, 4, 5] 4 rfl rfl ⟨⟨_, rfl, cv0⟩, ⟨_, rfl, cv0⟩, ⟨_, rfl, cv0⟩, ⟨_, rfl, cv0⟩, ⟨_, rfl, cv0⟩, ⟨_, rfl, cv0⟩, ⟨_, rfl, cv0⟩, ⟨_, rfl, cv0⟩, ⟨_, rfl, cv0⟩, ⟨_, rfl, cv0⟩, trivial⟩ ⟨cvo0, cvo0, cvo0, cvo0, cvo0, cvo0, trivial⟩))
              · exact fun r h e st hne hx => hx.elim
            · obtain rfl := rb_f hc49 ho
              exact awc_exit (athen_exit (⟨rfl, (wk_of hX [0, 1, 2, 3, 4, 5] 4 rfl rfl ⟨⟨_, rfl, cv0⟩, ⟨_, rfl, cv0⟩, ⟨_, rfl, cv0⟩, ⟨_, rfl, cv0⟩, ⟨_, rfl, cv0⟩, ⟨_, rfl, cv0⟩, ⟨_, rfl, cv0⟩, ⟨_, rfl, cv0⟩, trivial⟩ ⟨cvo0, cvo0, cvo0, cvo0, cvo0, cvo0, trivial⟩)⟩))
        · have hr := if_f hc29 hr
          have hr := Option.some.inj hr
          subst hr
          exact awc_exit (athen_exit (⟨rfl, (wk_of hX [2] 4 rfl rfl ⟨⟨_, rfl, cv0⟩, ⟨_, rfl, cv0⟩, ⟨_, rfl, cv0⟩, trivial⟩ ⟨cvo0, trivial⟩)⟩))
theorem f42_runs {p0 : Int} {p1 : List (Int × Int × Int × Int × Str)} {p2 : List Int} {r : List Int × Int} (hr : f42 p0 p1 p2 = some r) : RunsP Try.prog 42 [.int .i64 p0, .sl Y1 p1, .sl (.int .i64) p2] [.sl (.int .i64) r.1, .int .i64 r.2] := by
  refine runs_w Try.func42 Try.ntmps42 rfl (rs := [.tmp 6, .tmp 7]) rfl rfl fun w0 X hX => ?_
  refine awc_seq ?_
  refine awc_region ?_
  refine awl_v (av_assign rfl) ?_
  refine awl_v (av_assign rfl) ?_
  refine awl_nil (athen_norm (awc_seq (awc_seq ?_)))
  refine awc_region ?_
  refine awl_v (av_move rfl) ?_
  refine awl_v (av_move rfl) ?_
  obtain ⟨x1, e2, hr⟩ := bnd_some hr
  refine awl_v (av_call (f18_runs e2) ent18 rfl rfl) ?_
  refine awl_v (av_not rfl) ?_
  refine awl_nil (athen_norm ?_)
  refine awc_cond (b := !x1) rfl (fun hc3 => ?_) (fun hc3 => ?_)
  · have hr := if_t hc3 hr
    refine awc_seq ?_
    refine awc_region ?_
    refine awl_v (av_assign rfl) ?_
    refine awl_v (av_assign rfl) ?_
    have hr := Option.some.inj hr
    subst hr
    exact awl_nil (athen_norm (awc_ret (athen_ret (ret_q (l' := [(6, .sl (.int .i64) ([] : List Int)), (7, .int .i64 1)]) (wk_of hX [] 4 rfl rfl ⟨⟨_, rfl, cv2⟩, ⟨_, rfl, cv0⟩, trivial⟩ trivial) rfl ⟨rfl, rfl, trivial⟩))))
  · have hr := if_f hc3 hr
    refine awc_skip (athen_norm (awc_seq (awc_seq ?_)))
    refine awc_region ?_
    refine awl_v (av_move rfl) ?_
    refine awl_v (av_len_sl (t := (.int .i64)) rfl rfl und22 rfl) ?_
    refine awl_v (av_move rfl) ?_
    refine awl_nil (athen_norm (awc_block ?_))
    obtain ⟨o6, e7, hr⟩ := bnd_some hr
    refine awc_len (t := 2) rfl (fun hl => ?_)
    refine awc_range (S := Unit) (R := Unit) (List.length p2 : Int) (f42_b0 p2) (fun p => match p with | (i4, ()) => (⟨[(1, .sl Y1 p1), (2, .sl (.int .i64) p2), (6, .nils), (7, .int .i64 0), (24, .sl (.int .i64) p2), (25, .int .i64 (List.length p2 : Int)), (26, .int .i64 i4)], [], 0⟩ : AS)) (fun o e st => match o with | .inl () => e = .exit 0 ∧ Wk X st ⟨[(1, .sl Y1 p1), (2, .sl (.int .i64) p2), (6, .nils), (7, .int .i64 0)], [], 0⟩ | .inr () => e = .ret ∧ Wk X st ⟨[(6, .nils), (7, .int .i64 7)], [], 0⟩) (len_ok hl) e7 (wk_of hX [] 4 rfl rfl ⟨⟨_, rfl, cv0⟩, ⟨_, rfl, cv0⟩, ⟨_, rfl, cv0⟩, ⟨_, rfl, cv0⟩, ⟨_, rfl, cv0⟩, ⟨_, rfl, cv0⟩, ⟨_, rfl, cv0⟩, trivial⟩ trivial) ?_ ?_
    · intro e st hx
      rcases o6 with _ | _
      · obtain ⟨rfl, hw⟩ := hx
        refine ablock_here (athen_norm ((awc_wk hw) (awc_seq ?_)))
        refine awc_region ?_
        refine awl_v (av_move rfl) ?_
        obtain ⟨x8, e9, hr⟩ := bnd_some hr
        refine awl_v (av_call (f23_runs e9) ent23 rfl rfl) ?_
        refine awl_v (av_assign rfl) ?_
        refine awl_nil (athen_norm (awc_seq ?_))
        refine awc_region ?_
        refine awl_v (av_move rfl) ?_
        refine awl_v (av_len_sl (t := Y1) rfl rfl und30 rfl) ?_
        obtain ⟨h10, hr⟩ := chk_some hr
        refine awl_op (aop_make (t := .bool) und40 zt4 rfl rfl h10 rfl ?_)
        refine awl_v (av_assign rfl) ?_
        refine awl_nil (athen_norm (awc_seq ?_))
        refine awc_region ?_
        refine awl_v (av_assign rfl) ?_
        refine awl_nil (athen_norm (awc_seq (awc_seq ?_)))
        refine awc_region ?_
        refine awl_v (av_move rfl) ?_
        refine awl_v (av_len_sl (t := Y1) rfl rfl und30 rfl) ?_
        refine awl_v (av_move rfl) ?_
        refine awl_nil (athen_norm (awc_block ?_))
        obtain ⟨o18, e19, hr⟩ := bnd_some hr
        refine awc_len (t := 1) rfl (fun hl => ?_)
        refine awc_range (S := List Bool × List Int) (R := Unit) (List.length p1 : Int) (f42_b1 p1 p2 x8) (fun p => match p with | (i11, s13, s14) => (⟨[(1, .sl Y1 p1), (2, .sl (.int .i64) p2), (6, .nils), (7, .int .i64 0), (10, .sl (.slice .bool) x8), (11, .osl 0), (12, .osl 1), (39, .int .i64 (List.length p1 : Int)), (40, .int .i64 i11)], [(0, .sl 4 .bool s13), (1, .sl 3 (.int .i64) s14)], 2⟩ : AS)) (fun o e st => match o with | .inr _ => False | .inl (s13, s14) => e = .exit 2 ∧ Wk X st ⟨[(6, .nils), (7, .int .i64 0), (12, .osl 0)], [(0, .sl 3 (.int .i64) s14)], 1⟩) (len_ok hl) e19 (Wk.trans (wk_own (t := 12) 3 (.int .i64) rfl) (wk_of hX [0, 1] 4 rfl rfl ⟨⟨_, rfl, cv0⟩, ⟨_, rfl, cv0⟩, ⟨_, rfl, cv0⟩, ⟨_, rfl, cv0⟩, ⟨_, rfl, cv0⟩, ⟨_, rfl, cv0⟩, ⟨_, rfl, cv0⟩, ⟨_, rfl, cv0⟩, ⟨_, rfl, cv0⟩, trivial⟩ ⟨cvo0, cvo0, trivial⟩)) ?_ ?_
        · intro e st hx
          rcases o18 with ⟨s13, s14⟩ | _
          · obtain ⟨rfl, hw⟩ := hx
            refine ablock_here (athen_norm ((awc_wk hw) (awc_seq ?_)))
            refine awc_region ?_
            refine awl_v (av_move rfl) ?_
            refine awl_v (av_assign rfl) ?_
            refine awl_v (av_assign rfl) ?_
            have hr := Option.some.inj hr
            subst hr
            exact awl_nil (athen_norm (awc_ret (ret_q (l' := [(6, .sl (.int .i64) s14), (7, .int .i64 0)]) (wk_of hX [] 4 rfl rfl ⟨⟨_, rfl, cv0⟩, ⟨_, rfl, cv0⟩, trivial⟩ trivial) rfl ⟨rfl, rfl, trivial⟩)))
          · exact hx.elim
        · rintro i11 ⟨s13, s14⟩ o ho
          refine awc_seq ?_
          refine awc_region ?_
          refine awl_v (av_lss rfl rfl) ?_
          refine awl_nil (athen_norm (awc_seq ?_))
          refine awc_cond (b := decide (i11 < (List.length p1 : Int))) rfl (fun hc20 => ?_) (fun hc20 => ?_)
          · obtain ⟨q, hr, rfl⟩ := rb_t hc20 ho
            refine awc_skip (athen_norm (awc_seq (awc_block (awc_seq ?_))))
            refine awc_region ?_
            refine awl_v (av_move rfl) ?_
            refine awl_v (av_assign rfl) ?_
            refine awl_nil (athen_norm (awc_seq ?_))
            refine awc_region ?_
            refine awl_v (av_assign rfl) ?_
            refine awl_nil (athen_norm (awc_seq (awc_seq ?_)))
            refine awc_region ?_
            refine awl_v (av_move rfl) ?_
            refine awl_v (av_len_sl (t := Y1) rfl rfl und30 rfl) ?_
            refine awl_v (av_move rfl) ?_
            refine awl_nil (athen_norm (awc_block ?_))
            obtain ⟨o26, e27, hr⟩ := bnd_some hr
            refine awc_len (t := 1) rfl (fun hl => ?_)
            refine awc_range (S := List Int) (R := Unit) (List.length p1 : Int) (f42_b2 x8 s13) (fun p => match p with | (i21, s23) => (⟨[(1, .sl Y1 p1), (2, .sl (.int .i64) p2), (6, .nils), (7, .int .i64 0), (10, .sl (.slice .bool) x8), (11, .osl 0), (12, .osl 1), (13, .int .i64 i11), (14, .osl 2), (39, .int .i64 (List.length p1 : Int)), (40, .int .i64 i11), (44, .int .i64 (List.length p1 : Int)), (45, .int .i64 i21)], [(0, .sl 4 .bool s13), (1, .sl 3 (.int .i64) s14), (2, .sl 3 (.int .i64) s23)], 3⟩ : AS)) (fun o e st => match o with | .inr _ => False | .inl s23 => e = .exit 4 ∧ Wk X st ⟨[(1, .sl Y1 p1), (2, .sl (.int .i64) p2), (6, .nils), (7, .int .i64 0), (10, .sl (.slice .bool) x8), (11, .osl 0), (12, .osl 1), (13, .int .i64 i11), (14, .osl 2), (39, .int .i64 (List.length p1 : Int)), (40, .int .i64 i11)], [(0, .sl 4 .bool s13), (1, .sl 3 (.int .i64) s14), (2, .sl 3 (.int .i64) s23)], 3⟩) (len_ok hl) e27 (Wk.trans (wk_own (t := 14) 3 (.int .i64) rfl) (wk_of hX [0, 1, 2] 4 rfl rfl ⟨⟨_, rfl, cv0⟩, ⟨_, rfl, cv0⟩, ⟨_, rfl, cv0⟩, ⟨_, rfl, cv0⟩, ⟨_, rfl, cv0⟩, ⟨_, rfl, cv0⟩, ⟨_, rfl, cv0⟩, ⟨_, rfl, cv0⟩, ⟨_, rfl, cv0⟩, ⟨_, rfl, cv0⟩, ⟨_, rfl, cv0⟩, ⟨_, rfl, cv0⟩, ⟨_, rfl, cv0⟩, trivial⟩ ⟨cvo0, cvo0, cvo0, trivial⟩)) ?_ ?_
            · intro e st hx
              rcases o26 with s23 | _
              · obtain ⟨rfl, hw⟩ := hx
                refine ablock_here (athen_norm ((awc_wk hw) (awc_seq ?_)))
                refine awc_region ?_
                refine awl_v (av_move rfl) ?_
                obtain ⟨x28, e29, hr⟩ := bnd_some hr
                refine awl_v (av_ia_osl (t := (.int .i64)) und22 sz3 rfl rfl rfl e29) ?_
                refine awl_v (av_load_ep ts3 rfl rfl rfl (ix_at e29) rfl) ?_
                refine awl_v (av_assign rfl) ?_
                refine awl_nil (athen_norm ?_)
                obtain ⟨o31, e32, hr⟩ := bnd_some hr
                refine awc_join (S := Int) (R := Unit) (fun s => match s with | s30 => (⟨[(1, .sl Y1 p1), (2, .sl (.int .i64) p2), (6, .nils), (7, .int .i64 0), (10, .sl (.slice .bool) x8), (11, .osl 0), (12, .osl 1), (19, .int .i64 s30), (39, .int .i64 (List.length p1 : Int)), (40, .int .i64 i11)], [(0, .sl 4 .bool s13), (1, .sl 3 (.int .i64) s14)], 2⟩ : AS)) (fun _ _ _ => False) e32 (fun hr => ?_) ?_ ?_
                · refine awc_seq ?_
                  refine awc_region ?_
                  refine awl_v (av_move rfl) ?_
                  refine awl_v (av_move rfl) ?_
                  refine awl_v (av_len_sl (t := (.int .i64)) rfl rfl und22 rfl) ?_
                  refine awl_v (av_lss rfl rfl) ?_
                  refine awl_nil (athen_norm ?_)
                  refine awc_cond (b := decide (i11 < (List.length p2 : Int))) rfl (fun hc33 => ?_) (fun hc33 => ?_)
                  · have hr := if_t hc33 hr
                    refine awc_region ?_
                    refine awl_v (av_move rfl) ?_
                    refine awl_v (av_move rfl) ?_
                    refine awl_v (av_move rfl) ?_
                    obtain ⟨x34, e35, hr⟩ := bnd_some hr
                    refine awl_v (av_ia_sl (t := (.int .i64)) (e := x34) und22 sz3 rfl rfl e35) ?_
                    refine awl_v (av_load_rp ts3 rfl) ?_
                    refine awl_v (av_move rfl) ?_
                    refine awl_v (av_len_osl (t := (.int .i64)) rfl rfl und22 rfl rfl) ?_
                    obtain ⟨h36, hr⟩ := chk_some hr
                    refine awl_v (av_rem rfl rfl (not_t h36)) ?_
                    obtain ⟨x37, e38, hr⟩ := bnd_some hr
                    refine awl_v (av_ia_osl (t := (.int .i64)) und22 sz3 rfl rfl rfl e38) ?_
                    refine awl_v (av_load_ep ts3 rfl rfl rfl (ix_at e38) rfl) ?_
                    refine awl_v (av_assign rfl) ?_
                    have hr := Option.some.inj hr
                    subst hr
                    exact awl_nil ((wk_of hX [0, 1] 4 rfl rfl ⟨⟨_, rfl, cv0⟩, ⟨_, rfl, cv0⟩, ⟨_, rfl, cv0⟩, ⟨_, rfl, cv0⟩, ⟨_, rfl, cv0⟩, ⟨_, rfl, cv0⟩, ⟨_, rfl, cv0⟩, ⟨_, rfl, cv0⟩, ⟨_, rfl, cv0⟩, ⟨_, rfl, cv0⟩, trivial⟩ ⟨cvo0, cvo0, trivial⟩))
                  · have hr := if_f hc33 hr
                    have hr := Option.some.inj hr
                    subst hr
                    exact awc_skip ((wk_of hX [0, 1] 4 rfl rfl ⟨⟨_, rfl, cv0⟩, ⟨_, rfl, cv0⟩, ⟨_, rfl, cv0⟩, ⟨_, rfl, cv0⟩, ⟨_, rfl, cv0⟩, ⟨_, rfl, cv0⟩, ⟨_, rfl, cv0⟩, ⟨_, rfl, cv0⟩, ⟨_, rfl, cv0⟩, ⟨_, rfl, cv0⟩, trivial⟩ ⟨cvo0, cvo0, trivial⟩))
                · rintro s30 rfl
                  refine awc_seq ?_
                  refine awc_region ?_
                  refine awl_v (av_move rfl) ?_
                  refine awl_v (av_move rfl) ?_
                  obtain ⟨x39, e40, hr⟩ := bnd_some hr
                  refine awl_v (av_ia_osl (t := .bool) und40 sz4 rfl rfl rfl e40) ?_
                  refine awl_op (aop_store_ep (e' := true) sz4 rfl rfl rfl rfl (ix_at e40) rfl rfl rfl rfl rfl ?_)
                  refine awl_nil (athen_norm ?_)
                  refine awc_region ?_
                  refine awl_v (av_move rfl) ?_
                  refine awl_v (av_move rfl) ?_
                  refine awl_v (av_buildSlice (t := (.int .i64)) (qs := [(0, [.int .i64 s30])]) (ys := [s30]) bs22 rfl rfl rfl rfl rfl rfl rfl rfl) ?_
                  obtain ⟨h41, hr⟩ := chk_some hr
                  refine awl_op (aop_append rfl rfl app22 rfl rfl rfl h41 rfl ?_)
                  refine awl_v (av_assign rfl) ?_
                  refine awl_nil (ablock_norm (athen_norm ?_))
                  refine awc_region ?_
                  refine awl_v (av_add rfl rfl) ?_
                  refine awl_v (av_move rfl) ?_
                  have hr := Option.some.inj hr
                  subst hr
                  exact awl_nil ((wk_of hX [0, 2] 4 rfl rfl ⟨⟨_, rfl, cv0⟩, ⟨_, rfl, cv0⟩, ⟨_, rfl, cv0⟩, ⟨_, rfl, cv0⟩, ⟨_, rfl, cv0⟩, ⟨_, rfl, cv0⟩, ⟨_, rfl, cv0⟩, ⟨_, rfl, cv0⟩, ⟨_, rfl, cv0⟩, trivial⟩ ⟨cvo0, cvo0, trivial⟩))
                · exact fun r h e st hne hx => hx.elim
              · exact hx.elim
            · rintro i21 s23 o ho
              refine awc_seq ?_
              refine awc_region ?_
              refine awl_v (av_lss rfl rfl) ?_
              refine awl_nil (athen_norm (awc_seq ?_))
              refine awc_cond (b := decide (i21 < (List.length p1 : Int))) rfl (fun hc42 => ?_) (fun hc42 => ?_)
              · obtain ⟨q, hr, rfl⟩ := rb_t hc42 ho
                refine awc_skip (athen_norm ?_)
                obtain ⟨o44, e45, hr⟩ := bnd_some hr
                refine awc_join (S := List Int) (R := Unit) (fun s => match s with | s43 => (⟨[(1, .sl Y1 p1), (2, .sl (.int .i64) p2), (6, .nils), (7, .int .i64 0), (10, .sl (.slice .bool) x8), (11, .osl 0), (12, .osl 1), (13, .int .i64 i11), (14, .osl 2), (39, .int .i64 (List.length p1 : Int)), (40, .int .i64 i11), (44, .int .i64 (List.length p1 : Int)), (45, .int .i64 i21)], [(0, .sl 4 .bool s13), (1, .sl 3 (.int .i64) s14), (2, .sl 3 (.int .i64) s43)], 3⟩ : AS)) (fun _ _ _ => False) e45 (fun hr => ?_) ?_ ?_
                · refine awc_block (awc_seq ?_)
                  refine awc_region ?_
                  refine awl_v (av_move rfl) ?_
                  refine awl_v (av_assign rfl) ?_
                  refine awl_nil (athen_norm (awc_seq ?_))
                  refine awc_region ?_
                  refine awl_v (av_move rfl) ?_
                  refine awl_v (av_move rfl) ?_
                  obtain ⟨x46, e47, hr⟩ := bnd_some hr
                  refine awl_v (av_ia_osl (t := .bool) und40 sz4 rfl rfl rfl e47) ?_
                  refine awl_v (av_load_ep ts4 rfl rfl rfl (ix_at e47) rfl) ?_
                  refine awl_v (av_not rfl) ?_
                  refine awl_v (av_assign rfl) ?_
                  refine awl_nil (athen_norm (awc_seq (awc_seq ?_)))
                  refine awc_region ?_
                  refine awl_v (av_move rfl) ?_
                  refine awl_v (av_move rfl) ?_
                  obtain ⟨x48, e49, hr⟩ := bnd_some hr
                  refine awl_v (av_ia_sl (t := (.slice .bool)) (e := x48) und38 sz40 rfl rfl e49) ?_
                  refine awl_v (av_load_rp ts40 rfl) ?_
                  refine awl_v (av_len_sl (t := .bool) rfl rfl und40 rfl) ?_
                  refine awl_v (av_move rfl) ?_
                  refine awl_nil (athen_norm (awc_block ?_))
                  obtain ⟨o55, e56, hr⟩ := bnd_some hr
                  refine awc_len (t := 56) rfl (fun hl => ?_)
                  refine awc_range (S := Bool) (R := Unit) (List.length x48 : Int) (f42_b3 s13 x48) (fun p => match p with | (i50, s51) => (⟨[(1, .sl Y1 p1), (2, .sl (.int .i64) p2), (6, .nils), (7, .int .i64 0), (10, .sl (.slice .bool) x8), (11, .osl 0), (12, .osl 1), (13, .int .i64 i11), (14, .osl 2), (15, .int .i64 i21), (16, .bool s51), (39, .int .i64 (List.length p1 : Int)), (40, .int .i64 i11), (44, .int .i64 (List.length p1 : Int)), (45, .int .i64 i21), (56, .sl .bool x48), (57, .int .i64 (List.length x48 : Int)), (58, .int .i64 i50)], [(0, .sl 4 .bool s13), (1, .sl 3 (.int .i64) s14), (2, .sl 3 (.int .i64) s23)], 3⟩ : AS)) (fun o e st => match o with | .inr _ => False | .inl s51 => e = .exit 6 ∧ Wk X st ⟨[(1, .sl Y1 p1), (2, .sl (.int .i64) p2), (6, .nils), (7, .int .i64 0), (10, .sl (.slice .bool) x8), (11, .osl 0), (12, .osl 1), (13, .int .i64 i11), (14, .osl 2), (15, .int .i64 i21), (16, .bool s51), (39, .int .i64 (List.length p1 : Int)), (40, .int .i64 i11), (44, .int .i64 (List.length p1 : Int)), (45, .int .i64 i21)], [(0, .sl 4 .bool s13), (1, .sl 3 (.int .i64) s14), (2, .sl 3 (.int .i64) s23)], 3⟩) (len_ok hl) e56 (wk_of hX [0, 1, 2] 4 rfl rfl ⟨⟨_, rfl, cv0⟩, ⟨_, rfl, cv0⟩, ⟨_, rfl, cv0⟩, ⟨_, rfl, cv0⟩, ⟨_, rfl, cv0⟩, ⟨_, rfl, cv0⟩, ⟨_, rfl, cv0⟩, ⟨_, rfl, cv0⟩, ⟨_, rfl, cv0⟩, ⟨_, rfl, cv0⟩, ⟨_, rfl, cv0⟩, ⟨_, rfl, cv0⟩, ⟨_, rfl, cv0⟩, ⟨_, rfl, cv0⟩, ⟨_, rfl, cv0⟩, ⟨_, rfl, cv0⟩, ⟨_, rfl, cv0⟩, ⟨_, rfl, cv0⟩, trivial⟩ ⟨cvo0, cvo0, cvo0, trivial⟩) ?_ ?_
                  · intro e st hx
                    rcases o55 with s51 | _
                    · obtain ⟨rfl, hw⟩ := hx
                      refine ablock_here (athen_norm ((awc_wk hw) (awc_seq ?_)))
                      refine awc_region ?_
                      refine awl_v (av_move rfl) ?_
                      refine awl_nil (athen_norm ?_)
                      refine awc_cond (b := s51) rfl (fun hc57 => ?_) (fun hc57 => ?_)
                      · have hr := if_t hc57 hr
                        refine awc_region ?_
                        refine awl_v (av_move rfl) ?_
                        refine awl_v (av_move rfl) ?_
                        refine awl_v (av_buildSlice (t := (.int .i64)) (qs := [(0, [.int .i64 i21])]) (ys := [i21]) bs22 rfl rfl rfl rfl rfl rfl rfl rfl) ?_
                        obtain ⟨h58, hr⟩ := chk_some hr
                        refine awl_op (aop_append rfl rfl app22 rfl rfl rfl h58 rfl ?_)
                        refine awl_v (av_assign rfl) ?_
                        have hr := Option.some.inj hr
                        subst hr
                        exact awl_nil (ablock_norm ((wk_of hX [0, 1, 3] 4 rfl rfl ⟨⟨_, rfl, cv0⟩, ⟨_, rfl, cv0⟩, ⟨_, rfl, cv0⟩, ⟨_, rfl, cv0⟩, ⟨_, rfl, cv0⟩, ⟨_, rfl, cv0⟩, ⟨_, rfl, cv0⟩, ⟨_, rfl, cv0⟩, ⟨_, rfl, cv0⟩, ⟨_, rfl, cv0⟩, ⟨_, rfl, cv0⟩, ⟨_, rfl, cv0⟩, ⟨_, rfl, cv0⟩, trivial⟩ ⟨cvo0, cvo0, cvo0, trivial⟩)))
                      · have hr := if_f hc57 hr
                        have hr := Option.some.inj hr
                        subst hr
                        exact awc_skip (ablock_norm ((wk_of hX [0, 1, 2] 4 rfl rfl ⟨⟨_, rfl, cv0⟩, ⟨_, rfl, cv0⟩, ⟨_, rfl, cv0⟩, ⟨_, rfl, cv0⟩, ⟨_, rfl, cv0⟩, ⟨_, rfl, cv0⟩, ⟨_, rfl, cv0⟩, ⟨_, rfl, cv0⟩, ⟨_, rfl, cv0⟩, ⟨_, rfl, cv0⟩, ⟨_, rfl, cv0⟩, ⟨_, rfl, cv0⟩, ⟨_, rfl, cv0⟩, trivial⟩ ⟨cvo0, cvo0, cvo0, trivial⟩)))
                    · exact hx.elim
                  · rintro i50 s51 o ho
                    refine awc_seq ?_
                    refine awc_region ?_
                    refine awl_v (av_lss rfl rfl) ?_
                    refine awl_nil (athen_norm (awc_seq ?_))
                    refine awc_cond (b := decide (i50 < (List.length x48 : Int))) rfl (fun hc59 => ?_) (fun hc59 => ?_)
                    · obtain ⟨q, hr, rfl⟩ := rb_t hc59 ho
                      refine awc_skip (athen_norm (awc_seq (awc_block (awc_seq ?_))))
                      refine awc_region ?_
                      refine awl_v (av_move rfl) ?_
                      obtain ⟨x60, e61, hr⟩ := bnd_some hr
                      refine awl_v (av_ia_sl (t := .bool) (e := x60) und40 sz4 rfl rfl e61) ?_
                      refine awl_v (av_load_rp ts4 rfl) ?_
                      refine awl_v (av_assign rfl) ?_
                      refine awl_v (av_assign rfl) ?_
                      refine awl_nil (athen_norm ?_)
                      obtain ⟨h62, hr⟩ := chk_some hr
                      refine awc_text_tail 11 [1, 2, 6, 7, 10, 11, 12, 13, 14, 15, 16, 39, 40, 44, 45, 56, 57, 58, 17, 18] [(true, .bool s51), (true, .bool s51), (s51, .bool x60), (s51, .bool (!x60)), (s51, .bool (!x60)), (s51 && (!(!x60)), .osl 0), (s51 && (!(!x60)), .int .i64 i50), (s51 && (!(!x60)), .ep 0 1 (Int.toNat i50) 0), (s51 && (!(!x60)), .bool ((ix s13 i50).getD default)), (s51, .bool ((!x60) || ((ix s13 i50).getD default))), (true, .bool (s51 && ((!x60) || ((ix s13 i50).getD default))))] [[], [0], [1], [2, 1], [3, 1], [4], [4], [5, 6, 4], [7, 4], [8, 4, 1], [9, 1]] [10] rfl rfl rfl rfl rfl rfl ⟨?_, ?_, ?_, ?_, ?_, ?_, ?_, ?_, ?_, ?_, ?_, trivial⟩ (allT_of ⟨rfl, trivial⟩) ?_
                      · exact ob_v rfl (fun hg => allT_of trivial) (fun hg => av_move rfl)
                      · exact ob_v rfl (fun hg => allT_of ⟨rfl, trivial⟩) (fun hg => av_move rfl)
                      · exact ob_v ⟨rfl, rfl, rfl, _, rfl, rfl⟩ (fun hg => allT_of ⟨rfl, trivial⟩) (fun hg => av_move rfl)
                      · exact ob_v ⟨rfl, rfl, rfl, _, rfl, rfl⟩ (fun hg => allT_of ⟨hg, rfl, trivial⟩) (fun hg => av_not rfl)
                      · exact ob_v ⟨rfl, rfl, rfl, _, rfl, rfl⟩ (fun hg => allT_of ⟨hg, rfl, trivial⟩) (fun hg => av_move rfl)
                      · exact ob_v ⟨rfl, rfl, rfl, _, rfl, rfl⟩ (fun hg => allT_of ⟨(and_l hg), trivial⟩) (fun hg => av_move rfl)
                      · exact ob_v ⟨rfl, rfl, rfl, _, rfl, rfl⟩ (fun hg => allT_of ⟨(and_l hg), trivial⟩) (fun hg => av_move rfl)
                      · exact ob_v ⟨rfl, rfl, rfl, _, rfl, rfl⟩ (fun hg => allT_of ⟨hg, hg, (and_l hg), trivial⟩) (fun hg => av_ia_osl (t := .bool) und40 sz4 rfl rfl rfl (get_g h62 hg))
                      · exact ob_v ⟨rfl, rfl, rfl, _, rfl, rfl⟩ (fun hg => allT_of ⟨hg, (and_l hg), trivial⟩) (fun hg => av_load_ep ts4 rfl rfl rfl (ix_at (get_g h62 hg)) rfl)
                      · exact ob_pick (b := false) (p := !x60) (q := ((ix s13 i50).getD default)) ⟨rfl, rfl, rfl, _, rfl, rfl⟩ rfl rfl (fun hg => allT_of ⟨hg, rfl, trivial⟩) rfl rfl rfl rfl rfl
                      · exact ob_pick (b := true) (p := s51) (q := (!x60) || ((ix s13 i50).getD default)) rfl rfl rfl (fun hg => allT_of ⟨rfl, trivial⟩) rfl rfl rfl rfl rfl
                      refine awl_v (av_assign rfl) ?_
                      refine awl_nil (ablock_norm (athen_norm ?_))
                      refine awc_region ?_
                      refine awl_v (av_add rfl rfl) ?_
                      refine awl_v (av_move rfl) ?_
                      have hr := Option.some.inj hr
                      subst hr
                      exact awl_nil ((wk_of hX [0, 1, 2] 4 rfl rfl ⟨⟨_, rfl, cv0⟩, ⟨_, rfl, cv0⟩, ⟨_, rfl, cv0⟩, ⟨_, rfl, cv0⟩, ⟨_, rfl, cv0⟩, ⟨_, rfl, cv0⟩, ⟨_, rfl, cv0⟩, ⟨_, rfl, cv0⟩, ⟨_, rfl, cv0⟩, ⟨_, rfl, cv0⟩, ⟨_, rfl, cv0⟩, ⟨_, rfl, cv0⟩, ⟨_, rfl, cv0⟩, ⟨_, rfl, cv0⟩, ⟨_, rfl, cv0⟩, ⟨_, rfl, cv0⟩, ⟨_, rfl, cv0⟩, ⟨_, rfl, cv0⟩, trivial⟩ ⟨cvo0, cvo0, cvo0, trivial⟩))
                    · obtain rfl := rb_f hc59 ho
                      exact awc_exit (athen_exit (⟨rfl, (wk_of hX [0, 1, 2] 4 rfl rfl ⟨⟨_, rfl, cv0⟩, ⟨_, rfl, cv0⟩, ⟨_, rfl, cv0⟩, ⟨_, rfl, cv0⟩, ⟨_, rfl, cv0⟩, ⟨_, rfl, cv0⟩, ⟨_, rfl, cv0⟩, ⟨_, rfl, cv0⟩, ⟨_, rfl, cv0⟩, ⟨_, rfl, cv0⟩, ⟨_, rfl, cv0⟩, ⟨_, rfl, cv0⟩, ⟨_, rfl, cv0⟩, ⟨_, rfl, cv0⟩, ⟨_, rfl, cv0⟩, trivial⟩ ⟨cvo0, cvo0, cvo0, trivial⟩)⟩))
                · rintro s43 rfl
                  refine awc_region ?_
                  refine awl_v (av_add rfl rfl) ?_
                  refine awl_v (av_move rfl) ?_
                  have hr := Option.some.inj hr
                  subst hr
                  exact awl_nil ((wk_of hX [0, 1, 2] 4 rfl rfl ⟨⟨_, rfl, cv0⟩, ⟨_, rfl, cv0⟩, ⟨_, rfl, cv0⟩, ⟨_, rfl, cv0⟩, ⟨_, rfl, cv0⟩, ⟨_, rfl, cv0⟩, ⟨_, rfl, cv0⟩, ⟨_, rfl, cv0⟩, ⟨_, rfl, cv0⟩, ⟨_, rfl, cv0⟩, ⟨_, rfl, cv0⟩, ⟨_, rfl, cv0⟩, ⟨_, rfl, cv0⟩, trivial⟩ ⟨cvo0, cvo0, cvo0, trivial⟩))
                · exact fun r h e st hne hx => hx.elim
              · obtain rfl := rb_f hc42 ho
                exact awc_exit (athen_exit (⟨rfl, (wk_of hX [0, 1, 2] 4 rfl rfl ⟨⟨_, rfl, cv0⟩, ⟨_, rfl, cv0⟩, ⟨_, rfl, cv0⟩, ⟨_, rfl, cv0⟩, ⟨_, rfl, cv0⟩, ⟨_, rfl, cv0⟩, ⟨_, rfl, cv0⟩, ⟨_, rfl, cv0⟩, ⟨_, rfl, cv0⟩, ⟨_, rfl, cv0⟩, ⟨_, rfl, cv0⟩, trivial⟩ ⟨cvo0, cvo0, cvo0, trivial⟩)⟩))
          · obtain rfl := rb_f hc20 ho
            exact awc_exit (athen_exit (⟨rfl, (wk_of hX [1] 4 rfl rfl ⟨⟨_, rfl, cv0⟩, ⟨_, rfl, cv0⟩, ⟨_, rfl, cv0⟩, trivial⟩ ⟨cvo0, trivial⟩)⟩))
      · obtain ⟨rfl, hw⟩ := hx
        have hr := Option.some.inj hr
        subst hr
        exact ablock_ret (athen_ret (ret_q (l' := [(6, .sl (.int .i64) ([] : List Int)), (7, .int .i64 7)]) (Wk.trans hw (wk_of hX [] 4 rfl rfl ⟨⟨_, rfl, cv2⟩, ⟨_, rfl, cv0⟩, trivial⟩ trivial)) rfl ⟨rfl, rfl, trivial⟩))
    · rintro i4 _ o ho
      refine awc_seq ?_
      refine awc_region ?_
      refine awl_v (av_lss rfl rfl) ?_
      refine awl_nil (athen_norm (awc_seq ?_))
      refine awc_cond (b := decide (i4 < (List.length p2 : Int))) rfl (fun hc63 => ?_) (fun hc63 => ?_)
      · obtain ⟨q, hr, rfl⟩ := rb_t hc63 ho
        refine awc_skip (athen_norm (awc_seq (awc_block (awc_seq ?_))))
        refine awc_region ?_
        obtain ⟨x64, e65, hr⟩ := bnd_some hr
        refine awl_v (av_ia_sl (t := (.int .i64)) (e := x64) und22 sz3 rfl rfl e65) ?_
        refine awl_v (av_load_rp ts3 rfl) ?_
        refine awl_v (av_assign rfl) ?_
        refine awl_nil (athen_norm (awc_seq ?_))
        refine awc_region ?_
        refine awl_v (av_move rfl) ?_
        refine awl_v (av_lss rfl rfl) ?_
        refine awl_nil (athen_norm ?_)
        refine awc_cond (b := decide (x64 < 0)) rfl (fun hc66 => ?_) (fun hc66 => ?_)
        · have hr := if_t hc66 hr
          refine awc_seq ?_
          refine awc_region ?_
          refine awl_v (av_assign rfl) ?_
          refine awl_v (av_assign rfl) ?_
          have hr := Option.some.inj hr
          subst hr
          exact awl_nil (athen_norm (awc_ret (ablock_ret (athen_ret (⟨rfl, (wk_of hX [] 4 rfl rfl ⟨⟨_, rfl, cv0⟩, ⟨_, rfl, cv0⟩, trivial⟩ trivial)⟩)))))
        · have hr := if_f hc66 hr
          refine awc_skip (ablock_norm (athen_norm ?_))
          refine awc_region ?_
          refine awl_v (av_add rfl rfl) ?_
          refine awl_v (av_move rfl) ?_
          have hr := Option.some.inj hr
          subst hr
          exact awl_nil ((wk_of hX [] 4 rfl rfl ⟨⟨_, rfl, cv0⟩, ⟨_, rfl, cv0⟩, ⟨_, rfl, cv0⟩, ⟨_, rfl, cv0⟩, ⟨_, rfl, cv0⟩, ⟨_, rfl, cv0⟩, ⟨_, rfl, cv0⟩, trivial⟩ trivial))
      · obtain rfl := rb_f hc63 ho
        exact awc_exit (athen_exit (⟨rfl, (wk_of hX [] 4 rfl rfl ⟨⟨_, rfl, cv0⟩, ⟨_, rfl, cv0⟩, ⟨_, rfl, cv0⟩, ⟨_, rfl, cv0⟩, trivial⟩ trivial)⟩))
theorem f90_runs {p0 : Int × Int × Int} {p1 : Int × Int × Int × Int × Str} {r : Bool} (hr : f90 p0 p1 = some r) : RunsP Try.prog 90 [.agg [.int .i64 p0.1, .int .i64 p0.2.1, .int .i64 p0.2.2], .rp [.int .i64 p1.1, .int .i64 p1.2.1, .int .i64 p1.2.2.1, .int .i64 p1.2.2.2.1, .str p1.2.2.2.2]] [.bool r] := by
  refine runs_w Try.func90 Try.ntmps90 rfl (rs := [.tmp 3]) rfl rfl fun w0 X hX => ?_
  refine awc_seq ?_
  refine awc_region ?_
  refine awl_op (aop_box rfl rfl ?_)
  refine awl_v (av_assign rfl) ?_
  refine awl_nil (athen_norm (awc_seq ?_))
  refine awc_region ?_
  refine awl_v (av_fa_ptr fa93_0 rfl rfl) ?_
  refine awl_v (av_load_ptr ts3 rfl rfl rfl) ?_
  refine awl_v (av_fa_rp fa50_3 rfl rfl) ?_
  refine awl_v (av_load_rp ts3 rfl) ?_
  refine awl_v (av_eql rfl rfl) ?_
  refine awl_v (av_assign rfl) ?_
  have hr := Option.some.inj hr
  subst hr
  exact awl_nil (athen_norm (awc_ret (ret_q (l' := [(3, .bool (decide (p0.1 = p1.2.2.2.1)))]) (wk_of hX [] 4 rfl rfl ⟨⟨_, rfl, cv0⟩, trivial⟩ trivial) rfl ⟨rfl, trivial⟩)))
theorem f89_runs {p0 : List (Int × Int × Int)} {q1 : (Int × Int × Int) → Option Bool} {r : Int} {g1 : FuncId} {c1s : List AV} (h_q1 : ∀ (y1 : Int × Int × Int) (r : Bool), q1 y1 = some r → RunsP Try.prog g1 ([.agg [.int .i64 y1.1, .int .i64 y1.2.1, .int .i64 y1.2.2]] ++ c1s) [.bool r]) (k_q1 : FnIn Try.prog g1 c1s) (hr : f89 p0 q1 = some r) : RunsP Try.prog 89 [.sl Y2 p0, .clo (.fn g1 [] c1s)] [.int .i64 r] := by
  refine runs_w Try.func89 Try.ntmps89 rfl (rs := [.tmp 4]) rfl rfl fun w0 X hX => ?_
  refine awc_seq ?_
  refine awc_region ?_
  refine awl_v (av_assign rfl) ?_
  refine awl_nil (athen_norm (awc_seq (awc_seq ?_)))
  refine awc_region ?_
  refine awl_v (av_move rfl) ?_
  refine awl_v (av_len_sl (t := Y2) rfl rfl und90 rfl) ?_
  refine awl_v (av_move rfl) ?_
  refine awl_nil (athen_norm (awc_block ?_))
  obtain ⟨o4, e5, hr⟩ := bnd_some hr
  refine awc_len (t := 0) rfl (fun hl => ?_)
  refine awc_range (S := Unit) (R := Int) (List.length p0 : Int) (f89_b0 p0 q1) (fun p => match p with | (i1, ()) => (⟨[(0, .sl Y2 p0), (1, .clo (.fn g1 [] c1s)), (4, .int .i64 0), (7, .int .i64 (List.length p0 : Int)), (8, .int .i64 i1)], [], 0⟩ : AS)) (fun o e st => match o with | .inl () => e = .exit 0 ∧ Wk X st ⟨[(4, .int .i64 0)], [], 0⟩ | .inr s3 => e = .ret ∧ Wk X st ⟨[(4, .int .i64 s3)], [], 0⟩) (len_ok hl) e5 (wk_of hX [] 4 rfl rfl ⟨⟨_, rfl, cv0⟩, ⟨_, rfl, cv0⟩, ⟨_, rfl, cv0⟩, ⟨_, rfl, cv0⟩, ⟨_, rfl, cv0⟩, trivial⟩ trivial) ?_ ?_
  · intro e st hx
    rcases o4 with _ | s3
    · obtain ⟨rfl, hw⟩ := hx
      refine ablock_here (athen_norm ((awc_wk hw) (awc_seq ?_)))
      refine awc_region ?_
      refine awl_v (av_assign rfl) ?_
      have hr := Option.some.inj hr
      subst hr
      exact awl_nil (athen_norm (awc_ret (ret_q (l' := [(4, .int .i64 (-1))]) (wk_of hX [] 4 rfl rfl ⟨⟨_, rfl, cv0⟩, trivial⟩ trivial) rfl ⟨rfl, trivial⟩)))
    · obtain ⟨rfl, hw⟩ := hx
      have hr := Option.some.inj hr
      subst hr
      exact ablock_ret (athen_ret (ret_q (l' := [(4, .int .i64 s3)]) (Wk.trans hw (wk_of hX [] 4 rfl rfl ⟨⟨_, rfl, cv0⟩, trivial⟩ trivial)) rfl ⟨rfl, trivial⟩))
  · rintro i1 _ o ho
    refine awc_seq ?_
    refine awc_region ?_
    refine awl_v (av_lss rfl rfl) ?_
    refine awl_nil (athen_norm (awc_seq ?_))
    refine awc_cond (b := decide (i1 < (List.length p0 : Int))) rfl (fun hc6 => ?_) (fun hc6 => ?_)
    · obtain ⟨q, hr, rfl⟩ := rb_t hc6 ho
      refine awc_skip (athen_norm (awc_seq (awc_block (awc_seq ?_))))
      refine awc_region ?_
      refine awl_v (av_move rfl) ?_
      refine awl_v (av_assign rfl) ?_
      refine awl_nil (athen_norm (awc_seq ?_))
      refine awc_region ?_
      refine awl_v (av_move rfl) ?_
      refine awl_v (av_move rfl) ?_
      refine awl_v (av_move rfl) ?_
      obtain ⟨x7, e8, hr⟩ := bnd_some hr
      refine awl_v (av_ia_sl (t := Y2) (e := x7) und90 sz93 rfl rfl e8) ?_
      refine awl_v (av_load_rpN ts93 rfl rfl rfl) ?_
      obtain ⟨x9, e10, hr⟩ := bnd_some hr
      refine awl_v (av_callq rfl (h_q1 x7 x9 e10) k_q1 rfl rfl rfl) ?_
      refine awl_nil (athen_norm ?_)
      refine awc_cond (b := x9) rfl (fun hc11 => ?_) (fun hc11 => ?_)
      · have hr := if_t hc11 hr
        refine awc_seq ?_
        refine awc_region ?_
        refine awl_v (av_move rfl) ?_
        refine awl_v (av_assign rfl) ?_
        have hr := Option.some.inj hr
        subst hr
        exact awl_nil (athen_norm (awc_ret (ablock_ret (athen_ret (⟨rfl, (wk_of hX [] 4 rfl rfl ⟨⟨_, rfl, cv0⟩, trivial⟩ trivial)⟩)))))
      · have hr := if_f hc11 hr
        refine awc_skip (ablock_norm (athen_norm ?_))
        refine awc_region ?_
        refine awl_v (av_add rfl rfl) ?_
        refine awl_v (av_move rfl) ?_
        have hr := Option.some.inj hr
        subst hr
        exact awl_nil ((wk_of hX [] 4 rfl rfl ⟨⟨_, rfl, cv0⟩, ⟨_, rfl, cv0⟩, ⟨_, rfl, cv0⟩, ⟨_, rfl, cv0⟩, ⟨_, rfl, cv0⟩, trivial⟩ trivial))
    · obtain rfl := rb_f hc6 ho
      exact awc_exit (athen_exit (⟨rfl, (wk_of hX [] 4 rfl rfl ⟨⟨_, rfl, cv0⟩, trivial⟩ trivial)⟩))
theorem f92_runs {p0 : Int × Int × Int} {p1 : Int × Int × Int} {r : Int} (hr : f92 p0 p1 = some r) : RunsP Try.prog 92 [.agg [.int .i64 p0.1, .int .i64 p0.2.1, .int .i64 p0.2.2], .agg [.int .i64 p1.1, .int .i64 p1.2.1, .int .i64 p1.2.2]] [.int .i64 r] := by
  refine runs_w Try.func92 Try.ntmps92 rfl (rs := [.tmp 4]) rfl rfl fun w0 X hX => ?_
  refine awc_seq ?_
  refine awc_region ?_
  refine awl_op (aop_box rfl rfl ?_)
  refine awl_op (aop_box rfl rfl ?_)
  refine awl_v (av_assign rfl) ?_
  refine awl_nil (athen_norm (awc_seq ?_))
  refine awc_region ?_
  refine awl_v (av_fa_ptr fa93_0 rfl rfl) ?_
  refine awl_v (av_load_ptr ts3 rfl rfl rfl) ?_
  refine awl_v (av_fa_ptr fa93_0 rfl rfl) ?_
  refine awl_v (av_load_ptr ts3 rfl rfl rfl) ?_
  refine awl_v (av_sub rfl rfl) ?_
  refine awl_v (av_assign rfl) ?_
  have hr := Option.some.inj hr
  subst hr
  exact awl_nil (athen_norm (awc_ret (ret_q (l' := [(4, .int .i64 (w64 (p0.1 - p1.1)))]) (wk_of hX [] 4 rfl rfl ⟨⟨_, rfl, cv0⟩, trivial⟩ trivial) rfl ⟨rfl, trivial⟩)))
theorem f78_runs {p0 : List (Int × Int × Int × Int × Str)} {r : (List (Int × Int × Int))} (hr : f78 p0 = some r) : RunsP Try.prog 78 [.sl Y1 p0] [.sl Y2 r] := by
  refine runs_w Try.func78 Try.ntmps78 rfl (rs := [.tmp 2]) rfl rfl fun w0 X hX => ?_
  refine awc_seq ?_
  refine awc_region ?_
  refine awl_v (av_assign rfl) ?_
  refine awl_nil (athen_norm (awc_seq ?_))
  refine awc_region ?_
  refine awl_v (av_assign rfl) ?_
  refine awl_nil (athen_norm (awc_seq (awc_seq ?_)))
  refine awc_region ?_
  refine awl_v (av_move rfl) ?_
  refine awl_v (av_len_sl (t := Y1) rfl rfl und30 rfl) ?_
  refine awl_v (av_move rfl) ?_
  refine awl_nil (athen_norm (awc_block ?_))
  obtain ⟨o6, e7, hr⟩ := bnd_some hr
  refine awc_len (t := 0) rfl (fun hl => ?_)
  refine awc_range (S := (List (Int × Int × Int))) (R := Unit) (List.length p0 : Int) (f78_b0 p0) (fun p => match p with | (i1, s3) => (⟨[(2, .nils), (3, .osl 0), (7, .sl Y1 p0), (8, .int .i64 (List.length p0 : Int)), (9, .int .i64 i1)], [(0, .sl 93 Y2 s3)], 1⟩ : AS)) (fun o e st => match o with | .inr _ => False | .inl s3 => e = .exit 0 ∧ Wk X st ⟨[(2, .nils), (3, .osl 0)], [(0, .sl 93 Y2 s3)], 1⟩) (len_ok hl) e7 (Wk.trans (wk_own (t := 3) 93 Y2 rfl) (wk_of hX [0] 4 rfl rfl ⟨⟨_, rfl, cv0⟩, ⟨_, rfl, cv0⟩, ⟨_, rfl, cv0⟩, ⟨_, rfl, cv0⟩, ⟨_, rfl, cv0⟩, trivial⟩ ⟨cvo0, trivial⟩)) ?_ ?_
  · intro e st hx
    rcases o6 with s3 | _
    · obtain ⟨rfl, hw⟩ := hx
      refine ablock_here (athen_norm ((awc_wk hw) (awc_seq ?_)))
      refine awc_region ?_
      refine awl_v (av_move rfl) ?_
      obtain ⟨x8, e9, hr⟩ := bnd_some hr
      refine awl_op (aop_callO (σ := [0]) (as' := [.osl 0, .fn 92 [] []]) (f91_runs e9) ent91 rfl ⟨cv0, cv0, trivial⟩ rfl rfl rfl ?_)
      refine awl_nil (athen_norm (awc_seq ?_))
      refine awc_region ?_
      refine awl_v (av_move rfl) ?_
      refine awl_v (av_assign rfl) ?_
      have hr := Option.some.inj hr
      subst hr
      exact awl_nil (athen_norm (awc_ret (ret_q (l' := [(2, .sl Y2 x8)]) (wk_of hX [] 4 rfl rfl ⟨⟨_, rfl, cv0⟩, trivial⟩ trivial) rfl ⟨rfl, trivial⟩)))
    · exact hx.elim
  · rintro i1 s3 o ho
    refine awc_seq ?_
    refine awc_region ?_
    refine awl_v (av_lss rfl rfl) ?_
    refine awl_nil (athen_norm (awc_seq ?_))
    refine awc_cond (b := decide (i1 < (List.length p0 : Int))) rfl (fun hc10 => ?_) (fun hc10 => ?_)
    · obtain ⟨q, hr, rfl⟩ := rb_t hc10 ho
      refine awc_skip (athen_norm ?_)
      obtain ⟨o12, e13, hr⟩ := bnd_some hr
      refine awc_join (S := (List (Int × Int × Int))) (R := Unit) (fun s => match s with | s11 => (⟨[(2, .nils), (3, .osl 0), (7, .sl Y1 p0), (8, .int .i64 (List.length p0 : Int)), (9, .int .i64 i1)], [(0, .sl 93 Y2 s11)], 1⟩ : AS)) (fun _ _ _ => False) e13 (fun hr => ?_) ?_ ?_
      · refine awc_block (awc_seq ?_)
        refine awc_region ?_
        refine awl_v (av_move rfl) ?_
        obtain ⟨x14, e15, hr⟩ := bnd_some hr
        refine awl_v (av_ia_sl (t := Y1) (e := x14) und30 sz50 rfl rfl e15) ?_
        refine awl_v (av_load_rpN ts50 rfl rfl rfl) ?_
        refine awl_op (aop_alloc zero50 rfl ?_)
        refine awl_v (av_assign rfl) ?_
        refine awl_op (aop_store sz50 rfl rfl rfl rfl rfl rfl rfl ?_)
        refine awl_nil (athen_norm (awc_seq ?_))
        refine awc_region ?_
        refine awl_v (av_fa_ptr fa50_1 rfl rfl) ?_
        refine awl_v (av_load_ptr ts3 rfl rfl rfl) ?_
        refine awl_nil (athen_norm (awc_block (awc_seq ?_)))
        refine awc_region ?_
        refine awl_v (av_eql rfl rfl) ?_
        refine awl_v (av_assign rfl) ?_
        refine awl_nil (athen_norm ?_)
        refine awc_cond (b := decide (x14.2.1 = 4)) rfl (fun hc16 => ?_) (fun hc16 => ?_)
        · have hr := if_t hc16 hr
          refine awc_region ?_
          refine awl_v (av_move rfl) ?_
          refine awl_v (av_fa_ptr fa50_3 rfl rfl) ?_
          refine awl_v (av_load_ptr ts3 rfl rfl rfl) ?_
          refine awl_v (av_move rfl) ?_
          refine awl_v (av_build (qs := [(0, [.int .i64 x14.2.2.2.1]), (1, [.int .i64 i1]), (2, [.int .i64 (-1)])]) (cs := [.int .i64 x14.2.2.2.1, .int .i64 i1, .int .i64 (-1)]) bt93 rfl rfl rfl) ?_
          refine awl_v (av_buildSlice (t := Y2) (qs := [(0, [.int .i64 x14.2.2.2.1, .int .i64 i1, .int .i64 (-1)])]) (ys := [(x14.2.2.2.1, i1, (-1))]) bs90 rfl rfl rfl rfl rfl rfl rfl rfl) ?_
          obtain ⟨h17, hr⟩ := chk_some hr
          refine awl_op (aop_append rfl rfl app90 rfl rfl rfl h17 rfl ?_)
          refine awl_v (av_assign rfl) ?_
          have hr := Option.some.inj hr
          subst hr
          exact awl_nil (ablock_norm (ablock_norm ((wk_of hX [2] 4 rfl rfl ⟨⟨_, rfl, cv0⟩, ⟨_, rfl, cv0⟩, ⟨_, rfl, cv0⟩, ⟨_, rfl, cv0⟩, ⟨_, rfl, cv0⟩, trivial⟩ ⟨cvo0, trivial⟩))))
        · have hr := if_f hc16 hr
          refine awc_seq ?_
          refine awc_region ?_
          refine awl_v (av_eql rfl rfl) ?_
          refine awl_v (av_assign rfl) ?_
          refine awl_nil (athen_norm ?_)
          refine awc_cond (b := decide (x14.2.1 = 5)) rfl (fun hc18 => ?_) (fun hc18 => ?_)
          · have hr := if_t hc18 hr
            refine awc_seq ?_
            refine awc_region ?_
            refine awl_v (av_move rfl) ?_
            refine awl_v (av_makeFunc (us := []) (vs := [.ptr 1 0]) rfl rfl) ?_
            obtain ⟨x19, e20, hr⟩ := bnd_some hr
            refine awl_v (av_callB (as' := [.osl 0, .fn 90 [] [.ptr 1 0]]) (f89_runs (g1 := 90) (c1s := [.rp [.int .i64 x14.1, .int .i64 x14.2.1, .int .i64 x14.2.2.1, .int .i64 x14.2.2.2.1, .str x14.2.2.2.2]]) (fun _ r h => f90_runs h) ⟨ent90⟩ e20) ent89 rfl ⟨cv0, (cv3 rfl), trivial⟩ rfl rfl) ?_
            refine awl_v (av_assign rfl) ?_
            refine awl_nil (athen_norm ?_)
            refine awc_region ?_
            refine awl_v (av_move rfl) ?_
            refine awl_v (av_move rfl) ?_
            refine awl_v (av_move rfl) ?_
            obtain ⟨x21, e22, hr⟩ := bnd_some hr
            refine awl_v (av_ia_osl (t := Y2) und90 sz93 rfl rfl rfl e22) ?_
            refine awl_v (av_fa_ep fa93_2 rfl rfl) ?_
            refine awl_op (aop_store_ep (e' := (x21.1, x21.2.1, i1)) sz3 rfl rfl rfl rfl (ix_at e22) rfl rfl rfl rfl rfl ?_)
            have hr := Option.some.inj hr
            subst hr
            exact awl_nil (ablock_norm (ablock_norm ((wk_of hX [0] 4 rfl rfl ⟨⟨_, rfl, cv0⟩, ⟨_, rfl, cv0⟩, ⟨_, rfl, cv0⟩, ⟨_, rfl, cv0⟩, ⟨_, rfl, cv0⟩, trivial⟩ ⟨cvo0, trivial⟩))))
          · have hr := if_f hc18 hr
            have hr := Option.some.inj hr
            subst hr
            exact awc_skip (ablock_norm (ablock_norm ((wk_of hX [0] 4 rfl rfl ⟨⟨_, rfl, cv0⟩, ⟨_, rfl, cv0⟩, ⟨_, rfl, cv0⟩, ⟨_, rfl, cv0⟩, ⟨_, rfl, cv0⟩, trivial⟩ ⟨cvo0, trivial⟩))))
      · rintro s11 rfl
        refine awc_region ?_
        refine awl_v (av_add rfl rfl) ?_
        refine awl_v (av_move rfl) ?_
        have hr := Option.some.inj hr
        subst hr
        exact awl_nil ((wk_of hX [0] 4 rfl rfl ⟨⟨_, rfl, cv0⟩, ⟨_, rfl, cv0⟩, ⟨_, rfl, cv0⟩, ⟨_, rfl, cv0⟩, ⟨_, rfl, cv0⟩, trivial⟩ ⟨cvo0, trivial⟩))
      · exact fun r h e st hne hx => hx.elim
    · obtain rfl := rb_f hc10 ho
      exact awc_exit (athen_exit (⟨rfl, (wk_of hX [0] 4 rfl rfl ⟨⟨_, rfl, cv0⟩, ⟨_, rfl, cv0⟩, trivial⟩ ⟨cvo0, trivial⟩)⟩))
theorem f43_runs {p0 : Int} {p1 : List (Int × Int × Int × Int × Str)} {r : (List (Int × Int)) × Int} (hr : f43 p0 p1 = some r) : RunsP Try.prog 43 [.int .i64 p0, .sl Y1 p1] [.sl Y3 r.1, .int .i64 r.2] := by
  refine runs_w Try.func43 Try.ntmps43 rfl (rs := [.tmp 4, .tmp 5]) rfl rfl fun w0 X hX => ?_
  refine awc_seq ?_
  refine awc_region ?_
  refine awl_v (av_assign rfl) ?_
  refine awl_v (av_assign rfl) ?_
  refine awl_nil (athen_norm (awc_seq (awc_seq ?_)))
  refine awc_region ?_
  refine awl_v (av_move rfl) ?_
  refine awl_v (av_move rfl) ?_
  obtain ⟨x1, e2, hr⟩ := bnd_some hr
  refine awl_v (av_call (f17_runs e2) ent17 rfl rfl) ?_
  refine awl_v (av_not rfl) ?_
  refine awl_nil (athen_norm ?_)
  refine awc_cond (b := !x1) rfl (fun hc3 => ?_) (fun hc3 => ?_)
  · have hr := if_t hc3 hr
    refine awc_seq ?_
    refine awc_region ?_
    refine awl_v (av_assign rfl) ?_
    refine awl_v (av_assign rfl) ?_
    have hr := Option.some.inj hr
    subst hr
    exact awl_nil (athen_norm (awc_ret (athen_ret (ret_q (l' := [(4, .sl Y3 ([] : List (Int × Int))), (5, .int .i64 1)]) (wk_of hX [] 4 rfl rfl ⟨⟨_, rfl, cv2⟩, ⟨_, rfl, cv0⟩, trivial⟩ trivial) rfl ⟨rfl, rfl, trivial⟩))))
  · have hr := if_f hc3 hr
    refine awc_skip (athen_norm (awc_seq ?_))
    refine awc_region ?_
    refine awl_v (av_move rfl) ?_
    refine awl_v (av_move rfl) ?_
    obtain ⟨x4, e5, hr⟩ := bnd_some hr
    refine awl_v (av_call (f52_runs e5) ent52 rfl rfl) ?_
    refine awl_v (av_move rfl) ?_
    refine awl_v (av_move rfl) ?_
    obtain ⟨x6, e7, hr⟩ := bnd_some hr
    refine awl_v (av_call (f54_runs e7) ent54 rfl rfl) ?_
    refine awl_v (av_assign rfl) ?_
    refine awl_v (av_assign rfl) ?_
    refine awl_nil (athen_norm (awc_seq ?_))
    refine awc_region ?_
    refine awl_v (av_move rfl) ?_
    obtain ⟨x8, e9, hr⟩ := bnd_some hr
    refine awl_v (av_call (f78_runs e9) ent78 rfl rfl) ?_
    refine awl_v (av_assign rfl) ?_
    refine awl_nil (athen_norm (awc_seq ?_))
    refine awc_region ?_
    refine awl_v (av_assign rfl) ?_
    refine awl_nil (athen_norm (awc_seq (awc_seq ?_)))
    refine awc_region ?_
    refine awl_v (av_move rfl) ?_
    refine awl_v (av_len_sl (t := Y2) rfl rfl und90 rfl) ?_
    refine awl_v (av_move rfl) ?_
    refine awl_nil (athen_norm (awc_block ?_))
    obtain ⟨o15, e16, hr⟩ := bnd_some hr
    refine awc_len (t := 28) rfl (fun hl => ?_)
    refine awc_range (S := (List (Int × Int))) (R := Unit) (List.length x8 : Int) (f43_b0 p1 x4 x6 x8) (fun p => match p with | (i10, s12) => (⟨[(1, .sl Y1 p1), (4, .nils), (5, .int .i64 0), (6, .sl (.slice (.int .i64)) x4), (7, .sl (.int .i64) x6), (8, .sl Y2 x8), (9, .osl 0), (29, .sl Y2 x8), (30, .int .i64 (List.length x8 : Int)), (31, .int .i64 i10)], [(0, .sl 54 Y3 s12)], 1⟩ : AS)) (fun o e st => match o with | .inr _ => False | .inl s12 => e = .exit 0 ∧ Wk X st ⟨[(4, .nils), (5, .int .i64 0), (9, .osl 0)], [(0, .sl 54 Y3 s12)], 1⟩) (len_ok hl) e16 (Wk.trans (wk_own (t := 9) 54 Y3 rfl) (wk_of hX [0] 4 rfl rfl ⟨⟨_, rfl, cv0⟩, ⟨_, rfl, cv0⟩, ⟨_, rfl, cv0⟩, ⟨_, rfl, cv0⟩, ⟨_, rfl, cv0⟩, ⟨_, rfl, cv0⟩, ⟨_, rfl, cv0⟩, ⟨_, rfl, cv0⟩, ⟨_, rfl, cv0⟩, ⟨_, rfl, cv0⟩, trivial⟩ ⟨cvo0, trivial⟩)) ?_ ?_
    · intro e st hx
      rcases o15 with s12 | _
      · obtain ⟨rfl, hw⟩ := hx
        refine ablock_here (athen_norm ((awc_wk hw) (awc_seq ?_)))
        refine awc_region ?_
        refine awl_v (av_move rfl) ?_
        refine awl_v (av_assign rfl) ?_
        refine awl_v (av_assign rfl) ?_
        have hr := Option.some.inj hr
        subst hr
        exact awl_nil (athen_norm (awc_ret (ret_q (l' := [(4, .sl Y3 s12), (5, .int .i64 0)]) (wk_of hX [] 4 rfl rfl ⟨⟨_, rfl, cv0⟩, ⟨_, rfl, cv0⟩, trivial⟩ trivial) rfl ⟨rfl, rfl, trivial⟩)))
      · exact hx.elim
    · rintro i10 s12 o ho
      refine awc_seq ?_
      refine awc_region ?_
      refine awl_v (av_lss rfl rfl) ?_
      refine awl_nil (athen_norm (awc_seq ?_))
      refine awc_cond (b := decide (i10 < (List.length x8 : Int))) rfl (fun hc17 => ?_) (fun hc17 => ?_)
      · obtain ⟨q, hr, rfl⟩ := rb_t hc17 ho
        refine awc_skip (athen_norm (awc_seq (awc_block (awc_seq ?_))))
        refine awc_region ?_
        obtain ⟨x18, e19, hr⟩ := bnd_some hr
        refine awl_v (av_ia_sl (t := Y2) (e := x18) und90 sz93 rfl rfl e19) ?_
        refine awl_v (av_load_rpN ts93 rfl rfl rfl) ?_
        refine awl_op (aop_alloc zero93 rfl ?_)
        refine awl_op (aop_store sz93 rfl rfl rfl rfl rfl rfl rfl ?_)
        refine awl_nil (athen_norm (awc_seq ?_))
        refine awc_region ?_
        refine awl_v (av_assign rfl) ?_
        refine awl_v (av_assign rfl) ?_
        refine awl_nil (athen_norm (awc_seq (awc_seq ?_)))
        refine awc_region ?_
        refine awl_v (av_move rfl) ?_
        refine awl_v (av_len_sl (t := Y2) rfl rfl und90 rfl) ?_
        refine awl_v (av_move rfl) ?_
        refine awl_nil (athen_norm (awc_block ?_))
        obtain ⟨o27, e28, hr⟩ := bnd_some hr
        refine awc_len (t := 8) rfl (fun hl => ?_)
        refine awc_range (S := Int × Int) (R := Unit) (List.length x8 : Int) (f43_b1 p1 x4 x6 x8 x18) (fun p => match p with | (i20, s21, s22) => (⟨[(1, .sl Y1 p1), (4, .nils), (5, .int .i64 0), (6, .sl (.slice (.int .i64)) x4), (7, .sl (.int .i64) x6), (8, .sl Y2 x8), (9, .osl 0), (11, .ptr 1 0), (12, .int .i64 s21), (13, .int .i64 s22), (29, .sl Y2 x8), (30, .int .i64 (List.length x8 : Int)), (31, .int .i64 i10), (35, .sl Y2 x8), (36, .int .i64 (List.length x8 : Int)), (37, .int .i64 i20)], [(0, .sl 54 Y3 s12), (1, .var 93 [.int .i64 x18.1, .int .i64 x18.2.1, .int .i64 x18.2.2])], 2⟩ : AS)) (fun o e st => match o with | .inr _ => False | .inl (s21, s22) => e = .exit 2 ∧ Wk X st ⟨[(1, .sl Y1 p1), (4, .nils), (5, .int .i64 0), (6, .sl (.slice (.int .i64)) x4), (7, .sl (.int .i64) x6), (8, .sl Y2 x8), (9, .osl 0), (11, .ptr 1 0), (12, .int .i64 s21), (29, .sl Y2 x8), (30, .int .i64 (List.length x8 : Int)), (31, .int .i64 i10)], [(0, .sl 54 Y3 s12), (1, .var 93 [.int .i64 x18.1, .int .i64 x18.2.1, .int .i64 x18.2.2])], 2⟩) (len_ok hl) e28 (wk_of hX [0, 1] 4 rfl rfl ⟨⟨_, rfl, cv0⟩, ⟨_, rfl, cv0⟩, ⟨_, rfl, cv0⟩, ⟨_, rfl, cv0⟩, ⟨_, rfl, cv0⟩, ⟨_, rfl, cv0⟩, ⟨_, rfl, cv0⟩, ⟨_, rfl, cv0⟩, ⟨_, rfl, cv0⟩, ⟨_, rfl, cv0⟩, ⟨_, rfl, cv0⟩, ⟨_, rfl, cv0⟩, ⟨_, rfl, cv0⟩, ⟨_, rfl, cv0⟩, ⟨_, rfl, cv0⟩, ⟨_, rfl, cv0⟩, trivial⟩ ⟨cvo0, cvo0, trivial⟩) ?_ ?_
        · intro e st hx
          rcases o27 with ⟨s21, s22⟩ | _
          · obtain ⟨rfl, hw⟩ := hx
            refine ablock_here (athen_norm ((awc_wk hw) ?_))
            refine awc_region ?_
            refine awl_v (av_move rfl) ?_
            refine awl_v (av_fa_ptr fa93_0 rfl rfl) ?_
            refine awl_v (av_load_ptr ts3 rfl rfl rfl) ?_
            refine awl_v (av_move rfl) ?_
            refine awl_v (av_build (qs := [(0, [.int .i64 x18.1]), (1, [.int .i64 s21])]) (cs := [.int .i64 x18.1, .int .i64 s21]) bt54 rfl rfl rfl) ?_
            refine awl_v (av_buildSlice (t := Y3) (qs := [(0, [.int .i64 x18.1, .int .i64 s21])]) (ys := [(x18.1, s21)]) bs51 rfl rfl rfl rfl rfl rfl rfl rfl) ?_
            obtain ⟨h29, hr⟩ := chk_some hr
            refine awl_op (aop_append rfl rfl app51 rfl rfl rfl h29 rfl ?_)
            refine awl_v (av_assign rfl) ?_
            refine awl_nil (ablock_norm (athen_norm ?_))
            refine awc_region ?_
            refine awl_v (av_add rfl rfl) ?_
            refine awl_v (av_move rfl) ?_
            have hr := Option.some.inj hr
            subst hr
            exact awl_nil ((wk_of hX [2] 4 rfl rfl ⟨⟨_, rfl, cv0⟩, ⟨_, rfl, cv0⟩, ⟨_, rfl, cv0⟩, ⟨_, rfl, cv0⟩, ⟨_, rfl, cv0⟩, ⟨_, rfl, cv0⟩, ⟨_, rfl, cv0⟩, ⟨_, rfl, cv0⟩, ⟨_, rfl, cv0⟩, ⟨_, rfl, cv0⟩, trivial⟩ ⟨cvo0, trivial⟩))
          · exact hx.elim
        · rintro i20 ⟨s21, s22⟩ o ho
          refine awc_seq ?_
          refine awc_region ?_
          refine awl_v (av_lss rfl rfl) ?_
          refine awl_nil (athen_norm (awc_seq ?_))
          refine awc_cond (b := decide (i20 < (List.length x8 : Int))) rfl (fun hc30 => ?_) (fun hc30 => ?_)
          · obtain ⟨q, hr, rfl⟩ := rb_t hc30 ho
            refine awc_skip (athen_norm ?_)
            obtain ⟨o33, e34, hr⟩ := bnd_some hr
            refine awc_join (S := Int × Int) (R := Unit) (fun s => match s with | (s31, s32) => (⟨[(1, .sl Y1 p1), (4, .nils), (5, .int .i64 0), (6, .sl (.slice (.int .i64)) x4), (7, .sl (.int .i64) x6), (8, .sl Y2 x8), (9, .osl 0), (11, .ptr 1 0), (12, .int .i64 s31), (13, .int .i64 s32), (29, .sl Y2 x8), (30, .int .i64 (List.length x8 : Int)), (31, .int .i64 i10), (35, .sl Y2 x8), (36, .int .i64 (List.length x8 : Int)), (37, .int .i64 i20)], [(0, .sl 54 Y3 s12), (1, .var 93 [.int .i64 x18.1, .int .i64 x18.2.1, .int .i64 x18.2.2])], 2⟩ : AS)) (fun _ _ _ => False) e34 (fun hr => ?_) ?_ ?_
            · refine awc_block (awc_seq ?_)
              refine awc_region ?_
              obtain ⟨x35, e36, hr⟩ := bnd_some hr
              refine awl_v (av_ia_sl (t := Y2) (e := x35) und90 sz93 rfl rfl e36) ?_
              refine awl_v (av_load_rpN ts93 rfl rfl rfl) ?_
              refine awl_op (aop_alloc zero93 rfl ?_)
              refine awl_op (aop_store sz93 rfl rfl rfl rfl rfl rfl rfl ?_)
              refine awl_nil (athen_norm (awc_seq ?_))
              obtain ⟨x37, e38, hr⟩ := bnd_some hr
              obtain ⟨h39, hr⟩ := chk_some hr
              refine awc_text [1, 4, 5, 6, 7, 8, 9, 11, 12, 13, 29, 30, 31, 35, 36, 37, 15] [(true, .sl Y1 p1), (true, .sl (.slice (.int .i64)) x4), (true, .ptr 2 1), (true, .int .i64 x35.2.1), (true, .ptr 1 1), (true, .int .i64 x18.2.1), (true, .bool x37), (true, .bool x37), (x37, .ptr 2 2), (x37, .int .i64 x35.2.2), (x37, .bool (decide (x35.2.2 < 0))), (x37, .bool (decide (x35.2.2 < 0))), (x37 && (!(decide (x35.2.2 < 0))), .sl Y1 p1), (x37 && (!(decide (x35.2.2 < 0))), .sl (.slice (.int .i64)) x4), (x37 && (!(decide (x35.2.2 < 0))), .ptr 2 2), (x37 && (!(decide (x35.2.2 < 0))), .int .i64 x35.2.2), (x37 && (!(decide (x35.2.2 < 0))), .ptr 1 1), (x37 && (!(decide (x35.2.2 < 0))), .int .i64 x18.2.1), (x37 && (!(decide (x35.2.2 < 0))), .bool ((f58 p1 x4 x35.2.2 x18.2.1).getD default)), (x37 && (!(decide (x35.2.2 < 0))), .bool (!((f58 p1 x4 x35.2.2 x18.2.1).getD default))), (x37, .bool ((decide (x35.2.2 < 0)) || (!((f58 p1 x4 x35.2.2 x18.2.1).getD default)))), (true, .bool (x37 && ((decide (x35.2.2 < 0)) || (!((f58 p1 x4 x35.2.2 x18.2.1).getD default))))), (true, .bool (x37 && ((decide (x35.2.2 < 0)) || (!((f58 p1 x4 x35.2.2 x18.2.1).getD default)))))] [[], [], [], [2], [], [4], [0, 1, 3, 5], [6], [7], [8, 7], [9, 7], [10, 7], [11], [11], [11], [14, 11], [11], [16, 11], [12, 13, 15, 17, 11], [18, 11], [19, 11, 7], [20, 7], [21]] [22] rfl rfl rfl rfl rfl ⟨?_, ?_, ?_, ?_, ?_, ?_, ?_, ?_, ?_, ?_, ?_, ?_, ?_, ?_, ?_, ?_, ?_, ?_, ?_, ?_, ?_, ?_, ?_, trivial⟩ (allT_of ⟨rfl, trivial⟩) ?_
              · exact ob_v rfl (fun hg => allT_of trivial) (fun hg => av_move rfl)
              · exact ob_v rfl (fun hg => allT_of trivial) (fun hg => av_move rfl)
              · exact ob_v rfl (fun hg => allT_of trivial) (fun hg => av_fa_ptr fa93_1 rfl rfl)
              · exact ob_v rfl (fun hg => allT_of ⟨rfl, trivial⟩) (fun hg => av_load_ptr ts3 rfl rfl rfl)
              · exact ob_v rfl (fun hg => allT_of trivial) (fun hg => av_fa_ptr fa93_1 rfl rfl)
              · exact ob_v rfl (fun hg => allT_of ⟨rfl, trivial⟩) (fun hg => av_load_ptr ts3 rfl rfl rfl)
              · exact ob_v rfl (fun hg => allT_of ⟨rfl, rfl, rfl, rfl, trivial⟩) (fun hg => av_call (f58_runs e38) ent58 rfl rfl)
              · exact ob_v rfl (fun hg => allT_of ⟨rfl, trivial⟩) (fun hg => av_move rfl)
              · exact ob_v ⟨rfl, rfl, rfl, _, rfl, rfl⟩ (fun hg => allT_of ⟨rfl, trivial⟩) (fun hg => av_fa_ptr fa93_2 rfl rfl)
              · exact ob_v ⟨rfl, rfl, rfl, _, rfl, rfl⟩ (fun hg => allT_of ⟨hg, rfl, trivial⟩) (fun hg => av_load_ptr ts3 rfl rfl rfl)
              · exact ob_v ⟨rfl, rfl, rfl, _, rfl, rfl⟩ (fun hg => allT_of ⟨hg, rfl, trivial⟩) (fun hg => av_lss rfl rfl)
              · exact ob_v ⟨rfl, rfl, rfl, _, rfl, rfl⟩ (fun hg => allT_of ⟨hg, rfl, trivial⟩) (fun hg => av_move rfl)
              · exact ob_v ⟨rfl, rfl, rfl, _, rfl, rfl⟩ (fun hg => allT_of ⟨(and_l hg), trivial⟩) (fun hg => av_move rfl)
              · exact ob_v ⟨rfl, rfl, rfl, _, rfl, rfl⟩ (fun hg => allT_of ⟨(and_l hg), trivial⟩) (fun hg => av_move rfl)
              · exact ob_v ⟨rfl, rfl, rfl, _, rfl, rfl⟩ (fun hg => allT_of ⟨(and_l hg), trivial⟩) (fun hg => av_fa_ptr fa93_2 rfl rfl)
              · exact ob_v ⟨rfl, rfl, rfl, _, rfl, rfl⟩ (fun hg => allT_of ⟨hg, (and_l hg), trivial⟩) (fun hg => av_load_ptr ts3 rfl rfl rfl)
              · exact ob_v ⟨rfl, rfl, rfl, _, rfl, rfl⟩ (fun hg => allT_of ⟨(and_l hg), trivial⟩) (fun hg => av_fa_ptr fa93_1 rfl rfl)
              · exact ob_v ⟨rfl, rfl, rfl, _, rfl, rfl⟩ (fun hg => allT_of ⟨hg, (and_l hg), trivial⟩) (fun hg => av_load_ptr ts3 rfl rfl rfl)
              · exact ob_v ⟨rfl, rfl, rfl, _, rfl, rfl⟩ (fun hg => allT_of ⟨hg, hg, hg, hg, (and_l hg), trivial⟩) (fun hg => av_call (f58_runs (get_g h39 hg)) ent58 rfl rfl)
              · exact ob_v ⟨rfl, rfl, rfl, _, rfl, rfl⟩ (fun hg => allT_of ⟨hg, (and_l hg), trivial⟩) (fun hg => av_not rfl)
              · exact ob_pick (b := false) (p := decide (x35.2.2 < 0)) (q := !((f58 p1 x4 x35.2.2 x18.2.1).getD default)) ⟨rfl, rfl, rfl, _, rfl, rfl⟩ rfl rfl (fun hg => allT_of ⟨hg, rfl, trivial⟩) rfl rfl rfl rfl rfl
              · exact ob_pick (b := true) (p := x37) (q := (decide (x35.2.2 < 0)) || (!((f58 p1 x4 x35.2.2 x18.2.1).getD default))) rfl rfl rfl (fun hg => allT_of ⟨rfl, trivial⟩) rfl rfl rfl rfl rfl
              · exact ob_v rfl (fun hg => allT_of ⟨rfl, trivial⟩) (fun hg => av_assign rfl)
              refine athen_norm (awc_seq ?_)
              obtain ⟨h40, hr⟩ := chk_some hr
              refine awc_text [1, 4, 5, 6, 7, 8, 9, 11, 12, 13, 29, 30, 31, 35, 36, 37, 15, 16] [(true, .bool (x37 && ((decide (x35.2.2 < 0)) || (!((f58 p1 x4 x35.2.2 x18.2.1).getD default))))), (true, .bool (x37 && ((decide (x35.2.2 < 0)) || (!((f58 p1 x4 x35.2.2 x18.2.1).getD default))))), (x37 && ((decide (x35.2.2 < 0)) || (!((f58 p1 x4 x35.2.2 x18.2.1).getD default))), .sl (.int .i64) x6), (x37 && ((decide (x35.2.2 < 0)) || (!((f58 p1 x4 x35.2.2 x18.2.1).getD default))), .ptr 2 1), (x37 && ((decide (x35.2.2 < 0)) || (!((f58 p1 x4 x35.2.2 x18.2.1).getD default))), .int .i64 x35.2.1), (x37 && ((decide (x35.2.2 < 0)) || (!((f58 p1 x4 x35.2.2 x18.2.1).getD default))), .rp [.int .i64 ((ix x6 x35.2.1).getD default)]), (x37 && ((decide (x35.2.2 < 0)) || (!((f58 p1 x4 x35.2.2 x18.2.1).getD default))), .int .i64 ((ix x6 x35.2.1).getD default)), (x37 && ((decide (x35.2.2 < 0)) || (!((f58 p1 x4 x35.2.2 x18.2.1).getD default))), .int .i64 s22), (x37 && ((decide (x35.2.2 < 0)) || (!((f58 p1 x4 x35.2.2 x18.2.1).getD default))), .bool (decide (s22 ≤ ((ix x6 x35.2.1).getD default)))), (true, .bool ((x37 && ((decide (x35.2.2 < 0)) || (!((f58 p1 x4 x35.2.2 x18.2.1).getD default)))) && (decide (s22 ≤ ((ix x6 x35.2.1).getD default)))))] [[], [0], [1], [1], [3, 1], [2, 4, 1], [5, 1], [1], [6, 7, 1], [8, 1]] [9] rfl rfl rfl rfl rfl ⟨?_, ?_, ?_, ?_, ?_, ?_, ?_, ?_, ?_, ?_, trivial⟩ (allT_of ⟨rfl, trivial⟩) ?_
              · exact ob_v rfl (fun hg => allT_of trivial) (fun hg => av_move rfl)
              · exact ob_v rfl (fun hg => allT_of ⟨rfl, trivial⟩) (fun hg => av_move rfl)
              · exact ob_v ⟨rfl, rfl, rfl, _, rfl, rfl⟩ (fun hg => allT_of ⟨rfl, trivial⟩) (fun hg => av_move rfl)
              · exact ob_v ⟨rfl, rfl, rfl, _, rfl, rfl⟩ (fun hg => allT_of ⟨rfl, trivial⟩) (fun hg => av_fa_ptr fa93_1 rfl rfl)
              · exact ob_v ⟨rfl, rfl, rfl, _, rfl, rfl⟩ (fun hg => allT_of ⟨hg, rfl, trivial⟩) (fun hg => av_load_ptr ts3 rfl rfl rfl)
              · exact ob_v ⟨rfl, rfl, rfl, _, rfl, rfl⟩ (fun hg => allT_of ⟨hg, hg, rfl, trivial⟩) (fun hg => av_ia_sl (t := (.int .i64)) (e := ((ix x6 x35.2.1).getD default)) und22 sz3 rfl rfl (get_g h40 hg))
              · exact ob_v ⟨rfl, rfl, rfl, _, rfl, rfl⟩ (fun hg => allT_of ⟨hg, rfl, trivial⟩) (fun hg => av_load_rp ts3 rfl)
              · exact ob_v ⟨rfl, rfl, rfl, _, rfl, rfl⟩ (fun hg => allT_of ⟨rfl, trivial⟩) (fun hg => av_move rfl)
              · exact ob_v ⟨rfl, rfl, rfl, _, rfl, rfl⟩ (fun hg => allT_of ⟨hg, hg, rfl, trivial⟩) (fun hg => av_geq rfl rfl)
              · exact ob_pick (b := true) (p := x37 && ((decide (x35.2.2 < 0)) || (!((f58 p1 x4 x35.2.2 x18.2.1).getD default)))) (q := decide (s22 ≤ ((ix x6 x35.2.1).getD default))) rfl rfl rfl (fun hg => allT_of ⟨rfl, trivial⟩) rfl rfl rfl rfl rfl
              refine athen_norm ?_
              refine awc_cond (b := (x37 && ((decide (x35.2.2 < 0)) || (!((f58 p1 x4 x35.2.2 x18.2.1).getD default)))) && (decide (s22 ≤ ((ix x6 x35.2.1).getD default)))) rfl (fun hc41 => ?_) (fun hc41 => ?_)
              · have hr := if_t hc41 hr
                obtain ⟨x42, e43, hr⟩ := bnd_some hr
                refine awc_draw mixed [1, 4, 5, 6, 7, 8, 9, 11, 29, 30, 31, 35, 36, 37, 15] [(true, .ptr 2 0), (true, .int .i64 x35.1), (true, .sl (.int .i64) x6), (true, .ptr 2 1), (true, .int .i64 x35.2.1), (true, .rp [.int .i64 x42]), (true, .int .i64 x42), (true, .int .i64 x35.1), (true, .int .i64 x42)] [[], [0], [], [], [3], [2, 4], [5], [1], [6]] [7, 8] rfl rfl rfl rfl rfl ⟨?_, ?_, ?_, ?_, ?_, ?_, ?_, ?_, ?_, trivial⟩ (allT_of ⟨rfl, rfl, trivial⟩) ?_
                · exact ob_v rfl (fun hg => allT_of trivial) (fun hg => av_fa_ptr fa93_0 rfl rfl)
                · exact ob_v rfl (fun hg => allT_of ⟨rfl, trivial⟩) (fun hg => av_load_ptr ts3 rfl rfl rfl)
                · exact ob_v rfl (fun hg => allT_of trivial) (fun hg => av_move rfl)
                · exact ob_v rfl (fun hg => allT_of trivial) (fun hg => av_fa_ptr fa93_1 rfl rfl)
                · exact ob_v rfl (fun hg => allT_of ⟨rfl, trivial⟩) (fun hg => av_load_ptr ts3 rfl rfl rfl)
                · exact ob_v rfl (fun hg => allT_of ⟨rfl, rfl, trivial⟩) (fun hg => av_ia_sl (t := (.int .i64)) (e := x42) und22 sz3 rfl rfl e43)
                · exact ob_v rfl (fun hg => allT_of ⟨rfl, trivial⟩) (fun hg => av_load_rp ts3 rfl)
                · exact ob_v rfl (fun hg => allT_of ⟨rfl, trivial⟩) (fun hg => av_assign rfl)
                · exact ob_v rfl (fun hg => allT_of ⟨rfl, trivial⟩) (fun hg => av_assign rfl)
                have hr := Option.some.inj hr
                subst hr
                exact ablock_norm ((wk_of hX [0, 1] 4 rfl rfl ⟨⟨_, rfl, cv0⟩, ⟨_, rfl, cv0⟩, ⟨_, rfl, cv0⟩, ⟨_, rfl, cv0⟩, ⟨_, rfl, cv0⟩, ⟨_, rfl, cv0⟩, ⟨_, rfl, cv0⟩, ⟨_, rfl, cv0⟩, ⟨_, rfl, cv0⟩, ⟨_, rfl, cv0⟩, ⟨_, rfl, cv0⟩, ⟨_, rfl, cv0⟩, ⟨_, rfl, cv0⟩, ⟨_, rfl, cv0⟩, ⟨_, rfl, cv0⟩, ⟨_, rfl, cv0⟩, trivial⟩ ⟨cvo0, cvo0, trivial⟩))
              · have hr := if_f hc41 hr
                have hr := Option.some.inj hr
                subst hr
                exact awc_skip (ablock_norm ((wk_of hX [0, 1] 4 rfl rfl ⟨⟨_, rfl, cv0⟩, ⟨_, rfl, cv0⟩, ⟨_, rfl, cv0⟩, ⟨_, rfl, cv0⟩, ⟨_, rfl, cv0⟩, ⟨_, rfl, cv0⟩, ⟨_, rfl, cv0⟩, ⟨_, rfl, cv0⟩, ⟨_, rfl, cv0⟩, ⟨_, rfl, cv0⟩, ⟨_, rfl, cv0⟩, ⟨_, rfl, cv0⟩, ⟨_, rfl, cv0⟩, ⟨_, rfl, cv0⟩, ⟨_, rfl, cv0⟩, ⟨_, rfl, cv0⟩, trivial⟩ ⟨cvo0, cvo0, trivial⟩)))
            · rintro ⟨s31, s32⟩ rfl
              refine awc_region ?_
              refine awl_v (av_add rfl rfl) ?_
              refine awl_v (av_move rfl) ?_
              have hr := Option.some.inj hr
              subst hr
              exact awl_nil ((wk_of hX [0, 1] 4 rfl rfl ⟨⟨_, rfl, cv0⟩, ⟨_, rfl, cv0⟩, ⟨_, rfl, cv0⟩, ⟨_, rfl, cv0⟩, ⟨_, rfl, cv0⟩, ⟨_, rfl, cv0⟩, ⟨_, rfl, cv0⟩, ⟨_, rfl, cv0⟩, ⟨_, rfl, cv0⟩, ⟨_, rfl, cv0⟩, ⟨_, rfl, cv0⟩, ⟨_, rfl, cv0⟩, ⟨_, rfl, cv0⟩, ⟨_, rfl, cv0⟩, ⟨_, rfl, cv0⟩, ⟨_, rfl, cv0⟩, trivial⟩ ⟨cvo0, cvo0, trivial⟩))
            · exact fun r h e st hne hx => hx.elim
          · obtain rfl := rb_f hc30 ho
            exact awc_exit (athen_exit (⟨rfl, (wk_of hX [0, 1] 4 rfl rfl ⟨⟨_, rfl, cv0⟩, ⟨_, rfl, cv0⟩, ⟨_, rfl, cv0⟩, ⟨_, rfl, cv0⟩, ⟨_, rfl, cv0⟩, ⟨_, rfl, cv0⟩, ⟨_, rfl, cv0⟩, ⟨_, rfl, cv0⟩, ⟨_, rfl, cv0⟩, ⟨_, rfl, cv0⟩, ⟨_, rfl, cv0⟩, ⟨_, rfl, cv0⟩, trivial⟩ ⟨cvo0, cvo0, trivial⟩)⟩))
      · obtain rfl := rb_f hc17 ho
        exact awc_exit (athen_exit (⟨rfl, (wk_of hX [0] 4 rfl rfl ⟨⟨_, rfl, cv0⟩, ⟨_, rfl, cv0⟩, ⟨_, rfl, cv0⟩, trivial⟩ ⟨cvo0, trivial⟩)⟩))
theorem f7_runs {p0 : Int} {p1 : List (Int × Int × Int × Int × Str)} {p2 : List Int} {r : Bool} (hr : f7 p0 p1 p2 = some r) : RunsP Try.prog 7 [.int .i64 p0, .sl Y1 p1, .sl (.int .i64) p2] [.bool r] := by
  refine runs_w Try.func7 Try.ntmps7 rfl (rs := [.tmp 6]) rfl rfl fun w0 X hX => ?_
  refine awc_seq ?_
  refine awc_region ?_
  refine awl_v (av_assign rfl) ?_
  refine awl_nil (athen_norm (awc_seq (awc_seq ?_)))
  obtain ⟨x1, e2, hr⟩ := bnd_some hr
  refine awc_text [0, 1, 2, 6] [(true, .sl Y1 p1), (true, .bool x1), (true, .bool (!x1)), (true, .bool (!x1)), (!(!x1), .sl (.int .i64) p2), (!(!x1), .int .i64 (List.length p2 : Int)), (!(!x1), .bool (decide (100 < (List.length p2 : Int)))), (true, .bool ((!x1) || (decide (100 < (List.length p2 : Int)))))] [[], [0], [1], [2], [3], [4, 3], [5, 3], [6, 3]] [7] rfl rfl rfl rfl rfl ⟨?_, ?_, ?_, ?_, ?_, ?_, ?_, ?_, trivial⟩ (allT_of ⟨rfl, trivial⟩) ?_
  · exact ob_v rfl (fun hg => allT_of trivial) (fun hg => av_move rfl)
  · exact ob_v rfl (fun hg => allT_of ⟨rfl, trivial⟩) (fun hg => av_call (f14_runs e2) ent14 rfl rfl)
  · exact ob_v rfl (fun hg => allT_of ⟨rfl, trivial⟩) (fun hg => av_not rfl)
  · exact ob_v rfl (fun hg => allT_of ⟨rfl, trivial⟩) (fun hg => av_move rfl)
  · exact ob_v ⟨rfl, rfl, rfl, _, rfl, rfl⟩ (fun hg => allT_of ⟨rfl, trivial⟩) (fun hg => av_move rfl)
  · exact ob_v ⟨rfl, rfl, rfl, _, rfl, rfl⟩ (fun hg => allT_of ⟨hg, rfl, trivial⟩) (fun hg => av_len_sl (t := (.int .i64)) rfl rfl und22 rfl)
  · exact ob_v ⟨rfl, rfl, rfl, _, rfl, rfl⟩ (fun hg => allT_of ⟨hg, rfl, trivial⟩) (fun hg => av_gtr rfl rfl)
  · exact ob_pick (b := false) (p := !x1) (q := decide (100 < (List.length p2 : Int))) rfl rfl rfl (fun hg => allT_of ⟨rfl, trivial⟩) rfl rfl rfl rfl rfl
  refine athen_norm ?_
  refine awc_cond (b := (!x1) || (decide (100 < (List.length p2 : Int)))) rfl (fun hc3 => ?_) (fun hc3 => ?_)
  · have hr := if_t hc3 hr
    refine awc_seq ?_
    refine awc_region ?_
    obtain ⟨x4, e5, hr⟩ := bnd_some hr
    refine awl_v (av_call (f8_runs e5) ent8 rfl rfl) ?_
    refine awl_v (av_assign rfl) ?_
    have hr := Option.some.inj hr
    subst hr
    exact awl_nil (athen_norm (awc_ret (athen_ret (ret_q (l' := [(6, .bool x4)]) (wk_of hX [] 4 rfl rfl ⟨⟨_, rfl, cv0⟩, trivial⟩ trivial) rfl ⟨rfl, trivial⟩))))
  · have hr := if_f hc3 hr
    refine awc_skip (athen_norm (awc_seq ?_))
    refine awc_region ?_
    refine awl_v (av_move rfl) ?_
    refine awl_v (av_move rfl) ?_
    refine awl_v (av_move rfl) ?_
    obtain ⟨x6, e7, hr⟩ := bnd_some hr
    refine awl_v (av_call (f41_runs e7) ent41 rfl rfl) ?_
    refine awl_v (av_move rfl) ?_
    refine awl_v (av_extract rfl rfl) ?_
    refine awl_v (av_extract rfl rfl) ?_
    refine awl_v (av_assign rfl) ?_
    refine awl_v (av_assign rfl) ?_
    refine awl_nil (athen_norm (awc_seq ?_))
    refine awc_region ?_
    refine awl_v (av_move rfl) ?_
    refine awl_v (av_move rfl) ?_
    refine awl_v (av_move rfl) ?_
    obtain ⟨x8, e9, hr⟩ := bnd_some hr
    refine awl_v (av_call (f42_runs e9) ent42 rfl rfl) ?_
    refine awl_v (av_move rfl) ?_
    refine awl_v (av_extract rfl rfl) ?_
    refine awl_v (av_extract rfl rfl) ?_
    refine awl_v (av_assign rfl) ?_
    refine awl_v (av_assign rfl) ?_
    refine awl_nil (athen_norm (awc_seq (awc_seq ?_)))
    obtain ⟨x10, e11, hr⟩ := bnd_some hr
    refine awc_text [0, 1, 6, 7, 8, 9, 10] [(true, .sl (.int .i64) x6.1), (true, .sl (.int .i64) x8.1), (true, .bool x10), (true, .bool (!x10)), (true, .bool (!x10)), (!(!x10), .int .i64 x6.2), (!(!x10), .int .i64 x8.2), (!(!x10), .bool (!decide (x6.2 = x8.2))), (true, .bool ((!x10) || (!decide (x6.2 = x8.2))))] [[], [], [0, 1], [2], [3], [4], [4], [5, 6, 4], [7, 4]] [8] rfl rfl rfl rfl rfl ⟨?_, ?_, ?_, ?_, ?_, ?_, ?_, ?_, ?_, trivial⟩ (allT_of ⟨rfl, trivial⟩) ?_
    · exact ob_v rfl (fun hg => allT_of trivial) (fun hg => av_move rfl)
    · exact ob_v rfl (fun hg => allT_of trivial) (fun hg => av_move rfl)
    · exact ob_v rfl (fun hg => allT_of ⟨rfl, rfl, trivial⟩) (fun hg => av_call (f13_runs e11) ent13 rfl rfl)
    · exact ob_v rfl (fun hg => allT_of ⟨rfl, trivial⟩) (fun hg => av_not rfl)
    · exact ob_v rfl (fun hg => allT_of ⟨rfl, trivial⟩) (fun hg => av_move rfl)
    · exact ob_v ⟨rfl, rfl, rfl, _, rfl, rfl⟩ (fun hg => allT_of ⟨rfl, trivial⟩) (fun hg => av_move rfl)
    · exact ob_v ⟨rfl, rfl, rfl, _, rfl, rfl⟩ (fun hg => allT_of ⟨rfl, trivial⟩) (fun hg => av_move rfl)
    · exact ob_v ⟨rfl, rfl, rfl, _, rfl, rfl⟩ (fun hg => allT_of ⟨hg, hg, rfl, trivial⟩) (fun hg => av_neq rfl rfl)
    · exact ob_pick (b := false) (p := !x10) (q := !decide (x6.2 = x8.2)) rfl rfl rfl (fun hg => allT_of ⟨rfl, trivial⟩) rfl rfl rfl rfl rfl
    refine athen_norm ?_
    refine awc_cond (b := (!x10) || (!decide (x6.2 = x8.2))) rfl (fun hc12 => ?_) (fun hc12 => ?_)
    · have hr := if_t hc12 hr
      refine awc_seq ?_
      refine awc_region ?_
      refine awl_v (av_assign rfl) ?_
      have hr := Option.some.inj hr
      subst hr
      exact awl_nil (athen_norm (awc_ret (athen_ret (ret_q (l' := [(6, .bool false)]) (wk_of hX [] 4 rfl rfl ⟨⟨_, rfl, cv0⟩, trivial⟩ trivial) rfl ⟨rfl, trivial⟩))))
    · have hr := if_f hc12 hr
      refine awc_skip (athen_norm (awc_seq (awc_seq ?_)))
      refine awc_region ?_
      refine awl_v (av_move rfl) ?_
      refine awl_v (av_neq rfl rfl) ?_
      refine awl_nil (athen_norm ?_)
      refine awc_cond (b := !decide (x6.2 = 0)) rfl (fun hc13 => ?_) (fun hc13 => ?_)
      · have hr := if_t hc13 hr
        refine awc_seq ?_
        refine awc_region ?_
        obtain ⟨x14, e15, hr⟩ := bnd_some hr
        refine awl_v (av_call (f8_runs e15) ent8 rfl rfl) ?_
        refine awl_v (av_assign rfl) ?_
        have hr := Option.some.inj hr
        subst hr
        exact awl_nil (athen_norm (awc_ret (athen_ret (ret_q (l' := [(6, .bool x14)]) (wk_of hX [] 4 rfl rfl ⟨⟨_, rfl, cv0⟩, trivial⟩ trivial) rfl ⟨rfl, trivial⟩))))
      · have hr := if_f hc13 hr
        refine awc_skip (athen_norm (awc_seq ?_))
        refine awc_region ?_
        refine awl_v (av_move rfl) ?_
        obtain ⟨h16, hr⟩ := chk_some hr
        refine awl_op (aop_make (t := (.int .i64)) und22 zt3 rfl rfl h16 rfl ?_)
        refine awl_v (av_assign rfl) ?_
        refine awl_nil (athen_norm (awc_seq ?_))
        refine awc_region ?_
        refine awl_v (av_assign rfl) ?_
        refine awl_nil (athen_norm (awc_seq (awc_seq ?_)))
        refine awc_region ?_
        refine awl_v (av_move rfl) ?_
        refine awl_v (av_len_sl (t := (.int .i64)) rfl rfl und22 rfl) ?_
        refine awl_v (av_move rfl) ?_
        refine awl_nil (athen_norm (awc_block ?_))
        obtain ⟨o24, e25, hr⟩ := bnd_some hr
        refine awc_len (t := 7) rfl (fun hl => ?_)
        refine awc_range (S := List Int × (List (Int × Int × Int × Int × Str))) (R := Unit) (List.length x6.1 : Int) (f7_b0 p0 p1 x6) (fun p => match p with | (i17, s19, s20) => (⟨[(0, .int .i64 p0), (1, .sl Y1 p1), (6, .bool false), (7, .sl (.int .i64) x6.1), (11, .osl 0), (12, .osl 1), (69, .sl (.int .i64) x6.1), (70, .int .i64 (List.length x6.1 : Int)), (71, .int .i64 i17)], [(0, .sl 3 (.int .i64) s19), (1, .sl 50 Y1 s20)], 2⟩ : AS)) (fun o e st => match o with | .inl (s19, s20) => e = .exit 0 ∧ Wk X st ⟨[(0, .int .i64 p0), (1, .sl Y1 p1), (6, .bool false), (7, .sl (.int .i64) x6.1), (12, .osl 0)], [(0, .sl 50 Y1 s20)], 1⟩ | .inr () => e = .ret ∧ Wk X st ⟨[(6, .bool false)], [], 0⟩) (len_ok hl) e25 (Wk.trans (wk_own (t := 12) 50 Y1 rfl) (wk_of hX [0, 1] 4 rfl rfl ⟨⟨_, rfl, cv0⟩, ⟨_, rfl, cv0⟩, ⟨_, rfl, cv0⟩, ⟨_, rfl, cv0⟩, ⟨_, rfl, cv0⟩, ⟨_, rfl, cv0⟩, ⟨_, rfl, cv0⟩, ⟨_, rfl, cv0⟩, ⟨_, rfl, cv0⟩, trivial⟩ ⟨cvo0, cvo0, trivial⟩)) ?_ ?_
        · intro e st hx
          rcases o24 with ⟨s19, s20⟩ | _
          · obtain ⟨rfl, hw⟩ := hx
            refine ablock_here (athen_norm ((awc_wk hw) (awc_seq (awc_seq ?_))))
            refine awc_region ?_
            refine awl_v (av_move rfl) ?_
            refine awl_v (av_move rfl) ?_
            obtain ⟨x26, e27, hr⟩ := bnd_some hr
            refine awl_v (av_callB (as' := [.int .i64 p0, .osl 0]) (f17_runs e27) ent17 rfl ⟨cv0, cv0, trivial⟩ rfl rfl) ?_
            refine awl_v (av_not rfl) ?_
            refine awl_nil (athen_norm ?_)
            refine awc_cond (b := !x26) rfl (fun hc28 => ?_) (fun hc28 => ?_)
            · have hr := if_t hc28 hr
              refine awc_seq ?_
              refine awc_region ?_
              refine awl_v (av_assign rfl) ?_
              have hr := Option.some.inj hr
              subst hr
              exact awl_nil (athen_norm (awc_ret (athen_ret (ret_q (l' := [(6, .bool false)]) (wk_of hX [] 4 rfl rfl ⟨⟨_, rfl, cv0⟩, trivial⟩ trivial) rfl ⟨rfl, trivial⟩))))
            · have hr := if_f hc28 hr
              refine awc_skip (athen_norm (awc_seq ?_))
              refine awc_region ?_
              refine awl_v (av_move rfl) ?_
              refine awl_v (av_move rfl) ?_
              obtain ⟨x29, e30, hr⟩ := bnd_some hr
              refine awl_v (av_call (f19_runs e30) ent19 rfl rfl) ?_
              refine awl_v (av_move rfl) ?_
              refine awl_v (av_extract rfl rfl) ?_
              refine awl_v (av_extract rfl rfl) ?_
              refine awl_v (av_assign rfl) ?_
              refine awl_v (av_assign rfl) ?_
              refine awl_nil (athen_norm (awc_seq ?_))
              refine awc_region ?_
              refine awl_v (av_move rfl) ?_
              refine awl_v (av_move rfl) ?_
              refine awl_wk (wk_of (st' := ⟨[(0, .int .i64 p0), (1, .sl Y1 p1), (6, .bool false), (7, .sl (.int .i64) x6.1), (12, .sl Y1 s20), (106, .int .i64 p0), (107, .sl Y1 s20), (108, .bool x26), (109, .bool (!x26)), (111, .int .i64 p0), (112, .sl Y1 p1), (113, .tup [.sl (.slice (.int .i64)) x29.1, .int .i64 x29.2]), (110, .tup [.sl (.slice (.int .i64)) x29.1, .int .i64 x29.2]), (114, .sl (.slice (.int .i64)) x29.1), (115, .int .i64 x29.2), (17, .sl (.slice (.int .i64)) x29.1), (18, .int .i64 x29.2), (117, .int .i64 p0), (118, .sl Y1 s20)], [], 0⟩) hX [] 4 rfl rfl ⟨⟨_, rfl, cv0⟩, ⟨_, rfl, cv0⟩, ⟨_, rfl, cv0⟩, ⟨_, rfl, cv0⟩, ⟨_, rfl, cv0⟩, ⟨_, rfl, cv0⟩, ⟨_, rfl, cv0⟩, ⟨_, rfl, cv0⟩, ⟨_, rfl, cv0⟩, ⟨_, rfl, cv0⟩, ⟨_, rfl, cv0⟩, ⟨_, rfl, cv0⟩, ⟨_, rfl, cv0⟩, ⟨_, rfl, cv0⟩, ⟨_, rfl, cv0⟩, ⟨_, rfl, cv0⟩, ⟨_, rfl, cv0⟩, ⟨_, rfl, cv0⟩, ⟨_, rfl, cv0⟩, trivial⟩ trivial) ?_
              obtain ⟨x31, e32, hr⟩ := bnd_some hr
              refine awl_v (av_call (f19_runs e32) ent19 rfl rfl) ?_
              refine awl_v (av_move rfl) ?_
              refine awl_v (av_extract rfl rfl) ?_
              refine awl_v (av_extract rfl rfl) ?_
              refine awl_v (av_assign rfl) ?_
              refine awl_v (av_assign rfl) ?_
              refine awl_nil (athen_norm (awc_seq ?_))
              refine awc_region ?_
              refine awl_v (av_move rfl) ?_
              refine awl_v (av_move rfl) ?_
              obtain ⟨x33, e34, hr⟩ := bnd_some hr
              refine awl_v (av_call (f21_runs e34) ent21 rfl rfl) ?_
              refine awl_v (av_move rfl) ?_
              refine awl_v (av_extract rfl rfl) ?_
              refine awl_v (av_extract rfl rfl) ?_
              refine awl_v (av_assign rfl) ?_
              refine awl_v (av_assign rfl) ?_
              refine awl_nil (athen_norm (awc_seq ?_))
              refine awc_region ?_
              refine awl_v (av_move rfl) ?_
              refine awl_v (av_move rfl) ?_
              obtain ⟨x35, e36, hr⟩ := bnd_some hr
              refine awl_v (av_call (f21_runs e36) ent21 rfl rfl) ?_
              refine awl_v (av_move rfl) ?_
              refine awl_v (av_extract rfl rfl) ?_
              refine awl_v (av_extract rfl rfl) ?_
              refine awl_v (av_assign rfl) ?_
              refine awl_v (av_assign rfl) ?_
              refine awl_nil (athen_norm (awc_seq (awc_seq ?_)))
              refine awc_text [0, 1, 6, 7, 12, 17, 19, 20, 21, 23, 24] [(true, .int .i64 x31.2), (true, .bool (!decide (x31.2 = 0))), (true, .bool (!decide (x31.2 = 0))), (!(!decide (x31.2 = 0)), .int .i64 x35.2), (!(!decide (x31.2 = 0)), .bool (!decide (x35.2 = 0))), (true, .bool ((!decide (x31.2 = 0)) || (!decide (x35.2 = 0)))), (true, .bool ((!decide (x31.2 = 0)) || (!decide (x35.2 = 0)))), (!((!decide (x31.2 = 0)) || (!decide (x35.2 = 0))), .sl (.slice (.int .i64)) x31.1), (!((!decide (x31.2 = 0)) || (!decide (x35.2 = 0))), .int .i64 (List.length x31.1 : Int)), (!((!decide (x31.2 = 0)) || (!decide (x35.2 = 0))), .sl (.int .i64) x6.1), (!((!decide (x31.2 = 0)) || (!decide (x35.2 = 0))), .int .i64 (List.length x6.1 : Int)), (!((!decide (x31.2 = 0)) || (!decide (x35.2 = 0))), .bool (!decide ((List.length x31.1 : Int) = (List.length x6.1 : Int)))), (true, .bool (((!decide (x31.2 = 0)) || (!decide (x35.2 = 0))) || (!decide ((List.length x31.1 : Int) = (List.length x6.1 : Int))))), (true, .bool (((!decide (x31.2 = 0)) || (!decide (x35.2 = 0))) || (!decide ((List.length x31.1 : Int) = (List.length x6.1 : Int))))), (!(((!decide (x31.2 = 0)) || (!decide (x35.2 = 0))) || (!decide ((List.length x31.1 : Int) = (List.length x6.1 : Int)))), .sl (.int .i64) x35.1), (!(((!decide (x31.2 = 0)) || (!decide (x35.2 = 0))) || (!decide ((List.length x31.1 : Int) = (List.length x6.1 : Int)))), .int .i64 (List.length x35.1 : Int)), (!(((!decide (x31.2 = 0)) || (!decide (x35.2 = 0))) || (!decide ((List.length x31.1 : Int) = (List.length x6.1 : Int)))), .sl (.int .i64) x6.1), (!(((!decide (x31.2 = 0)) || (!decide (x35.2 = 0))) || (!decide ((List.length x31.1 : Int) = (List.length x6.1 : Int)))), .int .i64 (List.length x6.1 : Int)), (!(((!decide (x31.2 = 0)) || (!decide (x35.2 = 0))) || (!decide ((List.length x31.1 : Int) = (List.length x6.1 : Int)))), .bool (!decide ((List.length x35.1 : Int) = (List.length x6.1 : Int)))), (true, .bool ((((!decide (x31.2 = 0)) || (!decide (x35.2 = 0))) || (!decide ((List.length x31.1 : Int) = (List.length x6.1 : Int)))) || (!decide ((List.length x35.1 : Int) = (List.length x6.1 : Int)))))] [[], [0], [1], [2], [3, 2], [4, 2], [5], [6], [7, 6], [6], [9, 6], [8, 10, 6], [11, 6], [12], [13], [14, 13], [13], [16, 13], [15, 17, 13], [18, 13]] [19] rfl rfl rfl rfl rfl ⟨?_, ?_, ?_, ?_, ?_, ?_, ?_, ?_, ?_, ?_, ?_, ?_, ?_, ?_, ?_, ?_, ?_, ?_, ?_, ?_, trivial⟩ (allT_of ⟨rfl, trivial⟩) ?_
              · exact ob_v rfl (fun hg => allT_of trivial) (fun hg => av_move rfl)
              · exact ob_v rfl (fun hg => allT_of ⟨rfl, trivial⟩) (fun hg => av_neq rfl rfl)
              · exact ob_v rfl (fun hg => allT_of ⟨rfl, trivial⟩) (fun hg => av_move rfl)
              · exact ob_v ⟨rfl, rfl, rfl, _, rfl, rfl⟩ (fun hg => allT_of ⟨rfl, trivial⟩) (fun hg => av_move rfl)
              · exact ob_v ⟨rfl, rfl, rfl, _, rfl, rfl⟩ (fun hg => allT_of ⟨hg, rfl, trivial⟩) (fun hg => av_neq rfl rfl)
              · exact ob_pick (b := false) (p := !decide (x31.2 = 0)) (q := !decide (x35.2 = 0)) rfl rfl rfl (fun hg => allT_of ⟨rfl, trivial⟩) rfl rfl rfl rfl rfl
              · exact ob_v rfl (fun hg => allT_of ⟨rfl, trivial⟩) (fun hg => av_move rfl)
              · exact ob_v ⟨rfl, rfl, rfl, _, rfl, rfl⟩ (fun hg => allT_of ⟨rfl, trivial⟩) (fun hg => av_move rfl)
              · exact ob_v ⟨rfl, rfl, rfl, _, rfl, rfl⟩ (fun hg => allT_of ⟨hg, rfl, trivial⟩) (fun hg => av_len_sl (t := (.slice (.int .i64))) rfl rfl und34 rfl)
              · exact ob_v ⟨rfl, rfl, rfl, _, rfl, rfl⟩ (fun hg => allT_of ⟨rfl, trivial⟩) (fun hg => av_move rfl)
              · exact ob_v ⟨rfl, rfl, rfl, _, rfl, rfl⟩ (fun hg => allT_of ⟨hg, rfl, trivial⟩) (fun hg => av_len_sl (t := (.int .i64)) rfl rfl und22 rfl)
              · exact ob_v ⟨rfl, rfl, rfl, _, rfl, rfl⟩ (fun hg => allT_of ⟨hg, hg, rfl, trivial⟩) (fun hg => av_neq rfl rfl)
              · exact ob_pick (b := false) (p := (!decide (x31.2 = 0)) || (!decide (x35.2 = 0))) (q := !decide ((List.length x31.1 : Int) = (List.length x6.1 : Int))) rfl rfl rfl (fun hg => allT_of ⟨rfl, trivial⟩) rfl rfl rfl rfl rfl
              · exact ob_v rfl (fun hg => allT_of ⟨rfl, trivial⟩) (fun hg => av_move rfl)
              · exact ob_v ⟨rfl, rfl, rfl, _, rfl, rfl⟩ (fun hg => allT_of ⟨rfl, trivial⟩) (fun hg => av_move rfl)
              · exact ob_v ⟨rfl, rfl, rfl, _, rfl, rfl⟩ (fun hg => allT_of ⟨hg, rfl, trivial⟩) (fun hg => av_len_sl (t := (.int .i64)) rfl rfl und22 rfl)
              · exact ob_v ⟨rfl, rfl, rfl, _, rfl, rfl⟩ (fun hg => allT_of ⟨rfl, trivial⟩) (fun hg => av_move rfl)
              · exact ob_v ⟨rfl, rfl, rfl, _, rfl, rfl⟩ (fun hg => allT_of ⟨hg, rfl, trivial⟩) (fun hg => av_len_sl (t := (.int .i64)) rfl rfl und22 rfl)
              · exact ob_v ⟨rfl, rfl, rfl, _, rfl, rfl⟩ (fun hg => allT_of ⟨hg, hg, rfl, trivial⟩) (fun hg => av_neq rfl rfl)
              · exact ob_pick (b := false) (p := ((!decide (x31.2 = 0)) || (!decide (x35.2 = 0))) || (!decide ((List.length x31.1 : Int) = (List.length x6.1 : Int)))) (q := !decide ((List.length x35.1 : Int) = (List.length x6.1 : Int))) rfl rfl rfl (fun hg => allT_of ⟨rfl, trivial⟩) rfl rfl rfl rfl rfl
              refine athen_norm ?_
              refine awc_cond (b := (((!decide (x31.2 = 0)) || (!decide (x35.2 = 0))) || (!decide ((List.length x31.1 : Int) = (List.length x6.1 : Int)))) || (!decide ((List.length x35.1 : Int) = (List.length x6.1 : Int)))) rfl (fun hc37 => ?_) (fun hc37 => ?_)
              · have hr := if_t hc37 hr
                refine awc_seq ?_
                refine awc_region ?_
                refine awl_v (av_assign rfl) ?_
                have hr := Option.some.inj hr
                subst hr
                exact awl_nil (athen_norm (awc_ret (athen_ret (ret_q (l' := [(6, .bool false)]) (wk_of hX [] 4 rfl rfl ⟨⟨_, rfl, cv0⟩, trivial⟩ trivial) rfl ⟨rfl, trivial⟩))))
              · have hr := if_f hc37 hr
                refine awc_skip (athen_norm (awc_seq (awc_seq ?_)))
                refine awc_region ?_
                refine awl_v (av_move rfl) ?_
                refine awl_v (av_len_sl (t := (.int .i64)) rfl rfl und22 rfl) ?_
                refine awl_v (av_move rfl) ?_
                refine awl_nil (athen_norm (awc_block ?_))
                obtain ⟨o40, e41, hr⟩ := bnd_some hr
                refine awc_len (t := 7) rfl (fun hl => ?_)
                refine awc_range (S := Unit) (R := Unit) (List.length x6.1 : Int) (f7_b1 x6 x29 x31 x33 x35) (fun p => match p with | (i38, ()) => (⟨[(0, .int .i64 p0), (1, .sl Y1 p1), (6, .bool false), (12, .sl Y1 s20), (17, .sl (.slice (.int .i64)) x29.1), (19, .sl (.slice (.int .i64)) x31.1), (21, .sl (.int .i64) x33.1), (23, .sl (.int .i64) x35.1), (154, .sl (.int .i64) x6.1), (155, .int .i64 (List.length x6.1 : Int)), (156, .int .i64 i38)], [], 0⟩ : AS)) (fun o e st => match o with | .inl () => e = .exit 2 ∧ Wk X st ⟨[(0, .int .i64 p0), (1, .sl Y1 p1), (6, .bool false), (12, .sl Y1 s20)], [], 0⟩ | .inr () => e = .ret ∧ Wk X st ⟨[(6, .bool false)], [], 0⟩) (len_ok hl) e41 (wk_of hX [] 4 rfl rfl ⟨⟨_, rfl, cv0⟩, ⟨_, rfl, cv0⟩, ⟨_, rfl, cv0⟩, ⟨_, rfl, cv0⟩, ⟨_, rfl, cv0⟩, ⟨_, rfl, cv0⟩, ⟨_, rfl, cv0⟩, ⟨_, rfl, cv0⟩, ⟨_, rfl, cv0⟩, ⟨_, rfl, cv0⟩, ⟨_, rfl, cv0⟩, trivial⟩ trivial) ?_ ?_
                · intro e st hx
                  rcases o40 with _ | _
                  · obtain ⟨rfl, hw⟩ := hx
                    refine ablock_here (athen_norm ((awc_wk hw) (awc_seq ?_)))
                    refine awc_region ?_
                    refine awl_v (av_move rfl) ?_
                    refine awl_v (av_move rfl) ?_
                    obtain ⟨x42, e43, hr⟩ := bnd_some hr
                    refine awl_v (av_call (f43_runs e43) ent43 rfl rfl) ?_
                    refine awl_v (av_move rfl) ?_
                    refine awl_v (av_extract rfl rfl) ?_
                    refine awl_v (av_extract rfl rfl) ?_
                    refine awl_v (av_assign rfl) ?_
                    refine awl_v (av_assign rfl) ?_
                    refine awl_nil (athen_norm (awc_seq ?_))
                    refine awc_region ?_
                    refine awl_v (av_move rfl) ?_
                    refine awl_v (av_move rfl) ?_
                    obtain ⟨x44, e45, hr⟩ := bnd_some hr
                    refine awl_v (av_call (f43_runs e45) ent43 rfl rfl) ?_
                    refine awl_v (av_move rfl) ?_
                    refine awl_v (av_extract rfl rfl) ?_
                    refine awl_v (av_extract rfl rfl) ?_
                    refine awl_v (av_assign rfl) ?_
                    refine awl_v (av_assign rfl) ?_
                    refine awl_nil (athen_norm (awc_seq (awc_seq ?_)))
                    refine awc_text [6, 27, 29, 30] [(true, .int .i64 x44.2), (true, .bool (!decide (x44.2 = 0))), (true, .bool (!decide (x44.2 = 0))), (!(!decide (x44.2 = 0)), .sl Y3 x42.1), (!(!decide (x44.2 = 0)), .int .i64 (List.length x42.1 : Int)), (!(!decide (x44.2 = 0)), .sl Y3 x44.1), (!(!decide (x44.2 = 0)), .int .i64 (List.length x44.1 : Int)), (!(!decide (x44.2 = 0)), .bool (!decide ((List.length x42.1 : Int) = (List.length x44.1 : Int)))), (true, .bool ((!decide (x44.2 = 0)) || (!decide ((List.length x42.1 : Int) = (List.length x44.1 : Int)))))] [[], [0], [1], [2], [3, 2], [2], [5, 2], [4, 6, 2], [7, 2]] [8] rfl rfl rfl rfl rfl ⟨?_, ?_, ?_, ?_, ?_, ?_, ?_, ?_, ?_, trivial⟩ (allT_of ⟨rfl, trivial⟩) ?_
                    · exact ob_v rfl (fun hg => allT_of trivial) (fun hg => av_move rfl)
                    · exact ob_v rfl (fun hg => allT_of ⟨rfl, trivial⟩) (fun hg => av_neq rfl rfl)
                    · exact ob_v rfl (fun hg => allT_of ⟨rfl, trivial⟩) (fun hg => av_move rfl)
                    · exact ob_v ⟨rfl, rfl, rfl, _, rfl, rfl⟩ (fun hg => allT_of ⟨rfl, trivial⟩) (fun hg => av_move rfl)
                    · exact ob_v ⟨rfl, rfl, rfl, _, rfl, rfl⟩ (fun hg => allT_of ⟨hg, rfl, trivial⟩) (fun hg => av_len_sl (t := Y3) rfl rfl und51 rfl)
                    · exact ob_v ⟨rfl, rfl, rfl, _, rfl, rfl⟩ (fun hg => allT_of ⟨rfl, trivial⟩) (fun hg => av_move rfl)
                    · exact ob_v ⟨rfl, rfl, rfl, _, rfl, rfl⟩ (fun hg => allT_of ⟨hg, rfl, trivial⟩) (fun hg => av_len_sl (t := Y3) rfl rfl und51 rfl)
                    · exact ob_v ⟨rfl, rfl, rfl, _, rfl, rfl⟩ (fun hg => allT_of ⟨hg, hg, rfl, trivial⟩) (fun hg => av_neq rfl rfl)
                    · exact ob_pick (b := false) (p := !decide (x44.2 = 0)) (q := !decide ((List.length x42.1 : Int) = (List.length x44.1 : Int))) rfl rfl rfl (fun hg => allT_of ⟨rfl, trivial⟩) rfl rfl rfl rfl rfl
                    refine athen_norm ?_
                    refine awc_cond (b := (!decide (x44.2 = 0)) || (!decide ((List.length x42.1 : Int) = (List.length x44.1 : Int)))) rfl (fun hc46 => ?_) (fun hc46 => ?_)
                    · have hr := if_t hc46 hr
                      refine awc_seq ?_
                      refine awc_region ?_
                      refine awl_v (av_assign rfl) ?_
                      have hr := Option.some.inj hr
                      subst hr
                      exact awl_nil (athen_norm (awc_ret (athen_ret (ret_q (l' := [(6, .bool false)]) (wk_of hX [] 4 rfl rfl ⟨⟨_, rfl, cv0⟩, trivial⟩ trivial) rfl ⟨rfl, trivial⟩))))
                    · have hr := if_f hc46 hr
                      refine awc_skip (athen_norm (awc_seq (awc_seq ?_)))
                      refine awc_region ?_
                      refine awl_v (av_move rfl) ?_
                      refine awl_v (av_len_sl (t := Y3) rfl rfl und51 rfl) ?_
                      refine awl_v (av_move rfl) ?_
                      refine awl_nil (athen_norm (awc_block ?_))
                      obtain ⟨o49, e50, hr⟩ := bnd_some hr
                      refine awc_len (t := 27) rfl (fun hl => ?_)
                      refine awc_range (S := Unit) (R := Unit) (List.length x42.1 : Int) (f7_b2 x42 x44) (fun p => match p with | (i47, ()) => (⟨[(6, .bool false), (27, .sl Y3 x42.1), (29, .sl Y3 x44.1), (205, .int .i64 (List.length x42.1 : Int)), (206, .int .i64 i47)], [], 0⟩ : AS)) (fun o e st => match o with | .inl () => e = .exit 4 ∧ Wk X st ⟨[(6, .bool false)], [], 0⟩ | .inr () => e = .ret ∧ Wk X st ⟨[(6, .bool false)], [], 0⟩) (len_ok hl) e50 (wk_of hX [] 4 rfl rfl ⟨⟨_, rfl, cv0⟩, ⟨_, rfl, cv0⟩, ⟨_, rfl, cv0⟩, ⟨_, rfl, cv0⟩, ⟨_, rfl, cv0⟩, trivial⟩ trivial) ?_ ?_
                      · intro e st hx
                        rcases o49 with _ | _
                        · obtain ⟨rfl, hw⟩ := hx
                          refine ablock_here (athen_norm ((awc_wk hw) (awc_seq ?_)))
                          refine awc_region ?_
                          obtain ⟨x51, e52, hr⟩ := bnd_some hr
                          refine awl_v (av_call (f8_runs e52) ent8 rfl rfl) ?_
                          refine awl_v (av_assign rfl) ?_
                          have hr := Option.some.inj hr
                          subst hr
                          exact awl_nil (athen_norm (awc_ret (ret_q (l' := [(6, .bool x51)]) (wk_of hX [] 4 rfl rfl ⟨⟨_, rfl, cv0⟩, trivial⟩ trivial) rfl ⟨rfl, trivial⟩)))
                        · obtain ⟨rfl, hw⟩ := hx
                          have hr := Option.some.inj hr
                          subst hr
                          exact ablock_ret (athen_ret (ret_q (l' := [(6, .bool false)]) (Wk.trans hw (wk_of hX [] 4 rfl rfl ⟨⟨_, rfl, cv0⟩, trivial⟩ trivial)) rfl ⟨rfl, trivial⟩))
                      · rintro i47 _ o ho
                        refine awc_seq ?_
                        refine awc_region ?_
                        refine awl_v (av_lss rfl rfl) ?_
                        refine awl_nil (athen_norm (awc_seq ?_))
                        refine awc_cond (b := decide (i47 < (List.length x42.1 : Int))) rfl (fun hc53 => ?_) (fun hc53 => ?_)
                        · obtain ⟨q, hr, rfl⟩ := rb_t hc53 ho
                          refine awc_skip (athen_norm (awc_seq (awc_block (awc_seq ?_))))
                          refine awc_region ?_
                          refine awl_v (av_move rfl) ?_
                          refine awl_v (av_assign rfl) ?_
                          refine awl_nil (athen_norm (awc_seq ?_))
                          obtain ⟨x54, e55, hr⟩ := bnd_some hr
                          obtain ⟨x56, e57, hr⟩ := bnd_some hr
                          refine awc_draw mixed [6, 27, 29, 205, 206, 31] [(true, .sl Y3 x42.1), (true, .int .i64 i47), (true, .rp [.int .i64 x54.1, .int .i64 x54.2]), (true, .agg [.int .i64 x54.1, .int .i64 x54.2]), (true, .sl Y3 x44.1), (true, .int .i64 i47), (true, .rp [.int .i64 x56.1, .int .i64 x56.2]), (true, .agg [.int .i64 x56.1, .int .i64 x56.2]), (true, .bool (!((decide (x54.1 = x56.1)) && (decide (x54.2 = x56.2)))))] [[], [], [0, 1], [2], [], [], [4, 5], [6], [3, 7]] [8] rfl rfl rfl rfl rfl ⟨?_, ?_, ?_, ?_, ?_, ?_, ?_, ?_, ?_, trivial⟩ (allT_of ⟨rfl, trivial⟩) ?_
                          · exact ob_v rfl (fun hg => allT_of trivial) (fun hg => av_move rfl)
                          · exact ob_v rfl (fun hg => allT_of trivial) (fun hg => av_move rfl)
                          · exact ob_v rfl (fun hg => allT_of ⟨rfl, rfl, trivial⟩) (fun hg => av_ia_sl (t := Y3) (e := x54) und51 sz54 rfl rfl e55)
                          · exact ob_v rfl (fun hg => allT_of ⟨rfl, trivial⟩) (fun hg => av_load_rpN ts54 rfl rfl rfl)
                          · exact ob_v rfl (fun hg => allT_of trivial) (fun hg => av_move rfl)
                          · exact ob_v rfl (fun hg => allT_of trivial) (fun hg => av_move rfl)
                          · exact ob_v rfl (fun hg => allT_of ⟨rfl, rfl, trivial⟩) (fun hg => av_ia_sl (t := Y3) (e := x56) und51 sz54 rfl rfl e57)
                          · exact ob_v rfl (fun hg => allT_of ⟨rfl, trivial⟩) (fun hg => av_load_rpN ts54 rfl rfl rfl)
                          · exact ob_v rfl (fun hg => allT_of ⟨rfl, rfl, trivial⟩) (fun hg => av_neqA (r := (decide (x54.1 = x56.1)) && (decide (x54.2 = x56.2))) eq54 rfl rfl rfl rfl rfl rfl)
                          refine athen_norm ?_
                          refine awc_cond (b := !((decide (x54.1 = x56.1)) && (decide (x54.2 = x56.2)))) rfl (fun hc58 => ?_) (fun hc58 => ?_)
                          · have hr := if_t hc58 hr
                            refine awc_seq ?_
                            refine awc_region ?_
                            refine awl_v (av_assign rfl) ?_
                            have hr := Option.some.inj hr
                            subst hr
                            exact awl_nil (athen_norm (awc_ret (ablock_ret (athen_ret (⟨rfl, (wk_of hX [] 4 rfl rfl ⟨⟨_, rfl, cv0⟩, trivial⟩ trivial)⟩)))))
                          · have hr := if_f hc58 hr
                            refine awc_skip (ablock_norm (athen_norm ?_))
                            refine awc_region ?_
                            refine awl_v (av_add rfl rfl) ?_
                            refine awl_v (av_move rfl) ?_
                            have hr := Option.some.inj hr
                            subst hr
                            exact awl_nil ((wk_of hX [] 4 rfl rfl ⟨⟨_, rfl, cv0⟩, ⟨_, rfl, cv0⟩, ⟨_, rfl, cv0⟩, ⟨_, rfl, cv0⟩, ⟨_, rfl, cv0⟩, trivial⟩ trivial))
                        · obtain rfl := rb_f hc53 ho
                          exact awc_exit (athen_exit (⟨rfl, (wk_of hX [] 4 rfl rfl ⟨⟨_, rfl, cv0⟩, trivial⟩ trivial)⟩))
                  · obtain ⟨rfl, hw⟩ := hx
                    have hr := Option.some.inj hr
                    subst hr
                    exact ablock_ret (athen_ret (ret_q (l' := [(6, .bool false)]) (Wk.trans hw (wk_of hX [] 4 rfl rfl ⟨⟨_, rfl, cv0⟩, trivial⟩ trivial)) rfl ⟨rfl, trivial⟩))
                · rintro i38 _ o ho
                  refine awc_seq ?_
                  refine awc_region ?_
                  refine awl_v (av_lss rfl rfl) ?_
                  refine awl_nil (athen_norm (awc_seq ?_))
                  refine awc_cond (b := decide (i38 < (List.length x6.1 : Int))) rfl (fun hc59 => ?_) (fun hc59 => ?_)
                  · obtain ⟨q, hr, rfl⟩ := rb_t hc59 ho
                    refine awc_skip (athen_norm (awc_seq (awc_block (awc_seq ?_))))
                    refine awc_region ?_
                    refine awl_v (av_move rfl) ?_
                    obtain ⟨x60, e61, hr⟩ := bnd_some hr
                    refine awl_v (av_ia_sl (t := (.int .i64)) (e := x60) und22 sz3 rfl rfl e61) ?_
                    refine awl_v (av_load_rp ts3 rfl) ?_
                    refine awl_v (av_assign rfl) ?_
                    refine awl_v (av_assign rfl) ?_
                    refine awl_nil (athen_norm (awc_seq ?_))
                    obtain ⟨x62, e63, hr⟩ := bnd_some hr
                    obtain ⟨x64, e65, hr⟩ := bnd_some hr
                    obtain ⟨x66, e67, hr⟩ := bnd_some hr
                    obtain ⟨h68, hr⟩ := chk_some hr
                    obtain ⟨h69, hr⟩ := chk_some hr
                    refine awc_draw mixed [0, 1, 6, 12, 17, 19, 21, 23, 154, 155, 156, 25, 26] [(true, .sl (.slice (.int .i64)) x29.1), (true, .int .i64 x60), (true, .rp [.sl (.int .i64) x62]), (true, .sl (.int .i64) x62), (true, .sl (.slice (.int .i64)) x31.1), (true, .int .i64 i38), (true, .rp [.sl (.int .i64) x64]), (true, .sl (.int .i64) x64), (true, .bool x66), (true, .bool (!x66)), (true, .bool (!x66)), (!(!x66), .sl (.int .i64) x33.1), (!(!x66), .int .i64 x60), (!(!x66), .rp [.int .i64 ((ix x33.1 x60).getD default)]), (!(!x66), .int .i64 ((ix x33.1 x60).getD default)), (!(!x66), .sl (.int .i64) x35.1), (!(!x66), .int .i64 i38), (!(!x66), .rp [.int .i64 ((ix x35.1 i38).getD default)]), (!(!x66), .int .i64 ((ix x35.1 i38).getD default)), (!(!x66), .bool (!decide (((ix x33.1 x60).getD default) = ((ix x35.1 i38).getD default)))), (true, .bool ((!x66) || (!decide (((ix x33.1 x60).getD default) = ((ix x35.1 i38).getD default)))))] [[], [], [0, 1], [2], [], [], [4, 5], [6], [3, 7], [8], [9], [10], [10], [11, 12, 10], [13, 10], [10], [10], [15, 16, 10], [17, 10], [14, 18, 10], [19, 10]] [20] rfl rfl rfl rfl rfl ⟨?_, ?_, ?_, ?_, ?_, ?_, ?_, ?_, ?_, ?_, ?_, ?_, ?_, ?_, ?_, ?_, ?_, ?_, ?_, ?_, ?_, trivial⟩ (allT_of ⟨rfl, trivial⟩) ?_
                    · exact ob_v rfl (fun hg => allT_of trivial) (fun hg => av_move rfl)
                    · exact ob_v rfl (fun hg => allT_of trivial) (fun hg => av_move rfl)
                    · exact ob_v rfl (fun hg => allT_of ⟨rfl, rfl, trivial⟩) (fun hg => av_ia_sl (t := (.slice (.int .i64))) (e := x62) und34 sz22 rfl rfl e63)
                    · exact ob_v rfl (fun hg => allT_of ⟨rfl, trivial⟩) (fun hg => av_load_rp ts22 rfl)
                    · exact ob_v rfl (fun hg => allT_of trivial) (fun hg => av_move rfl)
                    · exact ob_v rfl (fun hg => allT_of trivial) (fun hg => av_move rfl)
                    · exact ob_v rfl (fun hg => allT_of ⟨rfl, rfl, trivial⟩) (fun hg => av_ia_sl (t := (.slice (.int .i64))) (e := x64) und34 sz22 rfl rfl e65)
                    · exact ob_v rfl (fun hg => allT_of ⟨rfl, trivial⟩) (fun hg => av_load_rp ts22 rfl)
                    · exact ob_v rfl (fun hg => allT_of ⟨rfl, rfl, trivial⟩) (fun hg => av_call (f13_runs e67) ent13 rfl rfl)
                    · exact ob_v rfl (fun hg => allT_of ⟨rfl, trivial⟩) (fun hg => av_not rfl)
                    · exact ob_v rfl (fun hg => allT_of ⟨rfl, trivial⟩) (fun hg => av_move rfl)
                    · exact ob_v ⟨rfl, rfl, rfl, _, rfl, rfl⟩ (fun hg => allT_of ⟨rfl, trivial⟩) (fun hg => av_move rfl)
                    · exact ob_v ⟨rfl, rfl, rfl, _, rfl, rfl⟩ (fun hg => allT_of ⟨rfl, trivial⟩) (fun hg => av_move rfl)
                    · exact ob_v ⟨rfl, rfl, rfl, _, rfl, rfl⟩ (fun hg => allT_of ⟨hg, hg, rfl, trivial⟩) (fun hg => av_ia_sl (t := (.int .i64)) (e := ((ix x33.1 x60).getD default)) und22 sz3 rfl rfl (get_g h68 hg))
                    · exact ob_v ⟨rfl, rfl, rfl, _, rfl, rfl⟩ (fun hg => allT_of ⟨hg, rfl, trivial⟩) (fun hg => av_load_rp ts3 rfl)
                    · exact ob_v ⟨rfl, rfl, rfl, _, rfl, rfl⟩ (fun hg => allT_of ⟨rfl, trivial⟩) (fun hg => av_move rfl)
                    · exact ob_v ⟨rfl, rfl, rfl, _, rfl, rfl⟩ (fun hg => allT_of ⟨rfl, trivial⟩) (fun hg => av_move rfl)
                    · exact ob_v ⟨rfl, rfl, rfl, _, rfl, rfl⟩ (fun hg => allT_of ⟨hg, hg, rfl, trivial⟩) (fun hg => av_ia_sl (t := (.int .i64)) (e := ((ix x35.1 i38).getD default)) und22 sz3 rfl rfl (get_g h69 hg))
                    · exact ob_v ⟨rfl, rfl, rfl, _, rfl, rfl⟩ (fun hg => allT_of ⟨hg, rfl, trivial⟩) (fun hg => av_load_rp ts3 rfl)
                    · exact ob_v ⟨rfl, rfl, rfl, _, rfl, rfl⟩ (fun hg => allT_of ⟨hg, hg, rfl, trivial⟩) (fun hg => av_neq rfl rfl)
                    · exact ob_pick (b := false) (p := !x66) (q := !decide (((ix x33.1 x60).getD default) = ((ix x35.1 i38).getD default))) rfl rfl rfl (fun hg => allT_of ⟨rfl, trivial⟩) rfl rfl rfl rfl rfl
                    refine athen_norm ?_
                    refine awc_cond (b := (!x66) || (!decide (((ix x33.1 x60).getD default) = ((ix x35.1 i38).getD default)))) rfl (fun hc70 => ?_) (fun hc70 => ?_)
                    · have hr := if_t hc70 hr
                      refine awc_seq ?_
                      refine awc_region ?_
                      refine awl_v (av_assign rfl) ?_
                      have hr := Option.some.inj hr
                      subst hr
                      exact awl_nil (athen_norm (awc_ret (ablock_ret (athen_ret (⟨rfl, (wk_of hX [] 4 rfl rfl ⟨⟨_, rfl, cv0⟩, trivial⟩ trivial)⟩)))))
                    · have hr := if_f hc70 hr
                      refine awc_skip (ablock_norm (athen_norm ?_))
                      refine awc_region ?_
                      refine awl_v (av_add rfl rfl) ?_
                      refine awl_v (av_move rfl) ?_
                      have hr := Option.some.inj hr
                      subst hr
                      exact awl_nil ((wk_of hX [] 4 rfl rfl ⟨⟨_, rfl, cv0⟩, ⟨_, rfl, cv0⟩, ⟨_, rfl, cv0⟩, ⟨_, rfl, cv0⟩, ⟨_, rfl, cv0⟩, ⟨_, rfl, cv0⟩, ⟨_, rfl, cv0⟩, ⟨_, rfl, cv0⟩, ⟨_, rfl, cv0⟩, ⟨_, rfl, cv0⟩, ⟨_, rfl, cv0⟩, trivial⟩ trivial))
                  · obtain rfl := rb_f hc59 ho
                    exact awc_exit (athen_exit (⟨rfl, (wk_of hX [] 4 rfl rfl ⟨⟨_, rfl, cv0⟩, ⟨_, rfl, cv0⟩, ⟨_, rfl, cv0⟩, ⟨_, rfl, cv0⟩, trivial⟩ trivial)⟩))
          · obtain ⟨rfl, hw⟩ := hx
            have hr := Option.some.inj hr
            subst hr
            exact ablock_ret (athen_ret (ret_q (l' := [(6, .bool false)]) (Wk.trans hw (wk_of hX [] 4 rfl rfl ⟨⟨_, rfl, cv0⟩, trivial⟩ trivial)) rfl ⟨rfl, trivial⟩))
        · rintro i17 ⟨s19, s20⟩ o ho
          refine awc_seq ?_
          refine awc_region ?_
          refine awl_v (av_lss rfl rfl) ?_
          refine awl_nil (athen_norm (awc_seq ?_))
          refine awc_cond (b := decide (i17 < (List.length x6.1 : Int))) rfl (fun hc71 => ?_) (fun hc71 => ?_)
          · obtain ⟨q, hr, rfl⟩ := rb_t hc71 ho
            refine awc_skip (athen_norm (awc_seq (awc_block (awc_seq ?_))))
            refine awc_region ?_
            obtain ⟨x72, e73, hr⟩ := bnd_some hr
            refine awl_v (av_ia_sl (t := (.int .i64)) (e := x72) und22 sz3 rfl rfl e73) ?_
            refine awl_v (av_load_rp ts3 rfl) ?_
            refine awl_v (av_assign rfl) ?_
            refine awl_nil (athen_norm (awc_seq ?_))
            refine awc_region ?_
            refine awl_v (av_move rfl) ?_
            refine awl_v (av_move rfl) ?_
            refine awl_v (av_move rfl) ?_
            obtain ⟨x74, e75, hr⟩ := bnd_some hr
            refine awl_v (av_ia_sl (t := Y1) (e := x74) und30 sz50 rfl rfl e75) ?_
            refine awl_v (av_fa_rp fa50_0 rfl rfl) ?_
            refine awl_v (av_load_rp ts3 rfl) ?_
            obtain ⟨x76, e77, hr⟩ := bnd_some hr
            refine awl_v (av_ia_osl (t := (.int .i64)) und22 sz3 rfl rfl rfl e77) ?_
            refine awl_v (av_load_ep ts3 rfl rfl rfl (ix_at e77) rfl) ?_
            refine awl_v (av_add rfl rfl) ?_
            refine awl_v (av_ia_osl (t := (.int .i64)) und22 sz3 rfl rfl rfl e77) ?_
            refine awl_op (aop_store_ep (e' := (w64 (x76 + 1))) sz3 rfl rfl rfl rfl (ix_at e77) rfl rfl rfl rfl rfl ?_)
            refine awl_nil (athen_norm (awc_seq ?_))
            refine awc_region ?_
            refine awl_v (av_move rfl) ?_
            refine awl_v (av_move rfl) ?_
            refine awl_v (av_move rfl) ?_
            refine awl_v (av_ia_sl (t := Y1) (e := x74) und30 sz50 rfl rfl e75) ?_
            refine awl_v (av_load_rpN ts50 rfl rfl rfl) ?_
            refine awl_v (av_buildSlice (t := Y1) (qs := [(0, [.int .i64 x74.1, .int .i64 x74.2.1, .int .i64 x74.2.2.1, .int .i64 x74.2.2.2.1, .str x74.2.2.2.2])]) (ys := [x74]) bs30 rfl rfl rfl rfl rfl rfl rfl rfl) ?_
            obtain ⟨h78, hr⟩ := chk_some hr
            refine awl_op (aop_append rfl rfl app30 rfl rfl rfl h78 rfl ?_)
            refine awl_v (av_assign rfl) ?_
            refine awl_nil (athen_norm (awc_seq ?_))
            refine awc_region ?_
            refine awl_v (av_move rfl) ?_
            refine awl_v (av_move rfl) ?_
            refine awl_v (av_move rfl) ?_
            obtain ⟨x79, e80, hr⟩ := bnd_some hr
            refine awl_v (av_callB (as' := [.int .i64 p0, .sl Y1 p1, .osl 0]) (f32_runs e80) ent32 rfl ⟨cv0, cv0, cv0, trivial⟩ rfl rfl) ?_
            refine awl_v (av_move rfl) ?_
            refine awl_v (av_extract rfl rfl) ?_
            refine awl_v (av_extract rfl rfl) ?_
            refine awl_v (av_assign rfl) ?_
            refine awl_v (av_assign rfl) ?_
            refine awl_nil (athen_norm (awc_seq ?_))
            refine awc_text [0, 1, 6, 7, 11, 12, 69, 70, 71, 15, 16] [(true, .int .i64 x79.2), (true, .bool (!decide (x79.2 = 0))), (true, .bool (!decide (x79.2 = 0))), (!(!decide (x79.2 = 0)), .bool x79.1), (!(!decide (x79.2 = 0)), .bool (!x79.1)), (true, .bool ((!decide (x79.2 = 0)) || (!x79.1)))] [[], [0], [1], [2], [3, 2], [4, 2]] [5] rfl rfl rfl rfl rfl ⟨?_, ?_, ?_, ?_, ?_, ?_, trivial⟩ (allT_of ⟨rfl, trivial⟩) ?_
            · exact ob_v rfl (fun hg => allT_of trivial) (fun hg => av_move rfl)
            · exact ob_v rfl (fun hg => allT_of ⟨rfl, trivial⟩) (fun hg => av_neq rfl rfl)
            · exact ob_v rfl (fun hg => allT_of ⟨rfl, trivial⟩) (fun hg => av_move rfl)
            · exact ob_v ⟨rfl, rfl, rfl, _, rfl, rfl⟩ (fun hg => allT_of ⟨rfl, trivial⟩) (fun hg => av_move rfl)
            · exact ob_v ⟨rfl, rfl, rfl, _, rfl, rfl⟩ (fun hg => allT_of ⟨hg, rfl, trivial⟩) (fun hg => av_not rfl)
            · exact ob_pick (b := false) (p := !decide (x79.2 = 0)) (q := !x79.1) rfl rfl rfl (fun hg => allT_of ⟨rfl, trivial⟩) rfl rfl rfl rfl rfl
            refine athen_norm ?_
            refine awc_cond (b := (!decide (x79.2 = 0)) || (!x79.1)) rfl (fun hc81 => ?_) (fun hc81 => ?_)
            · have hr := if_t hc81 hr
              refine awc_seq ?_
              refine awc_region ?_
              refine awl_v (av_assign rfl) ?_
              have hr := Option.some.inj hr
              subst hr
              exact awl_nil (athen_norm (awc_ret (ablock_ret (athen_ret (⟨rfl, (wk_of hX [] 4 rfl rfl ⟨⟨_, rfl, cv0⟩, trivial⟩ trivial)⟩)))))
            · have hr := if_f hc81 hr
              refine awc_skip (ablock_norm (athen_norm ?_))
              refine awc_region ?_
              refine awl_v (av_add rfl rfl) ?_
              refine awl_v (av_move rfl) ?_
              have hr := Option.some.inj hr
              subst hr
              exact awl_nil ((wk_of hX [0, 2] 4 rfl rfl ⟨⟨_, rfl, cv0⟩, ⟨_, rfl, cv0⟩, ⟨_, rfl, cv0⟩, ⟨_, rfl, cv0⟩, ⟨_, rfl, cv0⟩, ⟨_, rfl, cv0⟩, ⟨_, rfl, cv0⟩, ⟨_, rfl, cv0⟩, ⟨_, rfl, cv0⟩, trivial⟩ ⟨cvo0, cvo0, trivial⟩))
          · obtain rfl := rb_f hc71 ho
            exact awc_exit (athen_exit (⟨rfl, (wk_of hX [1] 4 rfl rfl ⟨⟨_, rfl, cv0⟩, ⟨_, rfl, cv0⟩, ⟨_, rfl, cv0⟩, ⟨_, rfl, cv0⟩, ⟨_, rfl, cv0⟩, trivial⟩ ⟨cvo0, trivial⟩)⟩))
end Go.Ab
