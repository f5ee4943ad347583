/- Lemmas for a law of the seat: what functions of the program do, each stated as a contract of its own (LayD). -/
import Derived.Test.YtigjjobjdajkfaaDoorChecked
import Derived.Test.YtigjjobjdajkfaaDoorP29d
import Derived.Test.YtigjjobjdajkfaaDoorAb4
import Derived.Test.YtigjjobjdajkfaaDoorPu
import Derived.Lib.AppendIntMem
import Derived.Test.YtigjjobjdajkfaaDoorAb2
namespace Go.Ab
open Go.RowKit Go.Shelf Go.Proofs Go.Eng
instance : Inhabited (Ty.int .i64).den := ⟨(0 : Int)⟩
theorem f73_runs {p0_0 : List Int} {r : List Int} (hr : f73 p0_0 = some r) : Runs Tryd.prog 37 [.osl 0] [.sl 3 (.int .i64) p0_0] (fun q Hq => q = [] ∧ Hq = [.sl 3 (.int .i64) r]) := by
  unfold f73 at hr
  obtain ⟨h, hr⟩ := chk_some hr
  have hr := Option.some.inj hr
  subst hr
  have hl : p0_0.length < 4611686018427387904 := by simpa using h
  rw [← isort_eq]
  exact runs_row (enc_int .i64) (by simp) (fun b cap w g1 g2 _ => Any.slices_Sort_int Tryd.laysSort b 0 cap p0_0 w g1 g2 hl) (fun w => Any.slices_Sort_int_none Tryd.laysSort none 0 w)

theorem compact_eq (z : List Int) : Lib.compact z = compI z := by
  unfold Lib.compact Lib.compactUpTo compI Lib.keeps
  have e : ∀ j : Nat, z.toArray[j]! = z.getD j 0 := fun j => by
    rw [List.getD_eq_getElem?_getD, getElem!_def]
    simp only [List.getElem?_toArray]
    cases z[j]? <;> rfl
  simp only [e]
  congr 1
  apply List.filter_congr
  intro j hj
  by_cases h : j = 0
  · simp [h]
  · simp [h]
theorem compact_le (zs : List Int) : (Lib.compact zs).length ≤ zs.length := by
  unfold Lib.compact Lib.compactUpTo
  rw [List.length_map]
  exact Nat.le_trans (List.length_filter_le _ _) (by simp)
theorem f83_runs {p0_0 : List Int} {r : List Int} (hr : f83 p0_0 = some r) : Runs Tryd.prog 38 [.osl 0] [.sl 3 (.int .i64) p0_0] (fun q Hq => q = [.osl 1] ∧ Hq = [.dead, .sl 3 (.int .i64) r]) := by
  unfold f83 at hr
  obtain ⟨h, hr⟩ := chk_some hr
  have hr := Option.some.inj hr
  subst hr
  have hl : p0_0.length ≤ 9223372036854775807 := by simpa using h
  have hc := compact_le p0_0
  rw [← compact_eq]
  refine runs_rowS (rest := List.replicate (p0_0.length - (Lib.compact p0_0).length) 0) (enc_int .i64) (by simp; omega) (fun b cap w g1 g2 g3 => ?_) (fun w => Any.slices_Compact_int_empty Tryd.laysCompact none 0 w)
  refine Calls.mono (Any.slices_Compact_int Tryd.laysCompact b 0 cap p0_0 w g1 hl g3) ?_
  rintro e w' ⟨h1, q, h2⟩
  exact ⟨h1, q, #[], by rw [Sort.grow_empty]; exact h2⟩

/-! the dump's tables, its texts -/
def tabsZ : Tabs := [(0, (Lib.pow10Tab.map fun z => Value.int .u64 z).toArray)]
theorem fItoa_runs {n : Int} {r : Str} (hr : fItoa n = some r) : RunsT (TabM tabsZ) Tryd.prog 19 [.int .i64 n] [] (fun q H' => q = [.str r] ∧ H' = []) := by
  unfold fItoa at hr
  obtain ⟨h, hr⟩ := chk_some hr
  have hr := Option.some.inj hr
  subst hr
  simp only [Bool.and_eq_true, decide_eq_true_eq] at h
  refine runs_flatT rfl rfl fun w hw => ?_
  obtain ⟨T, fr, hc⟩ := hw _ (List.mem_singleton.2 rfl)
  refine Calls.mono (Any.strconv_Itoa Tryd.laysItoa n h.1 h.2 w ?_) ?_
  · have hg : Tryd.prog.globalNamed "internal/strconv.uint64pow10" = some 0 := by kernel_rfl
    simp only [Lib.TabIs, World.var?, hg, Option.bind_some, hc]
  · rintro e w' ⟨rfl, k, os, rfl⟩
    exact ⟨rfl, Lib.below_grow _ _ (Nat.le_refl _) _ _⟩
end Go.Ab

