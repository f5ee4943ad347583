/- Lemmas for a law of the seat: what functions of the program do, each stated as a contract of its own (module LayT). -/
import Derived.Test.YtjagcoeihmhabaaChecked
import Derived.Test.YtjagcoeihmhabaaP29
import Derived.Test.YtjagcoeihmhabaaAbS
namespace Go.Ab
open Go.RowKit Go.Shelf Go.Proofs Go.Eng
instance : Inhabited (Ty.int .i64).den := ⟨(0 : Int)⟩
def insI (x : Int) : List Int → List Int
  | [] => [x]
  | y :: r => bif decide (x ≤ y) then x :: y :: r else y :: insI x r
def isortI : List Int → List Int
  | [] => []
  | x :: r => insI x (isortI r)
theorem insI_perm (x : Int) : ∀ l : List Int, (insI x l).Perm (x :: l) := by
  intro l
  induction l with
  | nil => exact List.Perm.refl _
  | cons y r ih =>
    unfold insI
    cases decide (x ≤ y)
    · exact (List.Perm.cons _ ih).trans (List.Perm.swap _ _ _)
    · exact List.Perm.refl _
theorem isortI_perm : ∀ l : List Int, (isortI l).Perm l := by
  intro l
  induction l with
  | nil => exact List.Perm.refl _
  | cons x r ih => exact (insI_perm x _).trans (List.Perm.cons _ ih)
theorem insI_sorted (x : Int) : ∀ l : List Int, l.Pairwise (· ≤ ·) → (insI x l).Pairwise (· ≤ ·) := by
  intro l
  induction l with
  | nil => intro _; simp [insI]
  | cons y r ih =>
    intro h
    rw [List.pairwise_cons] at h
    unfold insI
    cases hc : decide (x ≤ y) with
    | false =>
      rw [cond_false, List.pairwise_cons]
      refine ⟨fun z hz => ?_, ih h.2⟩
      have h1 : ¬ x ≤ y := of_decide_eq_false hc
      rcases List.mem_cons.1 ((insI_perm x r).mem_iff.1 hz) with rfl | hz
      · omega
      · exact h.1 z hz
    | true =>
      have h1 : x ≤ y := of_decide_eq_true hc
      rw [cond_true, List.pairwise_cons]
      refine ⟨fun z hz => ?_, List.pairwise_cons.2 h⟩
      rcases List.mem_cons.1 hz with rfl | hz
      · exact h1
      · have := h.1 z hz; omega
theorem isortI_sorted : ∀ l : List Int, (isortI l).Pairwise (· ≤ ·) := by
  intro l
  induction l with
  | nil => simp [isortI]
  | cons x r ih => exact insI_sorted x _ ih
theorem sorted_uniq : ∀ {a b : List Int}, a.Perm b → a.Pairwise (· ≤ ·) → b.Pairwise (· ≤ ·) → a = b := by
  intro a
  induction a with
  | nil => intro b hp _ _; exact (List.nil_perm.1 hp).symm
  | cons x a ih =>
    intro b hp ha hb
    cases b with
    | nil => exact absurd (List.nil_perm.1 hp.symm) (by simp)
    | cons y b =>
      rw [List.pairwise_cons] at ha hb
      have h1 : x ≤ y := by
        rcases List.mem_cons.1 (hp.mem_iff.2 (List.mem_cons_self (a := y) (l := b))) with h | h
        · omega
        · exact ha.1 y h
      have h2 : y ≤ x := by
        rcases List.mem_cons.1 (hp.mem_iff.1 (List.mem_cons_self (a := x) (l := a))) with h | h
        · omega
        · exact hb.1 x h
      have h3 : x = y := by omega
      subst h3
      rw [ih ((List.perm_cons x).1 hp) ha.2 hb.2]
theorem isort_eq (l : List Int) : (l.mergeSort fun x y => decide (x ≤ y)) = isortI l := by
  refine sorted_uniq ((List.mergeSort_perm _ _).trans (isortI_perm l).symm) ?_ (isortI_sorted l)
  have := List.pairwise_mergeSort (le := fun (x y : Int) => decide (x ≤ y)) (by intro a b c h1 h2; simp at *; omega) (by intro a b; simp; omega) l
  exact this.imp (fun h => by simpa using h)
def f73 (p0_0 : List Int) : Option (List Int) := bif Nat.blt p0_0.length 4611686018427387904 then some (isortI p0_0) else none
theorem f73_runs {p0_0 : List Int} {r : List Int} (hr : f73 p0_0 = some r) : Runs Try.prog 73 [.osl 0] [.sl 3 (.int .i64) p0_0] (fun q Hq => q = [] ∧ Hq = [.sl 3 (.int .i64) r]) := by
  unfold f73 at hr
  obtain ⟨h, hr⟩ := chk_some hr
  have hr := Option.some.inj hr
  subst hr
  have hl : p0_0.length < 4611686018427387904 := by simpa using h
  rw [← isort_eq]
  exact runs_row (enc_int .i64) (by simp) (fun b cap w g1 g2 _ => Any.slices_Sort_int Try.laysSort b 0 cap p0_0 w g1 g2 hl) (fun w => Any.slices_Sort_int_none Try.laysSort none 0 w)

def f83 (p0_0 : List Int) : Option (List Int) := bif Nat.ble p0_0.length 9223372036854775807 then some (Lib.compact p0_0) else none
theorem compact_le (zs : List Int) : (Lib.compact zs).length ≤ zs.length := by
  unfold Lib.compact Lib.compactUpTo
  rw [List.length_map]
  exact Nat.le_trans (List.length_filter_le _ _) (by simp)
theorem f83_runs {p0_0 : List Int} {r : List Int} (hr : f83 p0_0 = some r) : Runs Try.prog 83 [.osl 0] [.sl 3 (.int .i64) p0_0] (fun q Hq => q = [.osl 1] ∧ Hq = [.dead, .sl 3 (.int .i64) r]) := by
  unfold f83 at hr
  obtain ⟨h, hr⟩ := chk_some hr
  have hr := Option.some.inj hr
  subst hr
  have hl : p0_0.length ≤ 9223372036854775807 := by simpa using h
  have hc := compact_le p0_0
  refine runs_rowS (rest := List.replicate (p0_0.length - (Lib.compact p0_0).length) 0) (enc_int .i64) (by simp; omega) (fun b cap w g1 g2 g3 => ?_) (fun w => Any.slices_Compact_int_empty Try.laysCompact none 0 w)
  refine Calls.mono (Any.slices_Compact_int Try.laysCompact b 0 cap p0_0 w g1 hl g3) ?_
  rintro e w' ⟨h1, q, h2⟩
  exact ⟨h1, q, #[], by rw [Sort.grow_empty]; exact h2⟩
end Go.Ab
