/- Lemmas for a law of the seat: what functions of the program do, each stated as a contract of its own (module L29a). -/
import Derived.Test.YtjagcoeihmhabaaTA3
import Derived.Test.YtjagcoeihmhabaaPuA
set_option linter.unusedVariables false
set_option linter.unusedSimpArgs false
namespace Go.Ab
theorem f8_t : f8 = some true := by decide +kernel
/-- slices.ContainsFunc -/
theorem f75_any (p : List Int) (P : Int → Bool) : f75 p (fun y => some (P y)) = some (p.any P) := by
  unfold f75 f86
  rw [toNat_len]
  rcases rng_ex0 (g := f86_b0 p fun y => some (P y)) (n := p.length) (s := ()) (fun i _ => ∀ j, (hj : j < p.length) → j < i → P p[j] = false) (fun r : Int => 0 ≤ r ∧ ∃ x ∈ p, P x = true) (fun i s hi hs => by
    unfold f86_b0
    rw [ix_nat hi]
    simp only [Option.bind_some]
    cases hP : P p[i] with
    | true => right; exact ⟨i, rfl, by omega, p[i], by simp, hP⟩
    | false =>
      left
      refine ⟨(), rfl, fun j hj hji => ?_⟩
      by_cases e : j = i
      · subst e; exact hP
      · exact hs j hj (by omega)) (by intro j _ h; omega) with ⟨s', h1, h2⟩ | ⟨r, h1, h2, x, hx, hP⟩
  · rw [h1]
    simp only [Option.bind_some]
    congr 1
    have : p.any P = false := by
      rw [List.any_eq_false]
      intro x hx
      obtain ⟨j, hj, rfl⟩ := List.getElem_of_mem hx
      simp [h2 j hj hj]
    rw [this]; decide
  · rw [h1]
    simp only [Option.bind_some]
    congr 1
    have : p.any P = true := List.any_eq_true.2 ⟨x, hx, hP⟩
    rw [this]; simp [h2]
theorem f45_eq (a b : List Int) : f45 a b = some (decide (a.length = b.length) && decide (1 ≤ a.length) && decide (a.length ≤ 16) && !a.any (fun x => decide (x < 0)) && !b.any (fun x => decide (x < 0))) := by
  unfold f45
  have e : ∀ p : List Int, f75 p (fun y1 => f79 y1) = some (p.any fun x => decide (x < 0)) := fun p => f75_any p _
  simp only [e, Option.isSome_some, Bool.or_true, cond_true, Option.getD_some]
  have e1 : decide ((a.length : Int) = (b.length : Int)) = decide (a.length = b.length) := decide_eq_decide.2 (by omega)
  have e2 : decide (1 ≤ (a.length : Int)) = decide (1 ≤ a.length) := decide_eq_decide.2 (by omega)
  have e3 : decide ((a.length : Int) ≤ 16) = decide (a.length ≤ 16) := decide_eq_decide.2 (by omega)
  rw [e1, e2, e3]
abbrev neg (x : Int) : Bool := decide (x < 0)
theorem f47_in (x : List Int) : rng (f47_b1 x) x.length 0 () = some (if x.any neg then .inr () else .inl ()) := by
  rcases rng_ex0 (g := f47_b1 x) (n := x.length) (s := ()) (fun i _ => ∀ j, (hj : j < x.length) → j < i → neg x[j] = false) (fun r : Unit => ∃ y ∈ x, neg y = true) (fun i s hi hs => by
    unfold f47_b1
    rw [ix_nat hi]
    simp only [Option.bind_some]
    cases hP : neg x[i] with
    | true => right; exact ⟨(), by simp [hP], x[i], by simp, hP⟩
    | false =>
      left
      refine ⟨(), by simp [hP], fun j hj hji => ?_⟩
      by_cases e : j = i
      · subst e; exact hP
      · exact hs j hj (by omega)) (by intro j _ h; omega) with ⟨s', h1, h2⟩ | ⟨r, h1, y, hy, hP⟩
  · rw [h1]
    have : x.any neg = false := by
      rw [List.any_eq_false]
      intro y hy
      obtain ⟨j, hj, rfl⟩ := List.getElem_of_mem hy
      simp [h2 j hj hj]
    rw [if_neg (by rw [this]; simp)]
  · rw [h1, if_pos (List.any_eq_true.2 ⟨y, hy, hP⟩)]
theorem f47_two (a b : List Int) : f47 (a.length : Int) [a, b] = some (!a.any neg && (decide ((b.length : Int) = a.length) && !b.any neg)) := by
  unfold f47
  have e0 : ∀ x : List Int, rng (f47_b1 x) (Int.toNat (x.length : Int)) 0 () = some (if x.any neg then .inr () else .inl ()) := fun x => by rw [toNat_len]; exact f47_in x
  have g0 : f47_b0 (a.length : Int) [a, b] 0 () = some (if a.any neg then .inr () else .inl ()) := by
    unfold f47_b0
    have : ix [a, b] 0 = some a := rfl
    rw [this]
    simp only [Option.bind_some]
    rw [e0 a]
    cases a.any neg <;> simp
  have g1 : f47_b0 (a.length : Int) [a, b] 1 () = some (if decide ((b.length : Int) = a.length) && !b.any neg then .inl () else .inr ()) := by
    unfold f47_b0
    have : ix [a, b] 1 = some b := rfl
    rw [this]
    simp only [Option.bind_some]
    rw [e0 b]
    cases decide ((b.length : Int) = a.length) <;> cases b.any neg <;> simp
  have hl : Int.toNat (List.length [a, b] : Int) = 2 := rfl
  rw [hl]
  simp only [rng, g0]
  cases a.any neg
  · simp only [Option.bind_some, Int.zero_add, Bool.false_eq_true, if_false, g1]
    cases decide ((b.length : Int) = a.length) <;> cases b.any neg <;> simp
  · simp
/-- What both ask of two clocks. -/
def okC (a b : List Int) : Bool := decide (a.length = b.length) && decide (1 ≤ a.length) && decide (a.length ≤ 16) && !a.any neg && !b.any neg
theorem ask_eq (a b : List Int) : (decide (1 ≤ (a.length : Int)) && decide ((a.length : Int) ≤ 16) && (!a.any neg && (decide ((b.length : Int) = a.length) && !b.any neg))) = okC a b := by
  unfold okC
  have e1 : decide (1 ≤ (a.length : Int)) = decide (1 ≤ a.length) := decide_eq_decide.2 (by omega)
  have e2 : decide ((a.length : Int) ≤ 16) = decide (a.length ≤ 16) := decide_eq_decide.2 (by omega)
  have e3 : decide ((b.length : Int) = a.length) = decide (a.length = b.length) := decide_eq_decide.2 (by omega)
  rw [e1, e2, e3]
  cases decide (1 ≤ a.length) <;> cases decide (a.length ≤ 16) <;> cases a.any neg <;> cases decide (a.length = b.length) <;> cases b.any neg <;> rfl
theorem f9_b (a b : List Int) : f9_b0 a b = f10_b0 a b := rfl
theorem f45_ok (a b : List Int) : f45 a b = some (okC a b) := f45_eq a b
theorem f46_ok (a : List Int) : f46 a = some (decide (1 ≤ (a.length : Int)) && decide ((a.length : Int) ≤ 16)) := rfl
theorem f9_bad {a b : List Int} (h : okC a b = false) : f9 a b = some (0, 1) := by
  unfold f9; rw [f45_ok, h]; rfl
theorem f10_eq (a b : List Int) : f10 a b = f9 a b := by
  have h := ask_eq a b
  cases hk : okC a b with
  | false =>
    rw [f9_bad hk]
    rw [hk] at h
    unfold f10
    rw [f46_ok, f47_two]
    generalize (decide (1 ≤ (a.length : Int)) && decide ((a.length : Int) ≤ 16)) = p at *
    generalize (!a.any neg && (decide ((b.length : Int) = a.length) && !b.any neg)) = q at *
    cases p <;> cases q <;> first | rfl | exact absurd h (by decide)
  | true =>
    rw [hk] at h
    unfold f10 f9
    rw [f46_ok, f47_two, f45_ok, hk, ← f9_b]
    generalize (decide (1 ≤ (a.length : Int)) && decide ((a.length : Int) ≤ 16)) = p at *
    generalize (!a.any neg && (decide ((b.length : Int) = a.length) && !b.any neg)) = q at *
    cases p <;> cases q <;> first | rfl | exact absurd h (by decide)
end Go.Ab
