/- Lemmas for a law of the seat: what functions of the program do, each stated as a contract of its own (module PuA). -/
import Derived.Test.YtjagcoeihmhabaaAbS
set_option linter.unusedVariables false
namespace Go.Ab

/-! plain laws of printed functions -/
/-- A loop over an index, by an invariant; it may be left. -/
theorem rng_ex {S R : Type} {g : Int → S → Option (S ⊕ R)} (Inv : Nat → S → Prop) (Ex : R → Prop) {n : Nat} (h : ∀ i s, i < n → Inv i s → (∃ s', g (i : Int) s = some (.inl s') ∧ Inv (i + 1) s') ∨ ∃ r, g (i : Int) s = some (.inr r) ∧ Ex r) :
    ∀ (k i : Nat) (s : S), i + k = n → Inv i s → (∃ s', rng g k (i : Int) s = some (.inl s') ∧ Inv n s') ∨ ∃ r, rng g k (i : Int) s = some (.inr r) ∧ Ex r := by
  intro k
  induction k with
  | zero => intro i s hi hs; left; exact ⟨s, rfl, by rw [← hi]; simpa using hs⟩
  | succ k ih =>
    intro i s hi hs
    rcases h i s (by omega) hs with ⟨s', h1, h2⟩ | ⟨r, h1, h2⟩
    · simp only [rng, h1, Option.bind_some]
      have := ih (i + 1) s' (by omega) h2
      simpa using this
    · right
      exact ⟨r, by simp only [rng, h1, Option.bind_some], h2⟩
theorem rng_ex0 {S R : Type} {g : Int → S → Option (S ⊕ R)} (Inv : Nat → S → Prop) (Ex : R → Prop) {n : Nat} (h : ∀ i s, i < n → Inv i s → (∃ s', g (i : Int) s = some (.inl s') ∧ Inv (i + 1) s') ∨ ∃ r, g (i : Int) s = some (.inr r) ∧ Ex r) {s : S} (h0 : Inv 0 s) :
    (∃ s', rng g n 0 s = some (.inl s') ∧ Inv n s') ∨ ∃ r, rng g n 0 s = some (.inr r) ∧ Ex r := rng_ex Inv Ex h n 0 s (by omega) h0
/-- A loop that runs to its end. -/
theorem rng_inv {S R : Type} {g : Int → S → Option (S ⊕ R)} (Inv : Nat → S → Prop) {n : Nat} (h : ∀ i s, i < n → Inv i s → ∃ s', g (i : Int) s = some (.inl s') ∧ Inv (i + 1) s') {s : S} (h0 : Inv 0 s) : ∃ s', rng g n 0 s = some (.inl s') ∧ Inv n s' := by
  rcases rng_ex0 Inv (fun _ : R => False) (fun i s hi hs => .inl (h i s hi hs)) h0 with h | ⟨r, _, h⟩
  · exact h
  · exact h.elim
theorem ix_nat {α : Type} {x : List α} {i : Nat} (h : i < x.length) : ix x (i : Int) = some x[i] := by
  unfold ix
  rw [if_pos (by omega)]
  simp [h]
theorem toNat_len {α : Type} (x : List α) : Int.toNat (List.length x : Int) = x.length := by simp
end Go.Ab
