/- Lemmas for a law of the seat: what functions of the program do, each stated as a contract of its own (Pu). -/
import Derived.Test.YtigjjobjdajkfaaDoorAb2
import Derived.Lib.ItoaNum
import Derived.Test.YtigjjobjdajkfaaDoorAb4
set_option linter.unusedVariables false
namespace Go.Ab

/-! plain laws of printed functions -/
/-- A loop over an index, by an invariant; it may be left. -/
theorem rng_ex {S R : Type} {g : Int → S → Option (S ⊕ R)} (Inv : Nat → S → Prop) (Ex : R → Prop) {n : Nat} (h : ∀ i s, i < n → Inv i s → (∃ s', g (i : Int) s = some (.inl s') ∧ Inv (i + 1) s') ∨ ∃ r, g (i : Int) s = some (.inr r) ∧ Ex r) :
    ∀ (k i : Nat) (s : S), i + k = n → Inv i s → (∃ s', rng g k (i : Int) s = some (.inl s') ∧ Inv n s') ∨ ∃ r, rng g k (i : Int) s = some (.inr r) ∧ Ex r := by
  intro k
  induction k with
  | zero => intro i s hi hs; left; exact ⟨s, rfl, by rw [← hi]; simpa using hs⟩
  | succ k ih =>
    intro i s hi hs
    rcases h i s (by omega) hs with ⟨s', h1, h2⟩ | ⟨r, h1, h2⟩
    · simp only [rng, h1, Option.bind_some]
      have := ih (i + 1) s' (by omega) h2
      simpa using this
    · right
      exact ⟨r, by simp only [rng, h1, Option.bind_some], h2⟩
theorem rng_ex0 {S R : Type} {g : Int → S → Option (S ⊕ R)} (Inv : Nat → S → Prop) (Ex : R → Prop) {n : Nat} (h : ∀ i s, i < n → Inv i s → (∃ s', g (i : Int) s = some (.inl s') ∧ Inv (i + 1) s') ∨ ∃ r, g (i : Int) s = some (.inr r) ∧ Ex r) {s : S} (h0 : Inv 0 s) :
    (∃ s', rng g n 0 s = some (.inl s') ∧ Inv n s') ∨ ∃ r, rng g n 0 s = some (.inr r) ∧ Ex r := rng_ex Inv Ex h n 0 s (by omega) h0
/-- A loop that runs to its end. -/
theorem rng_inv {S R : Type} {g : Int → S → Option (S ⊕ R)} (Inv : Nat → S → Prop) {n : Nat} (h : ∀ i s, i < n → Inv i s → ∃ s', g (i : Int) s = some (.inl s') ∧ Inv (i + 1) s') {s : S} (h0 : Inv 0 s) : ∃ s', rng g n 0 s = some (.inl s') ∧ Inv n s' := by
  rcases rng_ex0 Inv (fun _ : R => False) (fun i s hi hs => .inl (h i s hi hs)) h0 with h | ⟨r, _, h⟩
  · exact h
  · exact h.elim
theorem ix_nat {α : Type} {x : List α} {i : Nat} (h : i < x.length) : ix x (i : Int) = some x[i] := by
  unfold ix
  rw [if_pos (by omega)]
  simp [h]
theorem toNat_len {α : Type} (x : List α) : Int.toNat (List.length x : Int) = x.length := by simp
end Go.Ab


set_option linter.unusedVariables false
namespace Go.Ab
open Go.RowKit Go.Shelf Go.Proofs Go.Eng

/-! plain laws: more of loops, indexes, ranges -/
/-- It gives something of which this is true. -/
def Tot {α : Type} (p : Option α) (Q : α → Prop) : Prop := ∃ r, p = some r ∧ Q r
theorem tot_some {α : Type} {r : α} {Q : α → Prop} (h : Q r) : Tot (some r) Q := ⟨r, rfl, h⟩
theorem Tot.bind {α β : Type} {p : Option α} {f : α → Option β} {Q : α → Prop} {R : β → Prop} (h : Tot p Q) (k : ∀ r, Q r → Tot (f r) R) : Tot (p.bind f) R := by
  obtain ⟨r, rfl, hq⟩ := h
  exact k r hq
theorem Tot.mono {α : Type} {p : Option α} {Q R : α → Prop} (h : Tot p Q) (k : ∀ r, Q r → R r) : Tot p R := let ⟨r, h1, h2⟩ := h; ⟨r, h1, k r h2⟩
theorem Tot.eq {α : Type} {p : Option α} {r : α} (h : Tot p (· = r)) : p = some r := by obtain ⟨q, h1, rfl⟩ := h; exact h1
theorem tot_if {α : Type} {c : Bool} {p q : Option α} {Q : α → Prop} (ht : c = true → Tot p Q) (hf : c = false → Tot q Q) : Tot (bif c then p else q) Q := by
  cases c
  · exact hf rfl
  · exact ht rfl
theorem tot_need {α : Type} {c : Bool} {p : Option α} {Q : α → Prop} (h : c = true) (ht : Tot p Q) : Tot (bif c then p else none) Q := by rw [h]; exact ht
/-- A loop over an index that is not left. -/
theorem tot_rng {S R : Type} {g : Int → S → Option (S ⊕ R)} {n : Nat} {s : S} (Inv : Nat → S → Prop) (h0 : Inv 0 s) (h : ∀ i s, i < n → Inv i s → Tot (g (i : Int) s) fun o => ∃ s', o = .inl s' ∧ Inv (i + 1) s') : Tot (rng g n 0 s) fun o => ∃ s', o = .inl s' ∧ Inv n s' := by
  obtain ⟨s', h1, h2⟩ := rng_inv (g := g) (n := n) (s := s) Inv (fun i s hi hs => by
    obtain ⟨r, h1, s', rfl, h2⟩ := h i s hi hs
    exact ⟨s', h1, h2⟩) h0
  exact ⟨_, h1, s', rfl, h2⟩
/-- A loop over an index that may be left. -/
theorem tot_rngx {S R : Type} {g : Int → S → Option (S ⊕ R)} {n : Nat} {s : S} (Inv : Nat → S → Prop) (Ex : R → Prop) (h0 : Inv 0 s) (h : ∀ i s, i < n → Inv i s → Tot (g (i : Int) s) fun o => (∃ s', o = .inl s' ∧ Inv (i + 1) s') ∨ ∃ r, o = .inr r ∧ Ex r) : Tot (rng g n 0 s) fun o => (∃ s', o = .inl s' ∧ Inv n s') ∨ ∃ r, o = .inr r ∧ Ex r := by
  rcases rng_ex0 (g := g) (n := n) (s := s) Inv Ex (fun i s hi hs => by
    obtain ⟨r, h1, ⟨s', rfl, h2⟩ | ⟨r, rfl, h2⟩⟩ := h i s hi hs
    · exact .inl ⟨s', h1, h2⟩
    · exact .inr ⟨r, h1, h2⟩) h0 with ⟨s', h1, h2⟩ | ⟨r, h1, h2⟩
  · exact ⟨_, h1, .inl ⟨s', rfl, h2⟩⟩
  · exact ⟨_, h1, .inr ⟨r, rfl, h2⟩⟩

/-! indexes -/
theorem ix_getD {α : Type} [Inhabited α] {x : List α} {i : Nat} (h : i < x.length) : ix x (i : Int) = some (x.getD i default) := by
  rw [ix_nat h, List.getD_eq_getElem?_getD, List.getElem?_eq_getElem h]; rfl
theorem ix_int {α : Type} [Inhabited α] {x : List α} {z : Int} (h0 : 0 ≤ z) (h : z < x.length) : ix x z = some (x.getD z.toNat default) := by
  have := ix_getD (x := x) (i := z.toNat) (by omega)
  rwa [show ((z.toNat : Nat) : Int) = z by omega] at this
theorem tot_ix {α : Type} [Inhabited α] {x : List α} {i : Nat} (h : i < x.length) {β : Type} {f : α → Option β} {Q : β → Prop} (k : Tot (f (x.getD i default)) Q) : Tot ((ix x (i : Int)).bind f) Q := by rw [ix_getD h]; exact k
theorem tot_ixz {α : Type} [Inhabited α] {x : List α} {z : Int} (h0 : 0 ≤ z) (h : z < x.length) {β : Type} {f : α → Option β} {Q : β → Prop} (k : Tot (f (x.getD z.toNat default)) Q) : Tot ((ix x z).bind f) Q := by rw [ix_int h0 h]; exact k
theorem getD_set {α : Type} {x : List α} {i j : Nat} {v d : α} (h : i < x.length) : (x.set i v).getD j d = if i = j then v else x.getD j d := by
  by_cases e : i = j
  · subst e; rw [if_pos rfl, List.getD_eq_getElem?_getD, List.getElem?_set_self h]; rfl
  · rw [if_neg e, List.getD_eq_getElem?_getD, List.getElem?_set_ne e, List.getD_eq_getElem?_getD]
theorem getD_rep {α : Type} {n j : Nat} {v d : α} (h : j < n) : (List.replicate n v).getD j d = v := by
  rw [List.getD_eq_getElem?_getD, List.getElem?_replicate, if_pos h]; rfl
theorem getD_app {α : Type} {x y : List α} {j : Nat} {d : α} : (x ++ y).getD j d = if j < x.length then x.getD j d else y.getD (j - x.length) d := by
  simp only [List.getD_eq_getElem?_getD, List.getElem?_append]
  split <;> rfl
theorem getD_take {α : Type} {x : List α} {n j : Nat} {d : α} (h : j < n) : (x.take n).getD j d = x.getD j d := by
  simp only [List.getD_eq_getElem?_getD, List.getElem?_take, if_pos h]
theorem getD_drop {α : Type} {x : List α} {n j : Nat} {d : α} : (x.drop n).getD j d = x.getD (n + j) d := by
  simp only [List.getD_eq_getElem?_getD, List.getElem?_drop]
theorem getD_mem {α : Type} {x : List α} {j : Nat} {d : α} (h : j < x.length) : x.getD j d ∈ x := by
  rw [List.getD_eq_getElem?_getD, List.getElem?_eq_getElem h]; simp
theorem mem_getD {α : Type} {x : List α} {v : α} (d : α) (h : v ∈ x) : ∃ j, j < x.length ∧ x.getD j d = v := by
  obtain ⟨j, hj, rfl⟩ := List.getElem_of_mem h
  exact ⟨j, hj, by rw [List.getD_eq_getElem?_getD, List.getElem?_eq_getElem hj]; rfl⟩
theorem ext_getD {α : Type} {x y : List α} (d : α) (hl : x.length = y.length) (h : ∀ j, j < x.length → x.getD j d = y.getD j d) : x = y := by
  apply List.ext_getElem hl
  intro j h1 h2
  have := h j h1
  rwa [List.getD_eq_getElem?_getD, List.getD_eq_getElem?_getD, List.getElem?_eq_getElem h1, List.getElem?_eq_getElem h2] at this
theorem take_snoc {α : Type} {x : List α} {i : Nat} (d : α) (h : i < x.length) : x.take (i + 1) = x.take i ++ [x.getD i d] := by
  rw [List.take_add_one, List.getElem?_eq_getElem h, List.getD_eq_getElem?_getD, List.getElem?_eq_getElem h]; rfl

/-! whole numbers of the machine -/
/-- A number of 64 bits. -/
def R64 (z : Int) : Prop := -9223372036854775808 ≤ z ∧ z ≤ 9223372036854775807
theorem w64_id {z : Int} (h : R64 z) : w64 z = z := wrap_i64 h
theorem apOk_t {b n : Nat} (h : n * b ≤ 140737488355328) : apOk b n = true := by
  simp only [apOk, Nat.ble_eq]; exact h
theorem mkOk_t {b : Nat} {n : Int} (h0 : 0 ≤ n) (h : n.toNat * b ≤ 140737488355328) : mkOk b n n = true := by
  simp only [mkOk, Bool.and_eq_true, decide_eq_true_eq, Nat.ble_eq]; exact ⟨⟨h0, Int.le_refl _⟩, h⟩
theorem strOk_t {n : Nat} (h : n ≤ 140737488355328) : strOk n = true := by simp only [strOk, Nat.ble_eq]; exact h
theorem slOk_t {lo hi : Int} {n : Nat} (h0 : 0 ≤ lo) (h1 : lo ≤ hi) (h2 : hi ≤ n) : slOk lo hi n = true := by
  simp only [slOk, Bool.and_eq_true, decide_eq_true_eq]; exact ⟨⟨h0, h1⟩, h2⟩

/-! maps -/
theorem mget_mset {α β : Type} [DecidableEq α] (x : List (α × β)) (k q : α) (v : β) : mget (mset x k v) q = if q = k then some v else mget x q := by
  induction x with
  | nil => simp [mset, mget]
  | cons p r ih =>
    simp only [mset]
    by_cases h : k = p.1
    · rw [if_pos h]
      simp only [mget]
      by_cases h1 : q = k
      · rw [if_pos h1, if_pos h1]
      · rw [if_neg h1, if_neg h1, if_neg (by rw [← h]; exact h1)]
    · rw [if_neg h]
      simp only [mget]
      by_cases h1 : q = p.1
      · rw [if_pos h1, if_pos h1, if_neg (by rw [h1]; exact fun e => h e.symm)]
      · rw [if_neg h1, if_neg h1]; exact ih
end Go.Ab


set_option linter.unusedVariables false
namespace Go.Ab

/-! lists of numbers, in order -/
def insI (x : Int) : List Int → List Int
  | [] => [x]
  | y :: r => bif decide (x ≤ y) then x :: y :: r else y :: insI x r
def isortI : List Int → List Int
  | [] => []
  | x :: r => insI x (isortI r)
theorem insI_perm (x : Int) : ∀ l : List Int, (insI x l).Perm (x :: l) := by
  intro l
  induction l with
  | nil => exact List.Perm.refl _
  | cons y r ih =>
    unfold insI
    cases decide (x ≤ y)
    · exact (List.Perm.cons _ ih).trans (List.Perm.swap _ _ _)
    · exact List.Perm.refl _
theorem isortI_perm : ∀ l : List Int, (isortI l).Perm l := by
  intro l
  induction l with
  | nil => exact List.Perm.refl _
  | cons x r ih => exact (insI_perm x _).trans (List.Perm.cons _ ih)
theorem insI_sorted (x : Int) : ∀ l : List Int, l.Pairwise (· ≤ ·) → (insI x l).Pairwise (· ≤ ·) := by
  intro l
  induction l with
  | nil => intro _; simp [insI]
  | cons y r ih =>
    intro h
    rw [List.pairwise_cons] at h
    unfold insI
    cases hc : decide (x ≤ y) with
    | false =>
      rw [cond_false, List.pairwise_cons]
      refine ⟨fun z hz => ?_, ih h.2⟩
      have h1 : ¬ x ≤ y := of_decide_eq_false hc
      rcases List.mem_cons.1 ((insI_perm x r).mem_iff.1 hz) with rfl | hz
      · omega
      · exact h.1 z hz
    | true =>
      have h1 : x ≤ y := of_decide_eq_true hc
      rw [cond_true, List.pairwise_cons]
      refine ⟨fun z hz => ?_, List.pairwise_cons.2 h⟩
      rcases List.mem_cons.1 hz with rfl | hz
      · exact h1
      · have := h.1 z hz; omega
theorem isortI_sorted : ∀ l : List Int, (isortI l).Pairwise (· ≤ ·) := by
  intro l
  induction l with
  | nil => simp [isortI]
  | cons x r ih => exact insI_sorted x _ ih
theorem sorted_uniq : ∀ {a b : List Int}, a.Perm b → a.Pairwise (· ≤ ·) → b.Pairwise (· ≤ ·) → a = b := by
  intro a
  induction a with
  | nil => intro b hp _ _; exact (List.nil_perm.1 hp).symm
  | cons x a ih =>
    intro b hp ha hb
    cases b with
    | nil => exact absurd (List.nil_perm.1 hp.symm) (by simp)
    | cons y b =>
      rw [List.pairwise_cons] at ha hb
      have h1 : x ≤ y := by
        rcases List.mem_cons.1 (hp.mem_iff.2 (List.mem_cons_self (a := y) (l := b))) with h | h
        · omega
        · exact ha.1 y h
      have h2 : y ≤ x := by
        rcases List.mem_cons.1 (hp.mem_iff.1 (List.mem_cons_self (a := x) (l := a))) with h | h
        · omega
        · exact hb.1 x h
      have h3 : x = y := by omega
      subst h3
      rw [ih ((List.perm_cons x).1 hp) ha.2 hb.2]
theorem isort_eq (l : List Int) : (l.mergeSort fun x y => decide (x ≤ y)) = isortI l := by
  refine sorted_uniq ((List.mergeSort_perm _ _).trans (isortI_perm l).symm) ?_ (isortI_sorted l)
  have := List.pairwise_mergeSort (le := fun (x y : Int) => decide (x ≤ y)) (by intro a b c h1 h2; simp at *; omega) (by intro a b; simp; omega) l
  exact this.imp (fun h => by simpa using h)
/-- Each number once of those that stand side by side. -/
def compI (z : List Int) : List Int := ((List.range z.length).filter fun j => decide (j = 0) || !decide (z.getD j 0 = z.getD (j - 1) 0)).map fun j => z.getD j 0

/-! lists in order by a key -/
end Go.Ab


set_option linter.unusedVariables false
namespace Go.Ab
def f73 (p0_0 : List Int) : Option (List Int) := bif Nat.blt p0_0.length 4611686018427387904 then some (isortI p0_0) else none
def f83 (p0_0 : List Int) : Option (List Int) := bif Nat.ble p0_0.length 9223372036854775807 then some (compI p0_0) else none
end Go.Ab


set_option linter.unusedVariables false
namespace Go.Ab
/-! texts of the library -/
def fItoa (n : Int) : Option Str := bif decide (-9223372036854775808 ≤ n) && decide (n ≤ 9223372036854775807) then some (Lib.itoa n) else none
end Go.Ab


namespace Go.Ab
/-- Rounds that suffice where each takes one of at most 100002 cuts from a list. -/
def cutFuel : Nat := 200010
end Go.Ab

