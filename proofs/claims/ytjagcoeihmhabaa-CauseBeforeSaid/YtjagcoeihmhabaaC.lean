/- Lemmas for a law of the seat: what functions of the program do, each stated as a contract of its own (C). -/
import Derived.Test.YtjagcoeihmhabaaTAd
import Derived.Test.YtjagcoeihmhabaaPu
set_option linter.unusedVariables false
set_option linter.unusedSimpArgs false
namespace Go.Ab
theorem f8_t : f8 = some true := by decide +kernel
/-- slices.ContainsFunc -/
theorem f75_any (p : List Int) (P : Int → Bool) : f75 p (fun y => some (P y)) = some (p.any P) := by
  unfold f75 f86
  rw [toNat_len]
  rcases rng_ex0 (g := f86_b0 p fun y => some (P y)) (n := p.length) (s := ()) (fun i _ => ∀ j, (hj : j < p.length) → j < i → P p[j] = false) (fun r : Int => 0 ≤ r ∧ ∃ x ∈ p, P x = true) (fun i s hi hs => by
    unfold f86_b0
    rw [ix_nat hi]
    simp only [Option.bind_some]
    cases hP : P p[i] with
    | true => right; exact ⟨i, rfl, by omega, p[i], by simp, hP⟩
    | false =>
      left
      refine ⟨(), rfl, fun j hj hji => ?_⟩
      by_cases e : j = i
      · subst e; exact hP
      · exact hs j hj (by omega)) (by intro j _ h; omega) with ⟨s', h1, h2⟩ | ⟨r, h1, h2, x, hx, hP⟩
  · rw [h1]
    simp only [Option.bind_some]
    congr 1
    have : p.any P = false := by
      rw [List.any_eq_false]
      intro x hx
      obtain ⟨j, hj, rfl⟩ := List.getElem_of_mem hx
      simp [h2 j hj hj]
    rw [this]; decide
  · rw [h1]
    simp only [Option.bind_some]
    congr 1
    have : p.any P = true := List.any_eq_true.2 ⟨x, hx, hP⟩
    rw [this]; simp [h2]
theorem f45_eq (a b : List Int) : f45 a b = some (decide (a.length = b.length) && decide (1 ≤ a.length) && decide (a.length ≤ 16) && !a.any (fun x => decide (x < 0)) && !b.any (fun x => decide (x < 0))) := by
  unfold f45
  have e : ∀ p : List Int, f75 p (fun y1 => f79 y1) = some (p.any fun x => decide (x < 0)) := fun p => f75_any p _
  simp only [e, Option.isSome_some, Bool.or_true, cond_true, Option.getD_some]
  have e1 : decide ((a.length : Int) = (b.length : Int)) = decide (a.length = b.length) := decide_eq_decide.2 (by omega)
  have e2 : decide (1 ≤ (a.length : Int)) = decide (1 ≤ a.length) := decide_eq_decide.2 (by omega)
  have e3 : decide ((a.length : Int) ≤ 16) = decide (a.length ≤ 16) := decide_eq_decide.2 (by omega)
  rw [e1, e2, e3]
abbrev neg (x : Int) : Bool := decide (x < 0)
theorem f47_in (x : List Int) : rng (f47_b1 x) x.length 0 () = some (if x.any neg then .inr () else .inl ()) := by
  rcases rng_ex0 (g := f47_b1 x) (n := x.length) (s := ()) (fun i _ => ∀ j, (hj : j < x.length) → j < i → neg x[j] = false) (fun r : Unit => ∃ y ∈ x, neg y = true) (fun i s hi hs => by
    unfold f47_b1
    rw [ix_nat hi]
    simp only [Option.bind_some]
    cases hP : neg x[i] with
    | true => right; exact ⟨(), by simp [hP], x[i], by simp, hP⟩
    | false =>
      left
      refine ⟨(), by simp [hP], fun j hj hji => ?_⟩
      by_cases e : j = i
      · subst e; exact hP
      · exact hs j hj (by omega)) (by intro j _ h; omega) with ⟨s', h1, h2⟩ | ⟨r, h1, y, hy, hP⟩
  · rw [h1]
    have : x.any neg = false := by
      rw [List.any_eq_false]
      intro y hy
      obtain ⟨j, hj, rfl⟩ := List.getElem_of_mem hy
      simp [h2 j hj hj]
    rw [if_neg (by rw [this]; simp)]
  · rw [h1, if_pos (List.any_eq_true.2 ⟨y, hy, hP⟩)]
theorem f47_two (a b : List Int) : f47 (a.length : Int) [a, b] = some (!a.any neg && (decide ((b.length : Int) = a.length) && !b.any neg)) := by
  unfold f47
  have e0 : ∀ x : List Int, rng (f47_b1 x) (Int.toNat (x.length : Int)) 0 () = some (if x.any neg then .inr () else .inl ()) := fun x => by rw [toNat_len]; exact f47_in x
  have g0 : f47_b0 (a.length : Int) [a, b] 0 () = some (if a.any neg then .inr () else .inl ()) := by
    unfold f47_b0
    have : ix [a, b] 0 = some a := rfl
    rw [this]
    simp only [Option.bind_some]
    rw [e0 a]
    cases a.any neg <;> simp
  have g1 : f47_b0 (a.length : Int) [a, b] 1 () = some (if decide ((b.length : Int) = a.length) && !b.any neg then .inl () else .inr ()) := by
    unfold f47_b0
    have : ix [a, b] 1 = some b := rfl
    rw [this]
    simp only [Option.bind_some]
    rw [e0 b]
    cases decide ((b.length : Int) = a.length) <;> cases b.any neg <;> simp
  have hl : Int.toNat (List.length [a, b] : Int) = 2 := rfl
  rw [hl]
  simp only [rng, g0]
  cases a.any neg
  · simp only [Option.bind_some, Int.zero_add, Bool.false_eq_true, if_false, g1]
    cases decide ((b.length : Int) = a.length) <;> cases b.any neg <;> simp
  · simp
/-- What both ask of two clocks. -/
def okC (a b : List Int) : Bool := decide (a.length = b.length) && decide (1 ≤ a.length) && decide (a.length ≤ 16) && !a.any neg && !b.any neg
theorem ask_eq (a b : List Int) : (decide (1 ≤ (a.length : Int)) && decide ((a.length : Int) ≤ 16) && (!a.any neg && (decide ((b.length : Int) = a.length) && !b.any neg))) = okC a b := by
  unfold okC
  have e1 : decide (1 ≤ (a.length : Int)) = decide (1 ≤ a.length) := decide_eq_decide.2 (by omega)
  have e2 : decide ((a.length : Int) ≤ 16) = decide (a.length ≤ 16) := decide_eq_decide.2 (by omega)
  have e3 : decide ((b.length : Int) = a.length) = decide (a.length = b.length) := decide_eq_decide.2 (by omega)
  rw [e1, e2, e3]
  cases decide (1 ≤ a.length) <;> cases decide (a.length ≤ 16) <;> cases a.any neg <;> cases decide (a.length = b.length) <;> cases b.any neg <;> rfl
theorem f9_b (a b : List Int) : f9_b0 a b = f10_b0 a b := rfl
theorem f45_ok (a b : List Int) : f45 a b = some (okC a b) := f45_eq a b
theorem f46_ok (a : List Int) : f46 a = some (decide (1 ≤ (a.length : Int)) && decide ((a.length : Int) ≤ 16)) := rfl
theorem f9_bad {a b : List Int} (h : okC a b = false) : f9 a b = some (0, 1) := by
  unfold f9; rw [f45_ok, h]; rfl
theorem f10_eq (a b : List Int) : f10 a b = f9 a b := by
  have h := ask_eq a b
  cases hk : okC a b with
  | false =>
    rw [f9_bad hk]
    rw [hk] at h
    unfold f10
    rw [f46_ok, f47_two]
    generalize (decide (1 ≤ (a.length : Int)) && decide ((a.length : Int) ≤ 16)) = p at *
    generalize (!a.any neg && (decide ((b.length : Int) = a.length) && !b.any neg)) = q at *
    cases p <;> cases q <;> first | rfl | exact absurd h (by decide)
  | true =>
    rw [hk] at h
    unfold f10 f9
    rw [f46_ok, f47_two, f45_ok, hk, ← f9_b]
    generalize (decide (1 ≤ (a.length : Int)) && decide ((a.length : Int) ≤ 16)) = p at *
    generalize (!a.any neg && (decide ((b.length : Int) = a.length) && !b.any neg)) = q at *
    cases p <;> cases q <;> first | rfl | exact absurd h (by decide)
end Go.Ab

set_option linter.unusedVariables false
set_option linter.unusedSimpArgs false
namespace Go.Ab
theorem f13_refl (a : List Int) : f13 a a = some true := by
  unfold f13
  rw [toNat_len]
  obtain ⟨s', h1, _⟩ := rng_inv (g := f13_b0 a a) (n := a.length) (s := ()) (fun _ _ => True) (fun i s hi _ => ⟨(), by
    unfold f13_b0
    rw [ix_nat hi]
    simp, trivial⟩) trivial
  simp [h1]
def mx (a b : List Int) : List Int := List.zipWith max a b
theorem mx_len {a b : List Int} (h : a.length = b.length) : (mx a b).length = a.length := by simp [mx, List.length_zipWith]; omega
theorem mx_take {a b : List Int} {i : Nat} (h : a.length = b.length) (hi : i < a.length) : (mx a b).take (i + 1) = (mx a b).take i ++ [max (a[i]) (b[i]'(by omega))] := by
  rw [List.take_add_one]
  congr 1
  have : (mx a b)[i]? = some (max (a[i]) (b[i]'(by omega))) := by
    unfold mx
    rw [List.getElem?_zipWith]
    simp [hi, show i < b.length by omega]
  rw [this]; rfl
theorem f12_loop {a b : List Int} (h : a.length = b.length) (h16 : a.length ≤ 16) : rng (f12_b0 a b) a.length 0 [] = some (.inl (mx a b)) := by
  obtain ⟨s', h1, h2⟩ := rng_inv (g := f12_b0 a b) (n := a.length) (s := ([] : List Int)) (fun i s => s = (mx a b).take i) (fun i s hi hs => by
    have hib : i < b.length := by omega
    have hsl : s.length = i := by rw [hs, List.length_take, mx_len h]; omega
    refine ⟨s ++ [max (a[i]) (b[i]'hib)], ?_, ?_⟩
    · unfold f12_b0
      rw [ix_nat hi, ix_nat hib]
      simp only [Option.bind_some]
      have : apOk 8 (s.length + [max (a[i]) (b[i]'hib)].length) = true := by
        simp only [apOk, List.length_singleton, hsl, Nat.ble_eq]
        have h47 : cap47 = 140737488355328 := rfl
        omega
      rw [this]; rfl
    · rw [hs, mx_take h hi]) (by simp)
  rw [h1, h2, List.take_of_length_le (by rw [mx_len h]; omega)]
theorem f48_ok {a b : List Int} (h : a.length = b.length) (h16 : a.length ≤ 16) : f48 a b = some (mx a b) := by
  have e : f68 a = some a := by
    unfold f68
    have : apOk 8 (([] : List Int).length + a.length) = true := by
      simp only [apOk, List.length_nil, Nat.ble_eq]
      have h47 : cap47 = 140737488355328 := rfl
      omega
    rw [this]; rfl
  unfold f48
  rw [e]
  simp only [Option.bind_some, toNat_len]
  obtain ⟨s', h1, h2⟩ := rng_inv (g := f48_b0 b) (n := a.length) (s := a) (fun i s => s = (mx a b).take i ++ a.drop i) (fun i s hi hs => by
    have hml := mx_len h
    have hib : i < b.length := by omega
    have hsl : s.length = a.length := by rw [hs, List.length_append, List.length_take, List.length_drop, hml]; omega
    have hsi : s[i]'(by omega) = a[i] := by
      have : s[i]? = some a[i] := by
        rw [hs, List.getElem?_append_right (by rw [List.length_take, hml]; omega), List.length_take, hml, Nat.min_eq_left (by omega), Nat.sub_self, List.getElem?_drop]
        simp [hi]
      rw [List.getElem?_eq_getElem (by omega)] at this
      exact Option.some.inj this
    refine ⟨s.set i (max (a[i]) (b[i]'hib)), ?_, ?_⟩
    · unfold f48_b0
      rw [ix_nat (show i < s.length by omega), ix_nat hib, hsi]
      simp
    · rw [hs, mx_take h hi, List.set_append_right _ _ (by rw [List.length_take, hml]; omega), List.length_take, hml, Nat.min_eq_left (by omega), Nat.sub_self, List.append_assoc]
      congr 1
      rw [List.drop_eq_getElem_cons hi]
      rfl) (by simp)
  rw [h1, h2]
  simp only [Option.bind_some]
  rw [List.take_of_length_le (by rw [mx_len h]; omega), List.drop_eq_nil_of_le (Nat.le_refl _), List.append_nil]
theorem okC_len {a b : List Int} (h : okC a b = true) : a.length = b.length ∧ a.length ≤ 16 := by
  simp only [okC, Bool.and_eq_true, decide_eq_true_eq] at h
  exact ⟨h.1.1.1.1, h.1.1.2⟩
theorem f11_eq (a b : List Int) : f11 a b = some (if okC a b then (mx a b, 0) else ([], 1)) := by
  unfold f11
  rw [f45_ok]
  cases hk : okC a b with
  | false => rfl
  | true =>
    obtain ⟨h1, h2⟩ := okC_len hk
    simp [f48_ok h1 h2]
theorem f12_eq (a b : List Int) : f12 a b = some (if okC a b then (mx a b, 0) else ([], 1)) := by
  have h := ask_eq a b
  unfold f12
  rw [f46_ok, f47_two]
  cases hk : okC a b with
  | false =>
    rw [hk] at h
    generalize (decide (1 ≤ (a.length : Int)) && decide ((a.length : Int) ≤ 16)) = p at *
    generalize (!a.any neg && (decide ((b.length : Int) = a.length) && !b.any neg)) = q at *
    cases p <;> cases q <;> first | rfl | exact absurd h (by decide)
  | true =>
    obtain ⟨h1, h2⟩ := okC_len hk
    rw [hk] at h
    rw [toNat_len, f12_loop h1 h2]
    generalize (decide (1 ≤ (a.length : Int)) && decide ((a.length : Int) ≤ 16)) = p at *
    generalize (!a.any neg && (decide ((b.length : Int) = a.length) && !b.any neg)) = q at *
    cases p <;> cases q <;> first | rfl | exact absurd h (by decide)
theorem f9_some (a b : List Int) : ∃ r, f9 a b = some r := by
  cases hk : okC a b with
  | false => exact ⟨_, f9_bad hk⟩
  | true =>
    obtain ⟨h1, h2⟩ := okC_len hk
    unfold f9
    rw [f45_ok, hk, toNat_len]
    obtain ⟨⟨s1, s2⟩, g1, _⟩ := rng_inv (g := f9_b0 a b) (n := a.length) (s := (false, false)) (fun _ _ => True) (fun i s hi _ => by
      obtain ⟨s5, s6⟩ := s
      have hib : i < b.length := by omega
      refine ⟨(s5 || decide (a[i] < b[i]), s6 || decide (b[i] < a[i])), ?_, trivial⟩
      unfold f9_b0
      rw [ix_nat hi, ix_nat hib]
      simp only [Option.isSome_some, Bool.or_true, cond_true, Option.getD_some]) trivial
    simp only [g1, Option.bind_some, Bool.not_true, cond_false]
    cases s1 <;> cases s2 <;> exact ⟨_, rfl⟩
/-- CauseNumbers returns true. -/
theorem f3_t (a b : List Int) : f3 a b = some true := by
  unfold f3
  rw [f8_t, f10_eq, f11_eq, f12_eq]
  obtain ⟨r, hr⟩ := f9_some a b
  rw [hr]
  cases (decide (50 < (a.length : Int)) || decide (50 < (b.length : Int)))
  · simp only [cond_false, Option.bind_some, f13_refl, Option.isSome_some, Bool.or_true, cond_true, Option.getD_some, decide_true, Bool.and_true]
  · rfl
end Go.Ab

set_option linter.unusedVariables false
namespace Go.Ab

/-! layer 29: what is before what, over lists of events alone -/
abbrev Act := Int × Int × Int × Int × Str
def nd (l : List Act) (i : Nat) : Int := (l.getD i default).1
def kd (l : List Act) (i : Nat) : Int := (l.getD i default).2.1
def ms (l : List Act) (i : Nat) : Int := (l.getD i default).2.2.1
def cl (l : List Act) (i : Nat) : Int := (l.getD i default).2.2.2.1

/-- An event is directly before another one. -/
def Dir (l : List Act) (a b : Nat) : Prop := (kd l a = 2 ∧ kd l b = 3 ∧ ms l a = ms l b) ∨ (a < b ∧ nd l a = nd l b ∧ ∀ x, a < x → x < b → nd l x ≠ nd l a)
/-- An event is before another one. -/
inductive Pst (l : List Act) : Nat → Nat → Prop
  | dir {a b : Nat} : a < b → Dir l a b → Pst l a b
  | step {a b c : Nat} : a < b → Dir l a b → Pst l c a → Pst l c b
theorem Pst.lt {l : List Act} {a b : Nat} (h : Pst l a b) : a < b := by
  induction h with
  | dir h _ => exact h
  | step h _ _ ih => omega
theorem Pst.trans {l : List Act} {a b c : Nat} (h : Pst l a b) (k : Pst l b c) : Pst l a c := by
  induction k with
  | dir h1 h2 => exact .step h1 h2 h
  | step h1 h2 _ ih => exact .step h1 h2 (ih h)
theorem pst_iff {l : List Act} {c b : Nat} : Pst l c b ↔ ∃ a, a < b ∧ Dir l a b ∧ (c = a ∨ Pst l c a) := by
  constructor
  · intro h
    cases h with
    | dir h1 h2 => exact ⟨c, h1, h2, .inl rfl⟩
    | step h1 h2 h3 => exact ⟨_, h1, h2, .inr h3⟩
  · rintro ⟨a, h1, h2, rfl | h3⟩
    · exact .dir h1 h2
    · exact .step h1 h2 h3
/-- Events of a node are one before the other. -/
theorem pst_node {l : List Act} : ∀ (d i j : Nat), j - i = d → i < j → nd l i = nd l j → Pst l i j := by
  intro d
  induction d using Nat.strongRecOn with
  | _ d ih =>
    intro i j hd hij hn
    by_cases hx : ∃ x, i < x ∧ x < j ∧ nd l x = nd l i
    · obtain ⟨x, h1, h2, h3⟩ := hx
      have a := ih (x - i) (by omega) i x rfl h1 h3.symm
      have b := ih (j - x) (by omega) x j rfl h2 (h3.trans hn)
      exact a.trans b
    · exact .dir hij (.inr ⟨hij, hn, fun x h1 h2 h3 => hx ⟨x, h1, h2, h3⟩⟩)
theorem pst_same {l : List Act} {i j : Nat} (h : i < j) (hn : nd l i = nd l j) : Pst l i j := pst_node _ i j rfl h hn

/-- How many of the first events are of a node. -/
def cnt (l : List Act) (p : Int) : Nat → Nat
  | 0 => 0
  | k + 1 => cnt l p k + if nd l k = p then 1 else 0
theorem cnt_mono {l : List Act} {p : Int} {a b : Nat} (h : a ≤ b) : cnt l p a ≤ cnt l p b := by
  induction b with
  | zero => rw [Nat.le_zero.1 h]; exact Nat.le_refl _
  | succ b ih =>
    rcases Nat.lt_or_ge a (b + 1) with h1 | h1
    · exact Nat.le_trans (ih (by omega)) (by simp only [cnt]; omega)
    · rw [show a = b + 1 by omega]; exact Nat.le_refl _
theorem cnt_le {l : List Act} {p : Int} {a : Nat} : cnt l p a ≤ a := by
  induction a with
  | zero => exact Nat.le_refl _
  | succ a ih => simp only [cnt]; split <;> omega
/-- The number of an event among those of its node, from 1 on. -/
def idx (l : List Act) (j : Nat) : Nat := cnt l (nd l j) (j + 1)
theorem idx_eq {l : List Act} {j : Nat} : idx l j = cnt l (nd l j) j + 1 := by simp [idx, cnt]
theorem idx_pos {l : List Act} {j : Nat} : 1 ≤ idx l j := by rw [idx_eq]; omega
theorem idx_lt {l : List Act} {i j : Nat} (h : i < j) (hn : nd l i = nd l j) : idx l i < idx l j := by
  rw [idx_eq (j := j)]
  have : idx l i ≤ cnt l (nd l j) j := by rw [← hn]; exact cnt_mono (by omega)
  omega
theorem idx_inj {l : List Act} {i j : Nat} (hn : nd l i = nd l j) (h : idx l i = idx l j) : i = j := by
  rcases Nat.lt_trichotomy i j with h1 | h1 | h1
  · have := idx_lt h1 hn; omega
  · exact h1
  · have := idx_lt h1 hn.symm; omega
theorem idx_lt_iff {l : List Act} {i j : Nat} (hn : nd l i = nd l j) : idx l i < idx l j ↔ i < j := by
  constructor
  · intro h
    rcases Nat.lt_trichotomy i j with h1 | h1 | h1
    · exact h1
    · subst h1; omega
    · have := idx_lt h1 hn.symm; omega
  · exact fun h => idx_lt h hn
theorem idx_tot {l : List Act} {j N : Nat} (h : j < N) : idx l j ≤ cnt l (nd l j) N := cnt_mono h
/-- Every number is an event's. -/
theorem idx_ex {l : List Act} {p : Int} {m : Nat} : ∀ {N : Nat}, 1 ≤ m → m ≤ cnt l p N → ∃ j, j < N ∧ nd l j = p ∧ idx l j = m := by
  intro N
  induction N with
  | zero => intro h1 h2; simp only [cnt] at h2; omega
  | succ N ih =>
    intro h1 h2
    by_cases h : m ≤ cnt l p N
    · obtain ⟨j, a, b, c⟩ := ih h1 h
      exact ⟨j, by omega, b, c⟩
    · simp only [cnt] at h2
      split at h2
      · rename_i hn
        refine ⟨N, by omega, hn, ?_⟩
        rw [idx_eq, hn]; omega
      · omega

/-- A list is an event's clock. -/
structure IsClock (n : Nat) (l : List Act) (b : Nat) (c : List Int) : Prop where
  len : c.length = n
  rg : ∀ p, p < n → 0 ≤ c.getD p 0 ∧ c.getD p 0 ≤ cnt l p l.length
  iff : ∀ j, j < l.length → ((j = b ∨ Pst l j b) ↔ (idx l j : Int) ≤ c.getD (nd l j).toNat 0)
theorem IsClock.uniq {n : Nat} {l : List Act} {b : Nat} {c d : List Int} (h : IsClock n l b c) (k : IsClock n l b d) : c = d := by
  have key : ∀ {c d : List Int}, IsClock n l b c → IsClock n l b d → ∀ p, p < n → c.getD p 0 ≤ d.getD p 0 := by
    intro c d h k p hp
    have h1 := h.rg p hp
    have h2 := k.rg p hp
    rcases Int.lt_or_le 0 (c.getD p 0) with h3 | h3
    · obtain ⟨j, h4, h5, h6⟩ := idx_ex (l := l) (p := (p : Int)) (m := (c.getD p 0).toNat) (N := l.length) (by omega) (by omega)
      have h7 := (h.iff j h4).2 (by rw [h5, h6, Int.toNat_natCast]; omega)
      have h8 := (k.iff j h4).1 h7
      rw [h5, h6, Int.toNat_natCast] at h8
      omega
    · omega
  refine ext_getD 0 (h.len.trans k.len.symm) fun p hp => ?_
  rw [h.len] at hp
  exact Int.le_antisymm (key h k p hp) (key k h p hp)
/-- An event's own number in its clock. -/
theorem IsClock.self {n : Nat} {l : List Act} {b : Nat} {c : List Int} (h : IsClock n l b c) (hb : b < l.length) (hn : 0 ≤ nd l b ∧ nd l b < n) : c.getD (nd l b).toNat 0 = idx l b := by
  have h1 := (h.iff b hb).1 (.inl rfl)
  have h2 := h.rg (nd l b).toNat (by omega)
  rw [show (((nd l b).toNat : Nat) : Int) = nd l b by omega] at h2
  rcases Int.lt_or_le (idx l b : Int) (c.getD (nd l b).toNat 0) with h3 | h3
  · obtain ⟨j, h4, h5, h6⟩ := idx_ex (l := l) (p := nd l b) (m := (c.getD (nd l b).toNat 0).toNat) (N := l.length) (by omega) (by omega)
    have h7 := (h.iff j h4).2 (by rw [h5, h6]; omega)
    rcases h7 with h7 | h7
    · subst h7; omega
    · have := idx_lt h7.lt h5; omega
  · omega
/-- What is before what, by the clocks. -/
theorem IsClock.before {n : Nat} {l : List Act} {a b : Nat} {c d : List Int} (h : IsClock n l a c) (k : IsClock n l b d) (ha : a < l.length) (hn : 0 ≤ nd l a ∧ nd l a < n) : (a = b ∨ Pst l a b) ↔ c.getD (nd l a).toNat 0 ≤ d.getD (nd l a).toNat 0 := by
  rw [h.self ha hn]; exact k.iff a ha
/-- Clocks go up along what is before what. -/
theorem IsClock.le {n : Nat} {l : List Act} {a b : Nat} {c d : List Int} (h : IsClock n l a c) (k : IsClock n l b d) (hab : Pst l a b) {p : Nat} (hp : p < n) : c.getD p 0 ≤ d.getD p 0 := by
  have h1 := h.rg p hp
  have h2 := k.rg p hp
  rcases Int.lt_or_le 0 (c.getD p 0) with h3 | h3
  · obtain ⟨j, h4, h5, h6⟩ := idx_ex (l := l) (p := (p : Int)) (m := (c.getD p 0).toNat) (N := l.length) (by omega) (by omega)
    have h7 := (h.iff j h4).2 (by rw [h5, h6, Int.toNat_natCast]; omega)
    have h8 : j = b ∨ Pst l j b := by
      rcases h7 with rfl | h7
      · exact .inr hab
      · exact .inr (h7.trans hab)
    have h9 := (k.iff j h4).1 h8
    rw [h5, h6, Int.toNat_natCast] at h9
    omega
  · omega

/-- The clock of an event out of those directly before it. -/
theorem isClock_step {n : Nat} {l : List Act} {b : Nat} {m c : List Int} (hb : b < l.length) (hn : ∀ i, i < l.length → 0 ≤ nd l i ∧ nd l i < n) (hlen : m.length = n)
    (hm0 : ∀ p, p < n → 0 ≤ m.getD p 0)
    (hge : ∀ k ck, k < b → Dir l k b → IsClock n l k ck → ∀ p, p < n → ck.getD p 0 ≤ m.getD p 0)
    (hle : ∀ p, p < n → 0 < m.getD p 0 → ∃ k ck, k < b ∧ Dir l k b ∧ IsClock n l k ck ∧ m.getD p 0 = ck.getD p 0)
    (hck : ∀ k, k < b → Dir l k b → ∃ ck, IsClock n l k ck)
    (hc : c = m.set (nd l b).toNat (m.getD (nd l b).toNat 0 + 1)) : IsClock n l b c := by
  have hnb := hn b hb
  have hset : ∀ p, c.getD p 0 = if (nd l b).toNat = p then m.getD (nd l b).toNat 0 + 1 else m.getD p 0 := fun p => by
    rw [hc]; exact getD_set (by omega)
  -- what is before the event, by 'm'
  have hpm : ∀ j, j < l.length → (Pst l j b ↔ (idx l j : Int) ≤ m.getD (nd l j).toNat 0) := by
    intro j hj
    have hnj := hn j hj
    constructor
    · intro h
      obtain ⟨a, h1, h2, h3⟩ := pst_iff.1 h
      obtain ⟨ck, h4⟩ := hck a h1 h2
      exact Int.le_trans ((h4.iff j hj).1 h3) (hge a ck h1 h2 h4 _ (by omega))
    · intro h
      have := idx_pos (l := l) (j := j)
      obtain ⟨k, ck, h1, h2, h3, h4⟩ := hle (nd l j).toNat (by omega) (by omega)
      rw [h4] at h
      exact pst_iff.2 ⟨k, h1, h2, (h3.iff j hj).2 h⟩
  -- the event's own number
  have hself : m.getD (nd l b).toNat 0 = cnt l (nd l b) b := by
    apply Int.le_antisymm
    · rcases Int.lt_or_le 0 (m.getD (nd l b).toNat 0) with h3 | h3
      · obtain ⟨k, ck, h1, h2, h4, h5⟩ := hle (nd l b).toNat (by omega) h3
        have h6 := h4.rg (nd l b).toNat (by omega)
        rw [show (((nd l b).toNat : Nat) : Int) = nd l b by omega] at h6
        obtain ⟨j, h7, h8, h9⟩ := idx_ex (l := l) (p := nd l b) (m := (m.getD (nd l b).toNat 0).toNat) (N := l.length) (by omega) (by omega)
        have h10 := (hpm j h7).2 (by rw [h8, h9]; omega)
        have h11 := idx_lt h10.lt h8
        rw [idx_eq (j := b)] at h11
        omega
      · omega
    · by_cases hz : cnt l (nd l b) b = 0
      · rw [hz]; exact hm0 _ (by omega)
      · obtain ⟨j, h7, h8, h9⟩ := idx_ex (l := l) (p := nd l b) (m := cnt l (nd l b) b) (N := b) (by omega) (Nat.le_refl _)
        have := (hpm j (by omega)).1 (pst_same h7 h8)
        rw [h8, h9] at this; exact this
  refine ⟨by rw [hc]; simp [hlen], fun p hp => ?_, fun j hj => ?_⟩
  · rw [hset]
    split
    · rename_i e
      rw [hself]
      have := idx_tot (l := l) hb
      rw [idx_eq] at this
      subst e
      rw [show (((nd l b).toNat : Nat) : Int) = nd l b by omega]
      omega
    · refine ⟨hm0 p hp, ?_⟩
      rcases Int.lt_or_le 0 (m.getD p 0) with h3 | h3
      · obtain ⟨k, ck, h1, h2, h4, h5⟩ := hle p hp h3
        rw [h5]; exact (h4.rg p hp).2
      · omega
  · have hnj := hn j hj
    rw [hset]
    split
    · rename_i e
      have e' : nd l j = nd l b := by omega
      rw [hself]
      have h1 := idx_eq (l := l) (j := b)
      constructor
      · rintro (rfl | h)
        · omega
        · have := idx_lt h.lt e'; omega
      · intro h
        rcases Nat.lt_trichotomy j b with h2 | h2 | h2
        · exact .inr (pst_same h2 e')
        · exact .inl h2
        · have := idx_lt h2 e'.symm; omega
    · rename_i e
      rw [← hpm j hj]
      constructor
      · rintro (rfl | h)
        · exact absurd rfl e
        · exact h
      · exact fun h => .inr h
end Go.Ab

set_option linter.unusedVariables false
namespace Go.Ab

/-! layer 29: which histories are right -/
def BadR (n : Int) (x : Act) : Prop := (x.1 < 0 ∨ n ≤ x.1) ∨ ((x.2.1 = 2 ∨ x.2.1 = 3) ∧ x.2.2.1 < 1) ∨ ((x.2.1 = 4 ∨ x.2.1 = 5) ∧ x.2.2.2.1 < 1)
def Flds (x : Act) : Prop := (((1 ≤ x.2.1 ∧ x.2.1 ≤ 5) ∧ ((x.2.1 = 2 ∨ x.2.1 = 3) ∨ x.2.2.1 = 0)) ∧ ((x.2.1 = 4 ∨ x.2.1 = 5) ∨ x.2.2.2.1 = 0)) ∧ (x.2.2.2.2.length : Int) ≤ 32
def HasS (l : List Act) (i : Nat) (m : Int) : Prop := ∃ j, j < i ∧ kd l j = 2 ∧ ms l j = m
def HasC (l : List Act) (k : Int) (i : Nat) (m : Int) : Prop := ∃ j, j < i ∧ kd l j = k ∧ cl l j = m
def Dup (l : List Act) (i : Nat) : Prop := ((kd l i = 2 ∧ HasS l i (ms l i)) ∨ (kd l i = 4 ∧ HasC l 4 i (cl l i))) ∨ (kd l i = 5 ∧ HasC l 5 i (cl l i))
def Nope (l : List Act) (i : Nat) : Prop := (kd l i = 3 ∧ ¬ HasS l i (ms l i)) ∨ (kd l i = 5 ∧ ¬ HasC l 4 i (cl l i))
def Away (l : List Act) (i : Nat) : Prop := kd l i = 5 ∧ ∃ j, j < i ∧ kd l j = 4 ∧ cl l j = cl l i ∧ nd l j ≠ nd l i
open Classical in
/-- What is wrong with an event. -/
noncomputable def code (n : Int) (l : List Act) (i : Nat) : Int :=
  if BadR n (l.getD i default) then 7 else if ¬ Flds (l.getD i default) then 10 else if Dup l i then 6 else if Nope l i then 8 else if Away l i then 9 else 0

/-- What the checker knows ahead of an event. -/
structure WInv (n : Int) (l : List Act) (i : Nat) (s : List (Int × Bool)) (b c : List (Int × Int)) : Prop where
  ok : ∀ j, j < i → code n l j = 0
  sent : ∀ m, (mget s m).getD false = true ↔ HasS l i m
  begun : ∀ m, (mget b m).isSome = true ↔ HasC l 4 i m
  node : ∀ j, j < i → kd l j = 4 → mget b (cl l j) = some (nd l j)
  over : ∀ m, (mget c m).isSome = true ↔ HasC l 5 i m

theorem f80_t (x : Act) : Tot (f80 x) fun r => (r = true ↔ Flds x) := by
  refine tot_some ?_
  simp only [Bool.and_eq_true, Bool.or_eq_true, decide_eq_true_eq, Flds]
theorem hasS_succ {l : List Act} {i : Nat} {m : Int} : HasS l (i + 1) m ↔ HasS l i m ∨ (kd l i = 2 ∧ ms l i = m) := by
  constructor
  · rintro ⟨j, h1, h2, h3⟩
    rcases Nat.lt_or_ge j i with h | h
    · exact .inl ⟨j, h, h2, h3⟩
    · rw [show j = i by omega] at h2 h3; exact .inr ⟨h2, h3⟩
  · rintro (⟨j, h1, h2, h3⟩ | ⟨h2, h3⟩)
    · exact ⟨j, by omega, h2, h3⟩
    · exact ⟨i, by omega, h2, h3⟩
theorem hasC_succ {l : List Act} {k : Int} {i : Nat} {m : Int} : HasC l k (i + 1) m ↔ HasC l k i m ∨ (kd l i = k ∧ cl l i = m) := by
  constructor
  · rintro ⟨j, h1, h2, h3⟩
    rcases Nat.lt_or_ge j i with h | h
    · exact .inl ⟨j, h, h2, h3⟩
    · rw [show j = i by omega] at h2 h3; exact .inr ⟨h2, h3⟩
  · rintro (⟨j, h1, h2, h3⟩ | ⟨h2, h3⟩)
    · exact ⟨j, by omega, h2, h3⟩
    · exact ⟨i, by omega, h2, h3⟩

theorem f49_t {n : Int} {l : List Act} {i : Nat} {s : List (Int × Bool)} {b c : List (Int × Int)} (H : WInv n l i s b c) :
    Tot (f49 n s b c (l.getD i default)) fun r => r.1 = code n l i ∧ (r.1 = 0 → WInv n l (i + 1) r.2.1 r.2.2.1 r.2.2.2) := by
  unfold f49
  have hb7 : ∀ {p : Prop}, ((7 : Int) = 0 → p) := fun h => absurd h (by decide)
  refine tot_if (fun h1 => ?_) (fun h1 => ?_)
  · simp only [Bool.or_eq_true, decide_eq_true_eq] at h1
    refine tot_some ⟨?_, hb7⟩
    rw [code, if_pos (.inl h1)]
  simp only [Bool.or_eq_false_iff, decide_eq_false_iff_not] at h1
  refine tot_if (fun h2 => ?_) (fun h2 => ?_)
  · simp only [Bool.or_eq_true, Bool.and_eq_true, decide_eq_true_eq] at h2
    refine tot_some ⟨?_, hb7⟩
    rw [code, if_pos (.inr h2)]
  have hbad : ¬ BadR n (l.getD i default) := by
    have h2' := Bool.eq_false_iff.1 h2
    simp only [ne_eq, Bool.or_eq_true, Bool.and_eq_true, decide_eq_true_eq] at h2'
    rintro (h | h)
    · rcases h with h | h
      · exact h1.1 h
      · exact h1.2 h
    · exact h2' h
  refine (f80_t _).bind fun x6 h6 => ?_
  refine tot_if (fun h3 => ?_) (fun h3 => ?_)
  · refine tot_some ⟨?_, fun h => absurd h (show ¬ (10 : Int) = 0 by decide)⟩
    have : ¬ Flds (l.getD i default) := fun h => by rw [h6.2 h] at h3; simp at h3
    rw [code, if_neg hbad, if_pos this]
  have hf : Flds (l.getD i default) := h6.1 (by simpa using h3)
  have hkd : ∀ k : Int, (decide ((l.getD i default).2.1 = k)) = decide (kd l i = k) := fun _ => rfl
  refine tot_if (fun h4 => ?_) (fun h4 => ?_)
  · refine tot_some ⟨?_, fun h => absurd h (show ¬ (6 : Int) = 0 by decide)⟩
    simp only [Bool.or_eq_true, Bool.and_eq_true, decide_eq_true_eq, H.sent, H.begun, H.over] at h4
    rw [code, if_neg hbad, if_neg (fun h => h hf), if_pos (show Dup l i from h4)]
  have hdup : ¬ Dup l i := by
    have h4' := Bool.eq_false_iff.1 h4
    simp only [ne_eq, Bool.or_eq_true, Bool.and_eq_true, decide_eq_true_eq, H.sent, H.begun, H.over] at h4'
    exact h4'
  have hn1 : ((mget s (l.getD i default).2.2.1).getD false) = false ↔ ¬ HasS l i (ms l i) := by rw [← H.sent]; simp [ms]
  have hn2 : ((mget b (l.getD i default).2.2.2.1).isSome) = false ↔ ¬ HasC l 4 i (cl l i) := by rw [← H.begun]; simp [cl]
  refine tot_if (fun h5 => ?_) (fun h5 => ?_)
  · refine tot_some ⟨?_, fun h => absurd h (show ¬ (8 : Int) = 0 by decide)⟩
    simp only [Bool.or_eq_true, Bool.and_eq_true, decide_eq_true_eq, Bool.not_eq_true', hn1, hn2] at h5
    rw [code, if_neg hbad, if_neg (fun h => h hf), if_neg hdup, if_pos (show Nope l i from h5)]
  have hnope : ¬ Nope l i := by
    have h5' := Bool.eq_false_iff.1 h5
    simp only [ne_eq, Bool.or_eq_true, Bool.and_eq_true, decide_eq_true_eq, Bool.not_eq_true', hn1, hn2] at h5'
    exact h5'
  have haway : Away l i ↔ kd l i = 5 ∧ (mget b (cl l i)).getD 0 ≠ nd l i := by
    constructor
    · rintro ⟨h, j, a1, a2, a3, a4⟩
      refine ⟨h, ?_⟩
      rw [← a3, H.node j a1 a2]; exact a4
    · rintro ⟨h, a⟩
      refine ⟨h, ?_⟩
      have : HasC l 4 i (cl l i) := Classical.byContradiction fun hc => hnope (.inr ⟨h, hc⟩)
      obtain ⟨j, a1, a2, a3⟩ := this
      refine ⟨j, a1, a2, a3, ?_⟩
      rw [← a3, H.node j a1 a2] at a; exact a
  refine tot_if (fun h7 => ?_) (fun h7 => ?_)
  · refine tot_some ⟨?_, fun h => absurd h (show ¬ (9 : Int) = 0 by decide)⟩
    simp only [Bool.and_eq_true, decide_eq_true_eq, Bool.not_eq_true', decide_eq_false_iff_not] at h7
    rw [code, if_neg hbad, if_neg (fun h => h hf), if_neg hdup, if_neg hnope, if_pos (haway.2 h7)]
  have hcode : code n l i = 0 := by
    have h7' := Bool.eq_false_iff.1 h7
    simp only [ne_eq, Bool.and_eq_true, decide_eq_true_eq, Bool.not_eq_true', decide_eq_false_iff_not] at h7'
    rw [code, if_neg hbad, if_neg (fun h => h hf), if_neg hdup, if_neg hnope, if_neg (fun h => h7' (haway.1 h))]
  have hok : ∀ j, j < i + 1 → code n l j = 0 := fun j hj => by
    rcases Nat.lt_or_ge j i with h | h
    · exact H.ok j h
    · rw [show j = i by omega]; exact hcode
  -- the maps behind the event
  have fin : ∀ {s' : List (Int × Bool)} {b' c' : List (Int × Int)}, WInv n l (i + 1) s' b' c' → Tot (some ((0 : Int), s', b', c')) fun r => r.1 = code n l i ∧ (r.1 = 0 → WInv n l (i + 1) r.2.1 r.2.2.1 r.2.2.2) := fun h => tot_some ⟨hcode.symm, fun _ => h⟩
  cases e2 : decide ((l.getD i default).2.1 = 2) with
  | true =>
    have e2' : kd l i = 2 := of_decide_eq_true e2
    refine fin ⟨hok, fun m => ?_, fun m => ?_, fun j hj hk => ?_, fun m => ?_⟩
    · rw [mget_mset, hasS_succ]
      by_cases e : m = (l.getD i default).2.2.1
      · rw [if_pos e]; simp [e2', e, ms]
      · rw [if_neg e, H.sent]
        constructor
        · exact .inl
        · rintro (h | h)
          · exact h
          · exact absurd h.2.symm e
    · rw [H.begun, hasC_succ]
      exact ⟨.inl, fun h => h.elim id fun h => absurd (e2'.symm.trans h.1) (by decide)⟩
    · rcases Nat.lt_or_ge j i with h | h
      · exact H.node j h hk
      · rw [show j = i by omega, e2'] at hk; exact absurd hk (by decide)
    · rw [H.over, hasC_succ]
      exact ⟨.inl, fun h => h.elim id fun h => absurd (e2'.symm.trans h.1) (by decide)⟩
  | false =>
    have e2' : kd l i ≠ 2 := of_decide_eq_false e2
    have hs : ∀ m, (mget s m).getD false = true ↔ HasS l (i + 1) m := fun m => by
      rw [H.sent, hasS_succ]
      exact ⟨.inl, fun h => h.elim id fun h => absurd h.1 e2'⟩
    cases e4 : decide ((l.getD i default).2.1 = 4) with
    | true =>
      have e4' : kd l i = 4 := of_decide_eq_true e4
      have hnb : ¬ HasC l 4 i (cl l i) := fun h => hdup (.inl (.inr ⟨e4', h⟩))
      refine fin ⟨hok, hs, fun m => ?_, fun j hj hk => ?_, fun m => ?_⟩
      · rw [mget_mset, hasC_succ]
        by_cases e : m = (l.getD i default).2.2.2.1
        · rw [if_pos e]; simp [e4', e, cl]
        · rw [if_neg e, H.begun]
          constructor
          · exact .inl
          · rintro (h | h)
            · exact h
            · exact absurd h.2.symm e
      · rw [mget_mset]
        rw [show (l.getD i default).2.2.2.1 = cl l i from rfl]
        rcases Nat.lt_or_ge j i with h | h
        · rw [if_neg (fun e => hnb ⟨j, h, hk, e⟩)]; exact H.node j h hk
        · rw [show j = i by omega]; rw [if_pos rfl]; rfl
      · rw [H.over, hasC_succ]
        exact ⟨.inl, fun h => h.elim id fun h => absurd (e4'.symm.trans h.1) (by decide)⟩
    | false =>
      have e4' : kd l i ≠ 4 := of_decide_eq_false e4
      have hb : ∀ m, (mget b m).isSome = true ↔ HasC l 4 (i + 1) m := fun m => by
        rw [H.begun, hasC_succ]
        exact ⟨.inl, fun h => h.elim id fun h => absurd h.1 e4'⟩
      have hn : ∀ j, j < i + 1 → kd l j = 4 → mget b (cl l j) = some (nd l j) := fun j hj hk => by
        rcases Nat.lt_or_ge j i with h | h
        · exact H.node j h hk
        · rw [show j = i by omega] at hk; exact absurd hk e4'
      cases e5 : decide ((l.getD i default).2.1 = 5) with
      | true =>
        have e5' : kd l i = 5 := of_decide_eq_true e5
        refine fin ⟨hok, hs, hb, hn, fun m => ?_⟩
        rw [mget_mset, hasC_succ]
        by_cases e : m = (l.getD i default).2.2.2.1
        · rw [if_pos e]; simp [e5', e, cl]
        · rw [if_neg e, H.over]
          constructor
          · exact .inl
          · rintro (h | h)
            · exact h
            · exact absurd h.2.symm e
      | false =>
        have e5' : kd l i ≠ 5 := of_decide_eq_false e5
        refine fin ⟨hok, hs, hb, hn, fun m => ?_⟩
        rw [H.over, hasC_succ]
        exact ⟨.inl, fun h => h.elim id fun h => absurd h.1 e5'⟩

/-- What Wrong tells. -/
def WrongIs (n : Int) (l : List Act) (r : Int × Int) : Prop :=
  ((n < 1 ∨ 16 < n) ∧ r = (0, 7)) ∨ (¬ (n < 1 ∨ 16 < n) ∧ ((r = (-1, 0) ∧ ∀ i, i < l.length → i ≠ 1000 ∧ code n l i = 0) ∨
    ∃ i : Nat, i < l.length ∧ (∀ j, j < i → j ≠ 1000 ∧ code n l j = 0) ∧ ((i = 1000 ∧ r = (1000, 4)) ∨ (i ≠ 1000 ∧ code n l i ≠ 0 ∧ r = (↑i, code n l i)))))
theorem WrongIs.uniq {n : Int} {l : List Act} {r q : Int × Int} (h : WrongIs n l r) (k : WrongIs n l q) : r = q := by
  rcases h with ⟨h1, rfl⟩ | ⟨h1, h⟩
  · rcases k with ⟨k1, rfl⟩ | ⟨k1, k⟩
    · rfl
    · exact absurd h1 k1
  · rcases k with ⟨k1, rfl⟩ | ⟨k1, k⟩
    · exact absurd k1 h1
    · have bad : ∀ {i : Nat}, (∀ j, j < l.length → j ≠ 1000 ∧ code n l j = 0) → i < l.length → ((i = 1000 ∧ True) ∨ (i ≠ 1000 ∧ code n l i ≠ 0 ∧ True)) → False := fun h hi hx => by
        rcases hx with hx | hx
        · exact (h _ hi).1 hx.1
        · exact hx.2.1 (h _ hi).2
      rcases h with ⟨rfl, h⟩ | ⟨i, h2, h3, h4⟩
      · rcases k with ⟨rfl, k⟩ | ⟨i, k2, k3, k4⟩
        · rfl
        · exact (bad h k2 (k4.imp (fun x => ⟨x.1, trivial⟩) fun x => ⟨x.1, x.2.1, trivial⟩)).elim
      · rcases k with ⟨rfl, k⟩ | ⟨j, k2, k3, k4⟩
        · exact (bad k h2 (h4.imp (fun x => ⟨x.1, trivial⟩) fun x => ⟨x.1, x.2.1, trivial⟩)).elim
        · have e : i = j := by
            rcases Nat.lt_trichotomy i j with c | c | c
            · have := k3 i c
              rcases h4 with h4 | h4
              · exact absurd h4.1 this.1
              · exact absurd this.2 h4.2.1
            · exact c
            · have := h3 j c
              rcases k4 with k4 | k4
              · exact absurd k4.1 this.1
              · exact absurd this.2 k4.2.1
          subst e
          rcases h4 with ⟨_, rfl⟩ | ⟨a, _, rfl⟩
          · rcases k4 with ⟨_, rfl⟩ | ⟨b, _, rfl⟩
            · rfl
            · exact absurd (by assumption) b
          · rcases k4 with ⟨_, rfl⟩ | ⟨b, _, rfl⟩
            · exact absurd (by assumption) a
            · rfl
/-- A history that is right. -/
def Ok (n : Int) (l : List Act) : Prop := ¬ (n < 1 ∨ 16 < n) ∧ ∀ i, i < l.length → i ≠ 1000 ∧ code n l i = 0
theorem code_ne {n : Int} {l : List Act} {i : Nat} : code n l i = 0 ∨ code n l i ≠ 0 := Classical.em _
theorem WrongIs.ok {n : Int} {l : List Act} {r : Int × Int} (h : WrongIs n l r) : r.2 = 0 ↔ Ok n l := by
  rcases h with ⟨h1, rfl⟩ | ⟨h1, ⟨rfl, h⟩ | ⟨i, h2, h3, h4⟩⟩
  · exact ⟨fun h => absurd h (by decide), fun h => absurd h1 h.1⟩
  · exact ⟨fun _ => ⟨h1, h⟩, fun _ => rfl⟩
  · constructor
    · rcases h4 with ⟨_, rfl⟩ | ⟨_, h5, rfl⟩
      · exact fun h => absurd h (by decide)
      · exact fun h => absurd h h5
    · intro h
      rcases h4 with ⟨h5, rfl⟩ | ⟨_, h5, rfl⟩
      · exact absurd h5 (h.2 _ h2).1
      · exact (h.2 _ h2).2

theorem f15_t (n : Int) (l : List Act) : Tot (f15 n l) (WrongIs n l) := by
  unfold f15
  refine tot_if (fun h => ?_) (fun h => ?_)
  · simp only [Bool.or_eq_true, decide_eq_true_eq] at h
    exact tot_some (.inl ⟨h, rfl⟩)
  simp only [Bool.or_eq_false_iff, decide_eq_false_iff_not] at h
  have h' : ¬ (n < 1 ∨ 16 < n) := by omega
  rw [toNat_len]
  refine (tot_rngx (fun i s => (∀ j, j < i → j ≠ 1000) ∧ WInv n l i s.1 s.2.1 s.2.2) (WrongIs n l) ⟨fun j hj => absurd hj (by omega), ⟨fun j hj => absurd hj (by omega), fun m => ?_, fun m => ?_, fun j hj => absurd hj (by omega), fun m => ?_⟩⟩ fun i s hi H => ?_).bind fun o ho => ?_
  · constructor
    · intro h; simp [mget] at h
    · rintro ⟨j, h, _⟩; omega
  · constructor
    · intro h; simp [mget] at h
    · rintro ⟨j, h, _⟩; omega
  · constructor
    · intro h; simp [mget] at h
    · rintro ⟨j, h, _⟩; omega
  · obtain ⟨H0, H⟩ := H
    obtain ⟨s4, s5, s6⟩ := s
    unfold f15_b0
    refine tot_ix hi ?_
    refine tot_if (fun h1 => ?_) (fun h1 => ?_)
    · have e : i = 1000 := by have := of_decide_eq_true h1; omega
      refine tot_some (.inr ⟨_, rfl, .inr ⟨h', .inr ⟨i, hi, fun j hj => ⟨H0 j hj, H.ok j hj⟩, .inl ⟨e, by rw [e]; rfl⟩⟩⟩⟩)
    · have e : i ≠ 1000 := by have := of_decide_eq_false h1; omega
      refine (f49_t H).bind fun r hr => ?_
      refine tot_if (fun h2 => ?_) (fun h2 => ?_)
      · simp only [Bool.not_eq_true', decide_eq_false_iff_not] at h2
        refine tot_some (.inr ⟨_, rfl, .inr ⟨h', .inr ⟨i, hi, fun j hj => ⟨H0 j hj, H.ok j hj⟩, .inr ⟨e, by rw [← hr.1]; exact h2, by rw [hr.1]⟩⟩⟩⟩)
      · simp only [Bool.not_eq_false', decide_eq_true_eq] at h2
        refine tot_some (.inl ⟨_, rfl, fun j hj => ?_, hr.2 h2⟩)
        rcases Nat.lt_or_ge j i with h | h
        · exact H0 j h
        · rw [show j = i by omega]; exact e
  · rcases ho with ⟨⟨s4, s5, s6⟩, rfl, H0, H⟩ | ⟨⟨s11, s12⟩, rfl, h⟩
    · exact tot_some (.inr ⟨h', .inl ⟨rfl, fun i hi => ⟨H0 i hi, H.ok i hi⟩⟩⟩)
    · exact tot_some h
theorem f17_t (n : Int) (l : List Act) : Tot (f17 n l) fun r => (r = true ↔ Ok n l) := by
  unfold f17
  refine (f15_t n l).bind fun r hr => tot_some ?_
  rw [decide_eq_true_eq]; exact hr.ok
end Go.Ab

set_option linter.unusedVariables false
namespace Go.Ab

/-! layer 29: the reference's Wrong -/
/-- Numbers are the machine's. -/
def RA (l : List Act) : Prop := ∀ i, i < l.length → R64 (ms l i) ∧ R64 (cl l i)
theorem code_zero {n : Int} {l : List Act} {i : Nat} (h : code n l i = 0) : ¬ BadR n (l.getD i default) ∧ Flds (l.getD i default) ∧ ¬ Dup l i ∧ ¬ Nope l i ∧ ¬ Away l i := by
  unfold code at h
  split at h
  · exact absurd h (by decide)
  · rename_i h1
    split at h
    · exact absurd h (by decide)
    · rename_i h2
      split at h
      · exact absurd h (by decide)
      · rename_i h3
        split at h
        · exact absurd h (by decide)
        · rename_i h4
          split at h
          · exact absurd h (by decide)
          · rename_i h5
            exact ⟨h1, Classical.byContradiction h2, h3, h4, h5⟩
theorem tk0 {α : Type} (l : List α) (i : Nat) : (l.take (Int.toNat (i : Int))).drop (Int.toNat 0) = l.take i := by simp
def num (l : List Act) (j : Nat) : Int := w64 (ms l j + cl l j)
theorem f51_t (l : List Act) (k q : Int) : Tot (f51 l k q) fun r => (r = -1 ∧ ∀ j, j < l.length → ¬ (kd l j = k ∧ num l j = q)) ∨ ∃ j : Nat, j < l.length ∧ r = (j : Int) ∧ kd l j = k ∧ num l j = q ∧ ∀ x, x < j → ¬ (kd l x = k ∧ num l x = q) := by
  unfold f51
  rw [toNat_len]
  refine (tot_rngx (fun i s => ∀ j, j < i → ¬ (kd l j = k ∧ num l j = q)) (fun r => ∃ j : Nat, j < l.length ∧ r = (j : Int) ∧ kd l j = k ∧ num l j = q ∧ ∀ x, x < j → ¬ (kd l x = k ∧ num l x = q)) (fun j hj => absurd hj (by omega)) fun i s hi H => ?_).bind fun o ho => ?_
  · unfold f51_b0
    refine tot_ix hi ?_
    refine tot_if (fun h => ?_) (fun h => ?_)
    · simp only [Bool.and_eq_true, decide_eq_true_eq] at h
      exact tot_some (.inr ⟨_, rfl, i, hi, rfl, h.1, h.2, H⟩)
    · have h' := Bool.eq_false_iff.1 h
      simp only [ne_eq, Bool.and_eq_true, decide_eq_true_eq] at h'
      refine tot_some (.inl ⟨_, rfl, fun j hj => ?_⟩)
      rcases Nat.lt_or_ge j i with h | h
      · exact H j h
      · rw [show j = i by omega]; exact h'
  · rcases ho with ⟨⟨⟩, rfl, H⟩ | ⟨r, rfl, h⟩
    · exact tot_some (.inl ⟨rfl, H⟩)
    · exact tot_some (.inr h)
theorem nd_take {l : List Act} {i j : Nat} (h : j < i) : nd (l.take i) j = nd l j := by unfold nd; rw [getD_take h]
theorem kd_take {l : List Act} {i j : Nat} (h : j < i) : kd (l.take i) j = kd l j := by unfold kd; rw [getD_take h]
theorem num_take {l : List Act} {i j : Nat} (h : j < i) : num (l.take i) j = num l j := by unfold num ms cl; rw [getD_take h]
theorem num_fl {l : List Act} {j : Nat} (hR : RA l) (hj : j < l.length) (h : Flds (l.getD j default)) : num l j = if kd l j = 2 ∨ kd l j = 3 then ms l j else cl l j := by
  obtain ⟨h1, h2⟩ := hR j hj
  obtain ⟨⟨⟨h3, h4⟩, h5⟩, h6⟩ := h
  unfold num
  have h4' : (kd l j = 2 ∨ kd l j = 3) ∨ ms l j = 0 := h4
  have h5' : (kd l j = 4 ∨ kd l j = 5) ∨ cl l j = 0 := h5
  split
  · rename_i h7
    have : cl l j = 0 := h5'.resolve_left (by omega)
    rw [this, Int.add_zero, w64_id h1]
  · rename_i h7
    rw [h4'.resolve_left h7, Int.zero_add, w64_id h2]
/-- The first event of a kind with a number, ahead of an event. -/
theorem find_t {n : Int} {l : List Act} {i : Nat} (hR : RA l) (hi : i ≤ l.length) (H : ∀ j, j < i → code n l j = 0) (k q : Int) :
    Tot (f51 ((l.take (Int.toNat (i : Int))).drop (Int.toNat 0)) k q) fun r => ((r = -1 ∧ ∀ j, j < i → ¬ (kd l j = k ∧ num l j = q)) ∨ ∃ j : Nat, j < i ∧ r = (j : Int) ∧ kd l j = k ∧ num l j = q ∧ ∀ x, x < j → ¬ (kd l x = k ∧ num l x = q)) := by
  rw [tk0]
  have hl : (l.take i).length = i := by rw [List.length_take]; omega
  refine (f51_t _ _ _).mono fun r hr => ?_
  rw [hl] at hr
  rcases hr with ⟨h1, h2⟩ | ⟨j, h1, h2, h3, h4, h5⟩
  · refine .inl ⟨h1, fun j hj => ?_⟩
    have := h2 j hj
    rwa [kd_take hj, num_take hj] at this
  · refine .inr ⟨j, h1, h2, ?_, ?_, fun x hx => ?_⟩
    · rwa [kd_take h1] at h3
    · rwa [num_take h1] at h4
    · have := h5 x hx
      rwa [kd_take (by omega), num_take (by omega)] at this
theorem has2 {n : Int} {l : List Act} {i : Nat} (hR : RA l) (hi : i ≤ l.length) (H : ∀ j, j < i → code n l j = 0) {m : Int} : HasS l i m ↔ ∃ j, j < i ∧ kd l j = 2 ∧ num l j = m := by
  constructor
  · rintro ⟨j, h1, h2, h3⟩
    exact ⟨j, h1, h2, by rw [num_fl hR (by omega) (code_zero (H j h1)).2.1, if_pos (.inl h2)]; exact h3⟩
  · rintro ⟨j, h1, h2, h3⟩
    rw [num_fl hR (by omega) (code_zero (H j h1)).2.1, if_pos (.inl h2)] at h3
    exact ⟨j, h1, h2, h3⟩
theorem hasKi {n : Int} {l : List Act} {i : Nat} (hR : RA l) (hi : i ≤ l.length) (H : ∀ j, j < i → code n l j = 0) {k m : Int} (hk : k = 4 ∨ k = 5) : HasC l k i m ↔ ∃ j, j < i ∧ kd l j = k ∧ num l j = m := by
  constructor
  · rintro ⟨j, h1, h2, h3⟩
    exact ⟨j, h1, h2, by rw [num_fl hR (by omega) (code_zero (H j h1)).2.1, if_neg (by omega)]; exact h3⟩
  · rintro ⟨j, h1, h2, h3⟩
    rw [num_fl hR (by omega) (code_zero (H j h1)).2.1, if_neg (by omega)] at h3
    exact ⟨j, h1, h2, h3⟩
theorem find_iff {i : Nat} {P : Nat → Prop} {r : Int} (h : (r = -1 ∧ ∀ j, j < i → ¬ P j) ∨ ∃ j : Nat, j < i ∧ r = (j : Int) ∧ P j) : (0 ≤ r ↔ ∃ j, j < i ∧ P j) ∧ (r < 0 ↔ ¬ ∃ j, j < i ∧ P j) := by
  rcases h with ⟨rfl, h⟩ | ⟨j, h1, rfl, h2⟩
  · have : ¬ ∃ j, j < i ∧ P j := fun ⟨j, a, b⟩ => h j a b
    exact ⟨⟨fun h => absurd h (by decide), fun h => absurd h this⟩, ⟨fun _ => this, fun _ => by decide⟩⟩
  · exact ⟨⟨fun _ => ⟨j, h1, h2⟩, fun _ => by omega⟩, ⟨fun h => by omega, fun h => absurd ⟨j, h1, h2⟩ h⟩⟩

theorem f50_t (x : Act) : Tot (f50 x) fun r => (r = true ↔ Flds x) := by
  refine tot_some ?_
  simp only [Bool.and_eq_true, Bool.or_eq_true, decide_eq_true_eq, Flds]

theorem f16_t (n : Int) (l : List Act) (hR : RA l) : Tot (f16 n l) (WrongIs n l) := by
  unfold f16
  refine tot_if (fun h => ?_) (fun h => ?_)
  · simp only [Bool.or_eq_true, decide_eq_true_eq] at h
    exact tot_some (.inl ⟨h, rfl⟩)
  simp only [Bool.or_eq_false_iff, decide_eq_false_iff_not] at h
  have h' : ¬ (n < 1 ∨ 16 < n) := by omega
  rw [toNat_len]
  refine (tot_rngx (fun i s => ∀ j, j < i → j ≠ 1000 ∧ code n l j = 0) (WrongIs n l) (fun j hj => absurd hj (by omega)) fun i s hi H => ?_).bind fun o ho => ?_
  · unfold f16_b0
    have Hc : ∀ j, j < i → code n l j = 0 := fun j hj => (H j hj).2
    refine Tot.bind (Q := fun o => (o = .inl () ∧ i ≠ 1000 ∧ code n l i = 0) ∨ ∃ e, o = .inr e ∧ ((i = 1000 ∧ e = 4) ∨ (i ≠ 1000 ∧ code n l i ≠ 0 ∧ e = code n l i))) ?_ fun o ho => ?_
    · refine tot_ix hi ?_
      refine tot_if (fun h1 => ?_) (fun h1 => ?_)
      · have e : i = 1000 := by have := of_decide_eq_true h1; omega
        exact tot_some (.inr ⟨_, rfl, .inl ⟨e, rfl⟩⟩)
      have e : i ≠ 1000 := by have := of_decide_eq_false h1; omega
      have bad : ∀ {k : Int}, k ≠ 0 → code n l i = k → Tot (some (.inr k) : Option (Unit ⊕ Int)) fun o => (o = .inl () ∧ i ≠ 1000 ∧ code n l i = 0) ∨ ∃ e, o = .inr e ∧ ((i = 1000 ∧ e = 4) ∨ (i ≠ 1000 ∧ code n l i ≠ 0 ∧ e = code n l i)) := fun hk hc => tot_some (.inr ⟨_, rfl, .inr ⟨e, by rw [hc]; exact hk, hc.symm⟩⟩)
      refine tot_if (fun h2 => ?_) (fun h2 => ?_)
      · simp only [Bool.or_eq_true, Bool.and_eq_true, decide_eq_true_eq] at h2
        refine bad (by decide) ?_
        rw [code, if_pos (show BadR n (l.getD i default) from or_assoc.1 h2)]
      have hbad : ¬ BadR n (l.getD i default) := by
        have h2' := Bool.eq_false_iff.1 h2
        simp only [ne_eq, Bool.or_eq_true, Bool.and_eq_true, decide_eq_true_eq] at h2'
        exact fun h => h2' (or_assoc.2 h)
      refine (f50_t _).bind fun x16 h6 => ?_
      refine tot_if (fun h3 => ?_) (fun h3 => ?_)
      · have : ¬ Flds (l.getD i default) := fun h => by rw [h6.2 h] at h3; simp at h3
        exact bad (by decide) (by rw [code, if_neg hbad, if_pos this])
      have hf : Flds (l.getD i default) := h6.1 (by simpa using h3)
      have hsl : slOk 0 (i : Int) l.length = true := slOk_t (by omega) (by omega) (by omega)
      have hnum := num_fl hR hi hf
      have hk5 : 1 ≤ kd l i ∧ kd l i ≤ 5 := hf.1.1.1
      have ekd : (l.getD i default).2.1 = kd l i := rfl
      have enum : w64 ((l.getD i default).2.2.1 + (l.getD i default).2.2.2.1) = num l i := rfl
      have ems : (l.getD i default).2.2.1 = ms l i := rfl
      have ecl : (l.getD i default).2.2.2.1 = cl l i := rfl
      obtain ⟨r1, e1, p1⟩ := find_t hR (Nat.le_of_lt hi) Hc (kd l i) (num l i)
      rw [ekd, enum, ecl, ems, hsl, e1]
      have q1 := find_iff (P := fun j => kd l j = kd l i ∧ num l j = num l i) (p1.imp id fun ⟨j, a, b, c, d, _⟩ => ⟨j, a, b, c, d⟩)
      simp only [Option.isSome_some, Bool.or_true, cond_true, Option.getD_some]
      have hdup : (kd l i ≠ 1 ∧ kd l i ≠ 3) ∧ 0 ≤ r1 ↔ Dup l i := by
        rw [q1.1]
        unfold Dup
        rw [has2 hR (Nat.le_of_lt hi) Hc, hasKi hR (Nat.le_of_lt hi) Hc (.inl rfl), hasKi hR (Nat.le_of_lt hi) Hc (.inr rfl)]
        constructor
        · rintro ⟨⟨a, b⟩, j, c, d, f⟩
          rcases (show kd l i = 2 ∨ kd l i = 4 ∨ kd l i = 5 by omega) with g | g | g
          · rw [if_pos (.inl g)] at hnum
            exact .inl (.inl ⟨g, j, c, d.trans g, f.trans hnum⟩)
          · rw [if_neg (by omega)] at hnum
            exact .inl (.inr ⟨g, j, c, d.trans g, f.trans hnum⟩)
          · rw [if_neg (by omega)] at hnum
            exact .inr ⟨g, j, c, d.trans g, f.trans hnum⟩
        · rintro ((⟨g, j, c, d, f⟩ | ⟨g, j, c, d, f⟩) | ⟨g, j, c, d, f⟩)
          · rw [if_pos (.inl g)] at hnum
            exact ⟨by omega, j, c, d.trans g.symm, f.trans hnum.symm⟩
          · rw [if_neg (by omega)] at hnum
            exact ⟨by omega, j, c, d.trans g.symm, f.trans hnum.symm⟩
          · rw [if_neg (by omega)] at hnum
            exact ⟨by omega, j, c, d.trans g.symm, f.trans hnum.symm⟩
      refine tot_if (fun h4 => ?_) (fun h4 => ?_)
      · simp only [Bool.and_eq_true, decide_eq_true_eq, Bool.not_eq_true', decide_eq_false_iff_not] at h4
        exact bad (by decide) (by rw [code, if_neg hbad, if_neg (fun h => h hf), if_pos (hdup.1 h4)])
      have hnd : ¬ Dup l i := by
        have h4' := Bool.eq_false_iff.1 h4
        simp only [ne_eq, Bool.and_eq_true, decide_eq_true_eq, Bool.not_eq_true', decide_eq_false_iff_not] at h4'
        exact fun h => h4' (hdup.2 h)
      obtain ⟨r2, e2, p2⟩ := find_t hR (Nat.le_of_lt hi) Hc 2 (ms l i)
      rw [e2]
      have q2 := find_iff (P := fun j => kd l j = 2 ∧ num l j = ms l i) (p2.imp id fun ⟨j, a, b, c, d, _⟩ => ⟨j, a, b, c, d⟩)
      simp only [Option.isSome_some, Bool.or_true, cond_true, Option.getD_some]
      rw [← has2 hR (Nat.le_of_lt hi) Hc] at q2
      refine tot_if (fun h5 => ?_) (fun h5 => ?_)
      · simp only [Bool.and_eq_true, decide_eq_true_eq] at h5
        exact bad (by decide) (by rw [code, if_neg hbad, if_neg (fun h => h hf), if_neg hnd, if_pos (.inl ⟨h5.1, q2.2.1 h5.2⟩)])
      have h5' := Bool.eq_false_iff.1 h5
      simp only [ne_eq, Bool.and_eq_true, decide_eq_true_eq] at h5'
      refine tot_if (fun h7 => ?_) (fun h7 => ?_)
      · have h7' : kd l i = 5 := of_decide_eq_true h7
        obtain ⟨r3, e3, p3⟩ := find_t hR (Nat.le_of_lt hi) Hc 4 (cl l i)
        rw [e3]
        have q3 := find_iff (P := fun j => kd l j = 4 ∧ num l j = cl l i) (p3.imp id fun ⟨j, a, b, c, d, _⟩ => ⟨j, a, b, c, d⟩)
        rw [← hasKi hR (Nat.le_of_lt hi) Hc (.inl rfl)] at q3
        simp only [Option.bind_some]
        refine tot_if (fun h8 => ?_) (fun h8 => ?_)
        · exact bad (by decide) (by rw [code, if_neg hbad, if_neg (fun h => h hf), if_neg hnd, if_pos (.inr ⟨h7', q3.2.1 (of_decide_eq_true h8)⟩)])
        have h8' := of_decide_eq_false h8
        have hno : ¬ Nope l i := by
          rintro (⟨a, b⟩ | ⟨a, b⟩)
          · exact absurd (a.symm.trans h7') (by decide)
          · exact h8' (q3.2.2 b)
        obtain ⟨j, a, rfl, c, d, _⟩ : ∃ j : Nat, j < i ∧ r3 = (j : Int) ∧ kd l j = 4 ∧ num l j = cl l i ∧ True := by
          rcases p3 with ⟨h, _⟩ | ⟨j, a, b, c, d, _⟩
          · exact absurd (by omega) h8'
          · exact ⟨j, a, b, c, d, trivial⟩
        have d' : cl l j = cl l i := by
          have := num_fl hR (show j < l.length by omega) (code_zero (Hc j a)).2.1
          rw [if_neg (by omega)] at this
          exact this.symm.trans d
        refine tot_ix (show j < l.length by omega) ?_
        have haw : Away l i ↔ nd l j ≠ nd l i := by
          constructor
          · rintro ⟨_, x, x1, x2, x3, x4⟩
            have : x = j := by
              rcases Nat.lt_trichotomy x j with y | y | y
              · exact absurd (show Dup l j from .inl (.inr ⟨c, x, y, x2, x3.trans d'.symm⟩)) (code_zero (Hc j a)).2.2.1
              · exact y
              · exact absurd (show Dup l x from .inl (.inr ⟨x2, j, y, c, d'.trans x3.symm⟩)) (code_zero (Hc x x1)).2.2.1
            rw [this] at x4; exact x4
          · exact fun h => ⟨h7', j, a, c, d', h⟩
        refine tot_if (fun h9 => ?_) (fun h9 => ?_)
        · simp only [Bool.not_eq_true', decide_eq_false_iff_not] at h9
          exact bad (by decide) (by rw [code, if_neg hbad, if_neg (fun h => h hf), if_neg hnd, if_neg hno, if_pos (haw.2 h9)])
        · simp only [Bool.not_eq_false', decide_eq_true_eq] at h9
          exact tot_some (.inl ⟨rfl, e, by rw [code, if_neg hbad, if_neg (fun h => h hf), if_neg hnd, if_neg hno, if_neg (fun h => haw.1 h h9)]⟩)
      · have h7' : kd l i ≠ 5 := of_decide_eq_false h7
        have hno : ¬ Nope l i := by
          rintro (⟨a, b⟩ | ⟨a, b⟩)
          · exact h5' ⟨a, q2.2.2 b⟩
          · exact h7' a
        exact tot_some (.inl ⟨rfl, e, by rw [code, if_neg hbad, if_neg (fun h => h hf), if_neg hnd, if_neg hno, if_neg (fun h => h7' h.1)]⟩)
    · rcases ho with ⟨rfl, h1, h2⟩ | ⟨x, rfl, hx⟩
      · refine tot_some (.inl ⟨_, rfl, fun j hj => ?_⟩)
        rcases Nat.lt_or_ge j i with h | h
        · exact H j h
        · rw [show j = i by omega]; exact ⟨h1, h2⟩
      · refine tot_some (.inr ⟨_, rfl, .inr ⟨h', .inr ⟨i, hi, H, ?_⟩⟩⟩)
        rcases hx with ⟨rfl, rfl⟩ | ⟨a, b, rfl⟩
        · exact .inl ⟨rfl, rfl⟩
        · exact .inr ⟨a, b, rfl⟩
  · rcases ho with ⟨⟨⟩, rfl, H⟩ | ⟨⟨s11, s12⟩, rfl, h⟩
    · exact tot_some (.inr ⟨h', .inl ⟨rfl, H⟩⟩)
    · exact tot_some h
theorem f18_t (n : Int) (l : List Act) (hR : RA l) : Tot (f18 n l) fun r => (r = true ↔ Ok n l) := by
  unfold f18
  refine (f16_t n l hR).bind fun r hr => tot_some ?_
  rw [decide_eq_true_eq]; exact hr.ok
theorem wrong_eq (n : Int) (l : List Act) (hR : RA l) : ∃ r, f15 n l = some r ∧ f16 n l = some r ∧ WrongIs n l r := by
  obtain ⟨r, h1, h2⟩ := f15_t n l
  obtain ⟨q, h3, h4⟩ := f16_t n l hR
  rw [h4.uniq h2] at h3
  exact ⟨r, h1, h3, h2⟩
open Classical in
theorem valid_p (n : Int) (l : List Act) : f17 n l = some (decide (Ok n l)) := by
  obtain ⟨r, h1, h2⟩ := f17_t n l
  rw [h1]; congr 1
  by_cases h : Ok n l
  · rw [h2.2 h]; simp [h]
  · have : r = false := Bool.eq_false_iff.2 fun e => h (h2.1 e)
    rw [this]; simp [h]
open Classical in
theorem valid_r (n : Int) (l : List Act) (hR : RA l) : f18 n l = some (decide (Ok n l)) := by
  obtain ⟨r, h1, h2⟩ := f18_t n l hR
  rw [h1]; congr 1
  by_cases h : Ok n l
  · rw [h2.2 h]; simp [h]
  · have : r = false := Bool.eq_false_iff.2 fun e => h (h2.1 e)
    rw [this]; simp [h]
end Go.Ab

set_option linter.unusedVariables false
namespace Go.Ab

/-! layer 29: the reference's Pasts, clocks, heights -/
theorem f56_t {l : List Act} {a b : Nat} (hN : l.length ≤ 1000) (ha : a < l.length) (hb : b < l.length) : Tot (f56 l a b) fun r => (r = true ↔ Dir l a b) := by
  unfold f56
  refine tot_ix ha ?_
  rw [ix_getD hb, ix_getD ha]
  simp only [Option.isSome_some, Bool.or_true, cond_true, Option.getD_some]
  refine tot_if (fun h => ?_) (fun h => ?_)
  · simp only [Bool.and_eq_true, decide_eq_true_eq] at h
    exact tot_some ⟨fun _ => .inl ⟨h.1.1, h.1.2, h.2⟩, fun _ => rfl⟩
  have h1 : ¬ (kd l a = 2 ∧ kd l b = 3 ∧ ms l a = ms l b) := by
    have h' := Bool.eq_false_iff.1 h
    simp only [ne_eq, Bool.and_eq_true, decide_eq_true_eq] at h'
    exact fun c => h' ⟨⟨c.1, c.2.1⟩, c.2.2⟩
  refine tot_if (fun h2 => ?_) (fun h2 => ?_)
  · simp only [Bool.or_eq_true, decide_eq_true_eq, Bool.not_eq_true', decide_eq_false_iff_not] at h2
    refine tot_some ⟨fun h => absurd h (by decide), ?_⟩
    rintro (c | ⟨c, d, _⟩)
    · exact absurd c h1
    · rcases h2 with h2 | h2
      · omega
      · exact absurd d h2
  simp only [Bool.or_eq_false_iff, decide_eq_false_iff_not, Bool.not_eq_false', decide_eq_true_eq] at h2
  obtain ⟨h2, h3⟩ := h2
  have hab : a < b := by omega
  have ew : w64 ((a : Int) + 1) = ((a + 1 : Nat) : Int) := by rw [w64_id ⟨by omega, by omega⟩]; omega
  rw [ew]
  refine tot_need (slOk_t (by omega) (by omega) (by omega)) ?_
  have el : ((l.take (Int.toNat (b : Int))).drop (Int.toNat ((a + 1 : Nat) : Int))).length = b - (a + 1) := by
    rw [Int.toNat_natCast, Int.toNat_natCast, List.length_drop, List.length_take]; omega
  rw [toNat_len, el]
  refine (tot_rngx (fun i s => ∀ x, x < i → nd l (a + 1 + x) ≠ nd l a) (fun r => ¬ Dir l a b) (fun x hx => absurd hx (by omega)) fun i s hi H => ?_).bind fun o ho => ?_
  · unfold f56_b0
    rw [ew]
    refine tot_ix (by rw [el]; exact hi) (tot_ix ha ?_)
    have e1 : (((l.take (Int.toNat (b : Int))).drop (Int.toNat ((a + 1 : Nat) : Int))).getD i default).1 = nd l (a + 1 + i) := by
      rw [getD_drop, Int.toNat_natCast, Int.toNat_natCast, getD_take (by omega)]; rfl
    rw [e1]
    refine tot_if (fun h => ?_) (fun h => ?_)
    · have h' : nd l (a + 1 + i) = nd l a := of_decide_eq_true h
      refine tot_some (.inr ⟨_, rfl, ?_⟩)
      rintro (c | ⟨_, _, c⟩)
      · exact h1 c
      · exact c _ (by omega) (by omega) h'
    · refine tot_some (.inl ⟨_, rfl, fun x hx => ?_⟩)
      rcases Nat.lt_or_ge x i with c | c
      · exact H x c
      · rw [show x = i by omega]; exact of_decide_eq_false h
  · rcases ho with ⟨⟨⟩, rfl, H⟩ | ⟨⟨⟩, rfl, h⟩
    · refine tot_some ⟨fun _ => .inr ⟨hab, h3, fun x x1 x2 => ?_⟩, fun _ => rfl⟩
      have := H (x - (a + 1)) (by omega)
      rwa [show a + 1 + (x - (a + 1)) = x by omega] at this
    · exact tot_some ⟨fun h => absurd h (by decide), fun c => absurd c h⟩

/-- A row tells what is before an event. -/
def GRow (l : List Act) (b : Nat) (r : List Bool) : Prop := r.length = l.length ∧ ∀ c, c < l.length → (r.getD c default = true ↔ Pst l c b)
def GMat (l : List Act) (m : List (List Bool)) : Prop := m.length = l.length ∧ ∀ b, b < l.length → GRow l b (m.getD b default)

theorem f23_t {l : List Act} (hN : l.length ≤ 1000) : Tot (f23 l) (GMat l) := by
  unfold f23
  refine tot_need (mkOk_t (by omega) (by omega)) ?_
  rw [toNat_len]
  refine (tot_rng (fun i s => s.length = l.length ∧ ∀ b, b < i → GRow l b (s.getD b default)) ⟨by simp, fun b hb => absurd hb (by omega)⟩ fun i s hi H => ?_).bind fun o ho => ?_
  · obtain ⟨H1, H2⟩ := H
    unfold f23_b0
    refine tot_need (mkOk_t (by omega) (by omega)) ?_
    refine tot_ix (by omega) ?_
    refine tot_need (decide_eq_true (by omega)) ?_
    rw [Int.toNat_natCast, toNat_len]
    refine (tot_rng (fun j s => s.length = l.length ∧ (∀ b, b < i → GRow l b (s.getD b default)) ∧ (s.getD i default).length = l.length ∧ ∀ c, c < l.length → ((s.getD i default).getD c default = true ↔ ∃ a, a < j ∧ Dir l a i ∧ (c = a ∨ Pst l c a))) ⟨by simp [H1], fun b hb => ?_, ?_, fun c hc => ?_⟩ fun j s hj H => ?_).bind fun o ho => ?_
    · rw [getD_set (by omega), if_neg (by omega)]; exact H2 b hb
    · rw [getD_set (by omega), if_pos rfl]; simp
    · rw [getD_set (by omega), if_pos rfl, getD_rep hc]
      constructor
      · intro h; exact absurd h (by decide)
      · rintro ⟨a, h, _⟩; omega
    · obtain ⟨K1, K2, K3, K4⟩ := H
      unfold f23_b1
      refine Tot.bind (Q := fun o => ∃ s', o = .inl s' ∧ (s'.length = l.length ∧ (∀ b, b < i → GRow l b (s'.getD b default)) ∧ (s'.getD i default).length = l.length ∧ ∀ c, c < l.length → ((s'.getD i default).getD c default = true ↔ ∃ a, a < j + 1 ∧ Dir l a i ∧ (c = a ∨ Pst l c a)))) ?_ fun o ho => ?_
      · refine (f56_t hN (by omega) hi).bind fun r hr => ?_
        refine tot_if (fun h => ?_) (fun h => ?_)
        · refine tot_some ⟨_, rfl, K1, K2, K3, fun c hc => ?_⟩
          rw [K4 c hc]
          have hd : ¬ Dir l j i := fun d => by rw [hr.2 d] at h; simp at h
          constructor
          · rintro ⟨a, h1, h2⟩; exact ⟨a, by omega, h2⟩
          · rintro ⟨a, h1, h2⟩
            rcases Nat.lt_or_ge a j with h3 | h3
            · exact ⟨a, h3, h2⟩
            · rw [show a = j by omega] at h2; exact absurd h2.1 hd
        · have hd : Dir l j i := hr.1 (by simpa using h)
          refine tot_ix (by omega) (tot_ix (by omega) ?_)
          refine tot_need (decide_eq_true (by omega)) ?_
          rw [Int.toNat_natCast, Int.toNat_natCast]
          refine (tot_rng (fun k s => s.length = l.length ∧ (∀ b, b < i → GRow l b (s.getD b default)) ∧ (s.getD i default).length = l.length ∧ ∀ c, c < l.length → ((s.getD i default).getD c default = true ↔ (∃ a, a < j ∧ Dir l a i ∧ (c = a ∨ Pst l c a)) ∨ c = j ∨ (c < k ∧ Pst l c j))) ⟨by simp [K1], fun b hb => ?_, ?_, fun c hc => ?_⟩ fun k s hk H => ?_).bind fun o ho => ?_
          · rw [getD_set (by omega), if_neg (by omega)]; exact K2 b hb
          · rw [getD_set (by omega), if_pos rfl]; simpa using K3
          · rw [getD_set (by omega), if_pos rfl, getD_set (by omega)]
            split
            · rename_i e; simp [e]
            · rename_i e
              rw [K4 c hc]
              constructor
              · exact .inl
              · rintro (h | h | ⟨h, _⟩)
                · exact h
                · exact absurd h.symm e
                · omega
          · obtain ⟨L1, L2, L3, L4⟩ := H
            unfold f23_b2
            refine tot_ix (by omega) (tot_ix (by omega) ?_)
            have hrow := L2 j hj
            rw [ix_getD (show j < s.length by omega)]
            simp only [Option.isSome_some, Bool.or_true, cond_true, Option.getD_some]
            rw [ix_getD (show k < (s.getD j default).length by rw [hrow.1]; omega)]
            simp only [Option.isSome_some, Bool.or_true, cond_true, Option.getD_some]
            rw [Int.toNat_natCast, Int.toNat_natCast]
            refine tot_some ⟨_, rfl, by simp [L1], fun b hb => ?_, ?_, fun c hc => ?_⟩
            · rw [getD_set (by omega), if_neg (by omega)]; exact L2 b hb
            · rw [getD_set (by omega), if_pos rfl]; simpa using L3
            · rw [getD_set (by omega), if_pos rfl, getD_set (by omega)]
              split
              · rename_i e
                subst e
                rw [Bool.or_eq_true, L4 k hc, hrow.2 k hc]
                constructor
                · rintro ((h | h | ⟨h, _⟩) | h)
                  · exact .inl h
                  · exact .inr (.inl h)
                  · omega
                  · exact .inr (.inr ⟨by omega, h⟩)
                · rintro (h | h | ⟨_, h⟩)
                  · exact .inl (.inl h)
                  · exact .inl (.inr (.inl h))
                  · exact .inr h
              · rename_i e
                rw [L4 c hc]
                constructor
                · rintro (h | h | ⟨h, h'⟩)
                  · exact .inl h
                  · exact .inr (.inl h)
                  · exact .inr (.inr ⟨by omega, h'⟩)
                · rintro (h | h | ⟨h, h'⟩)
                  · exact .inl h
                  · exact .inr (.inl h)
                  · exact .inr (.inr ⟨by omega, h'⟩)
          · obtain ⟨s', rfl, L1, L2, L3, L4⟩ := ho
            refine tot_some ⟨_, rfl, L1, L2, L3, fun c hc => ?_⟩
            rw [L4 c hc]
            constructor
            · rintro (⟨a, h1, h2⟩ | h | ⟨_, h⟩)
              · exact ⟨a, by omega, h2⟩
              · exact ⟨j, by omega, hd, .inl h⟩
              · exact ⟨j, by omega, hd, .inr h⟩
            · rintro ⟨a, h1, h2, h3⟩
              rcases Nat.lt_or_ge a j with h4 | h4
              · exact .inl ⟨a, h4, h2, h3⟩
              · rw [show a = j by omega] at h3
                rcases h3 with h3 | h3
                · exact .inr (.inl h3)
                · exact .inr (.inr ⟨h3.lt, h3⟩)
      · obtain ⟨s', rfl, h⟩ := ho
        exact tot_some ⟨_, rfl, h⟩
    · obtain ⟨s', rfl, K1, K2, K3, K4⟩ := ho
      refine tot_some ⟨_, rfl, K1, fun b hb => ?_⟩
      rcases Nat.lt_or_ge b i with h | h
      · exact K2 b h
      · rw [show b = i by omega]
        refine ⟨K3, fun c hc => ?_⟩
        rw [K4 c hc, pst_iff]
  · obtain ⟨s', rfl, h⟩ := ho
    exact tot_some h

/-! clocks -/
theorem f53_nil (n : Int) (l : List Act) (hR : RA l) : Tot (f53 n l []) fun r => (r = 0 ∧ Ok n l) ∨ (r = 1 ∧ ¬ Ok n l) := by
  unfold f53
  refine (f18_t n l hR).bind fun r hr => ?_
  refine tot_if (fun h => ?_) (fun h => ?_)
  · exact tot_some (.inr ⟨rfl, fun k => by rw [hr.2 k] at h; simp at h⟩)
  · exact tot_some (.inl ⟨rfl, hr.1 (by simpa using h)⟩)
/-- What a right history is. -/
theorem Ok.n {n : Int} {l : List Act} (h : Ok n l) : 1 ≤ n ∧ n ≤ 16 := by have := h.1; omega
theorem Ok.nd {n : Int} {l : List Act} (h : Ok n l) : ∀ i, i < l.length → 0 ≤ nd l i ∧ nd l i < n := fun i hi => by
  have := (code_zero (h.2 i hi).2).1
  unfold BadR at this
  simp only [not_or, Int.not_lt, Int.not_le] at this
  exact this.1
theorem Ok.len {n : Int} {l : List Act} (h : Ok n l) : l.length ≤ 1000 := by
  rcases Nat.lt_or_ge 1000 l.length with c | c
  · exact absurd rfl (h.2 1000 c).1
  · exact c
/-- Clocks of all events. -/
def GClk (n : Int) (l : List Act) (m : List (List Int)) : Prop := m.length = l.length ∧ ∀ b, b < l.length → IsClock n.toNat l b (m.getD b default)
theorem GClk.uniq {n : Int} {l : List Act} {m m' : List (List Int)} (h : GClk n l m) (k : GClk n l m') : m = m' :=
  ext_getD default (h.1.trans k.1.symm) fun j hj => (h.2 j (by rw [← h.1]; exact hj)).uniq (k.2 j (by rw [← h.1]; exact hj))
end Go.Ab

set_option linter.unusedVariables false
namespace Go.Ab

/-! counting -/
open Classical in
/-- How many of the first numbers have a property. -/
noncomputable def cntP (P : Nat → Prop) : Nat → Nat
  | 0 => 0
  | k + 1 => cntP P k + if P k then 1 else 0
theorem cntP_le {P Q : Nat → Prop} : ∀ {k : Nat}, (∀ a, a < k → P a → Q a) → cntP P k ≤ cntP Q k := by
  intro k
  induction k with
  | zero => intro _; exact Nat.le_refl _
  | succ k ih =>
    intro h
    have := ih fun a ha => h a (by omega)
    simp only [cntP]
    by_cases hp : P k
    · rw [if_pos hp, if_pos (h k (by omega) hp)]; omega
    · rw [if_neg hp]; omega
theorem cntP_mono {P : Nat → Prop} {a b : Nat} (h : a ≤ b) : cntP P a ≤ cntP P b := by
  induction b with
  | zero => rw [Nat.le_zero.1 h]; exact Nat.le_refl _
  | succ b ih =>
    rcases Nat.lt_or_ge a (b + 1) with h1 | h1
    · exact Nat.le_trans (ih (by omega)) (by simp only [cntP]; omega)
    · rw [show a = b + 1 by omega]; exact Nat.le_refl _
theorem cntP_stop {P : Nat → Prop} {k : Nat} : ∀ {n : Nat}, k ≤ n → (∀ a, k ≤ a → a < n → ¬ P a) → cntP P n = cntP P k := by
  intro n
  induction n with
  | zero => intro h _; rw [Nat.le_zero.1 h]
  | succ n ih =>
    intro h hp
    rcases Nat.lt_or_ge n k with h1 | h1
    · rw [show k = n + 1 by omega]
    · simp only [cntP]
      rw [if_neg (hp n h1 (by omega)), ih h1 fun a x y => hp a x (by omega)]; omega
theorem cntP_len {P : Nat → Prop} {k : Nat} : cntP P k ≤ k := by
  induction k with
  | zero => exact Nat.le_refl _
  | succ k ih => simp only [cntP]; split <;> omega
theorem cnt_cntP {l : List Act} {p : Int} {k : Nat} : cnt l p k = cntP (fun a => nd l a = p) k := by
  induction k with
  | zero => rfl
  | succ k ih =>
    simp only [cnt, cntP, ih]
    by_cases h : nd l k = p
    · rw [if_pos h, if_pos h]
    · rw [if_neg h, if_neg h]
/-- Of a node: the event and what is before it. -/
def Dn (l : List Act) (b : Nat) (p : Int) (a : Nat) : Prop := nd l a = p ∧ (a = b ∨ Pst l a b)
theorem dn_cnt {l : List Act} {b : Nat} {p : Int} {k : Nat} : cntP (Dn l b p) k = cntP (fun a => Pst l a b ∧ nd l a = p) k + if b < k ∧ nd l b = p then 1 else 0 := by
  induction k with
  | zero => simp [cntP]
  | succ k ih =>
    simp only [cntP, ih]
    by_cases hb : b = k
    · subst hb
      have h0 : ¬ Pst l b b := fun h => by have := h.lt; omega
      have e1 : (Dn l b p b) ↔ nd l b = p := ⟨fun h => h.1, fun h => ⟨h, .inl rfl⟩⟩
      by_cases hp : nd l b = p
      · rw [if_pos (e1.2 hp), if_neg (fun h : Pst l b b ∧ _ => h0 h.1), if_neg (by omega), if_pos ⟨by omega, hp⟩]
      · rw [if_neg (fun h => hp (e1.1 h)), if_neg (fun h : Pst l b b ∧ _ => h0 h.1), if_neg (by omega), if_neg (fun h => hp h.2)]
    · have e1 : (Dn l b p k) ↔ (Pst l k b ∧ nd l k = p) := ⟨fun h => ⟨h.2.resolve_left (fun e => hb e.symm), h.1⟩, fun h => ⟨h.2, .inr h.1⟩⟩
      have e2 : (b < k + 1 ∧ nd l b = p) ↔ (b < k ∧ nd l b = p) := by constructor <;> rintro ⟨h1, h2⟩ <;> exact ⟨by omega, h2⟩
      by_cases hd : Dn l b p k
      · rw [if_pos hd, if_pos (e1.1 hd)]
        by_cases h2 : b < k ∧ nd l b = p
        · rw [if_pos h2, if_pos (e2.2 h2)]
        · rw [if_neg h2, if_neg (fun h => h2 (e2.1 h))]
      · rw [if_neg hd, if_neg (fun h => hd (e1.2 h))]
        by_cases h2 : b < k ∧ nd l b = p
        · rw [if_pos h2, if_pos (e2.2 h2)]
        · rw [if_neg h2, if_neg (fun h => h2 (e2.1 h))]
/-- Counts are a clock. -/
theorem isClock_cnt {n : Nat} {l : List Act} {b : Nat} {c : List Int} (hl : c.length = n) (hn : ∀ i, i < l.length → 0 ≤ nd l i ∧ nd l i < n) (h : ∀ p, p < n → c.getD p 0 = cntP (Dn l b p) l.length) : IsClock n l b c := by
  refine ⟨hl, fun p hp => ?_, fun j hj => ?_⟩
  · rw [h p hp]
    have : cntP (Dn l b p) l.length ≤ cnt l p l.length := by rw [cnt_cntP]; exact cntP_le fun a _ h => h.1
    omega
  · have hnj := hn j hj
    rw [h _ (by omega), show (((nd l j).toNat : Nat) : Int) = nd l j by omega]
    constructor
    · intro hj'
      have h1 : cnt l (nd l j) (j + 1) ≤ cntP (Dn l b (nd l j)) (j + 1) := by
        rw [cnt_cntP]
        refine cntP_le fun a ha hna => ⟨hna, ?_⟩
        rcases Nat.lt_or_ge a j with h2 | h2
        · have := pst_same h2 hna
          rcases hj' with rfl | hj'
          · exact .inr this
          · exact .inr (this.trans hj')
        · rw [show a = j by omega]; exact hj'
      have h2 := cntP_mono (P := Dn l b (nd l j)) (show j + 1 ≤ l.length by omega)
      unfold idx; omega
    · intro hle
      refine Classical.byContradiction fun hj' => ?_
      have h1 : cntP (Dn l b (nd l j)) l.length = cntP (Dn l b (nd l j)) j := by
        refine cntP_stop (by omega) fun a h1 h2 h3 => hj' ?_
        rcases Nat.lt_or_ge j a with h4 | h4
        · have := pst_same h4 h3.1.symm
          rcases h3.2 with rfl | h5
          · exact .inr this
          · exact .inr (this.trans h5)
        · rw [show j = a by omega]; exact h3.2
      have h2 : cntP (Dn l b (nd l j)) j ≤ cnt l (nd l j) j := by rw [cnt_cntP]; exact cntP_le fun a _ h => h.1
      rw [idx_eq] at hle
      omega

theorem f20_t {n : Int} {l : List Act} (hR : RA l) : Tot (f20 n l) fun r => (¬ Ok n l ∧ r = ([], 1)) ∨ (Ok n l ∧ r.2 = 0 ∧ GClk n l r.1) := by
  unfold f20
  refine (f53_nil n l hR).bind fun x hx => ?_
  rcases hx with ⟨rfl, hok⟩ | ⟨rfl, hok⟩
  rotate_left
  · exact tot_some (.inl ⟨hok, rfl⟩)
  have hN := hok.len
  obtain ⟨n1, n2⟩ := hok.n
  have hnd := hok.nd
  refine (show Tot _ _ from ?_)
  simp only [decide_true, Bool.not_true, cond_false]
  refine (f23_t hN).bind fun m hm => ?_
  refine tot_need (mkOk_t (by omega) (by omega)) ?_
  rw [toNat_len]
  refine (tot_rng (fun i s => s.length = l.length ∧ ∀ b, b < i → IsClock n.toNat l b (s.getD b default)) ⟨by simp, fun b hb => absurd hb (by omega)⟩ fun i s hi H => ?_).bind fun o ho => ?_
  · obtain ⟨H1, H2⟩ := H
    have hni := hnd i hi
    unfold f20_b0
    refine tot_need (mkOk_t (by omega) (by omega)) ?_
    refine tot_ix (by omega) (tot_ix (by simp; omega) (tot_ix (by omega) ?_))
    rw [Int.toNat_natCast, getD_set (by omega), if_pos rfl]
    refine tot_ixz hni.1 (by rw [List.length_replicate]; exact (by have := hni.2; unfold nd at this; omega)) ?_
    refine tot_ix (by rw [hm.1]; omega) ?_
    obtain ⟨g1, g2⟩ := hm.2 i hi
    rw [toNat_len, g1]
    refine (tot_rng (fun k s => s.length = l.length ∧ (∀ b, b < i → IsClock n.toNat l b (s.getD b default)) ∧ (s.getD i default).length = n.toNat ∧ ∀ p, p < n.toNat → (s.getD i default).getD p 0 = ((cntP (fun a => Pst l a i ∧ nd l a = p) k : Nat) : Int) + (if nd l i = p then 1 else 0)) ⟨by simp [H1], fun b hb => ?_, ?_, fun p hp => ?_⟩ fun k s hk H => ?_).bind fun o ho => ?_
    · rw [getD_set (by simp; omega), if_neg (by omega), getD_set (by omega), if_neg (by omega)]; exact H2 b hb
    · rw [getD_set (by simp; omega), if_pos rfl]; simp
    · have e : (l.getD i default).1 = nd l i := rfl
      rw [getD_set (by simp; omega), if_pos rfl, e, getD_set (by rw [List.length_replicate]; omega)]
      simp only [cntP]
      split
      · rename_i e; rw [if_pos (by omega)]; rfl
      · rename_i e; rw [if_neg (by omega), getD_rep hp]; rfl
    · obtain ⟨K1, K2, K3, K4⟩ := H
      unfold f20_b1
      refine Tot.bind (Q := fun o => ∃ s', o = .inl s' ∧ (s'.length = l.length ∧ (∀ b, b < i → IsClock n.toNat l b (s'.getD b default)) ∧ (s'.getD i default).length = n.toNat ∧ ∀ p, p < n.toNat → (s'.getD i default).getD p 0 = ((cntP (fun a => Pst l a i ∧ nd l a = p) (k + 1) : Nat) : Int) + (if nd l i = p then 1 else 0))) ?_ fun o ho => ?_
      · refine tot_ix (by omega) ?_
        have hnk := hnd k hk
        refine tot_if (fun h => ?_) (fun h => ?_)
        · have hp := (g2 k hk).1 h
          refine tot_ix (by omega) (tot_ix hk (tot_ixz hnk.1 (by rw [K3]; have := hnk.2; unfold nd at this; omega) ?_))
          have e : (l.getD k default).1 = nd l k := rfl
          rw [e, Int.toNat_natCast]
          have hv := K4 (nd l k).toNat (by omega)
          have hc := cntP_len (P := fun a => Pst l a i ∧ nd l a = ((nd l k).toNat : Nat)) (k := k)
          have hw : w64 ((s.getD i default).getD (nd l k).toNat default + 1) = (s.getD i default).getD (nd l k).toNat 0 + 1 := by
            rw [w64_id]; rfl
            show R64 ((s.getD i default).getD (nd l k).toNat 0 + 1)
            rw [hv]
            constructor
            · split <;> omega
            · split <;> omega
          rw [hw]
          refine tot_some ⟨_, rfl, by simp [K1], fun b hb => ?_, ?_, fun p hpn => ?_⟩
          · rw [getD_set (by omega), if_neg (by omega)]; exact K2 b hb
          · rw [getD_set (by omega), if_pos rfl]; simpa using K3
          · rw [getD_set (by omega), if_pos rfl, getD_set (by rw [K3]; omega)]
            simp only [cntP]
            by_cases e : (nd l k).toNat = p
            · rw [if_pos e, if_pos ⟨hp, by omega⟩, hv, e]; omega
            · rw [if_neg e, if_neg (fun h => e (by omega)), K4 p hpn]; omega
        · refine tot_some ⟨_, rfl, K1, K2, K3, fun p hpn => ?_⟩
          simp only [cntP]
          rw [if_neg (fun c => by rw [(g2 k hk).2 c.1] at h; cases h), K4 p hpn]; omega
      · obtain ⟨s', rfl, h⟩ := ho
        exact tot_some ⟨_, rfl, h⟩
    · obtain ⟨s', rfl, K1, K2, K3, K4⟩ := ho
      refine tot_some ⟨_, rfl, K1, fun b hb => ?_⟩
      rcases Nat.lt_or_ge b i with h | h
      · exact K2 b h
      · rw [show b = i by omega]
        refine isClock_cnt K3 (fun x hx => by have := hnd x hx; omega) fun p hp => ?_
        rw [K4 p hp, dn_cnt]
        by_cases e : nd l i = p
        · rw [if_pos e, if_pos ⟨hi, e⟩]; omega
        · rw [if_neg e, if_neg (fun h => e h.2)]; omega
  · obtain ⟨s', rfl, h1, h2⟩ := ho
    exact tot_some (.inr ⟨hok, rfl, h1, h2⟩)
end Go.Ab

set_option linter.unusedVariables false
namespace Go.Ab

/-! layer 29: what is directly before, as the program goes -/
theorem compI_two (a b : Int) : compI [a, b] = if b = a then [a] else [a, b] := by
  unfold compI
  have e : List.range [a, b].length = [0, 1] := rfl
  rw [e]
  by_cases h : b = a
  · subst h; simp
  · simp [h]
theorem srt2 {s : List Int} (h : s.length ≤ 2) : ∃ x r, f73 s = some x ∧ f83 x = some r ∧ (∀ k, k ∈ r ↔ k ∈ s) ∧ r.Pairwise (· < ·) := by
  match s, h with
  | [], _ => exact ⟨[], [], rfl, rfl, fun k => Iff.rfl, List.Pairwise.nil⟩
  | [a], _ => exact ⟨[a], [a], rfl, rfl, fun k => Iff.rfl, by simp⟩
  | [a, b], _ =>
    have key : ∀ {c d : Int}, c ≤ d → f83 [c, d] = some (if d = c then [c] else [c, d]) := fun _ => by rw [← compI_two]; rfl
    have e : f73 [a, b] = some (bif decide (a ≤ b) then [a, b] else [b, a]) := rfl
    by_cases hab : a ≤ b
    · refine ⟨[a, b], _, by rw [e]; simp [hab], key hab, fun k => ?_, ?_⟩
      · split
        · rename_i h; subst h; simp
        · rfl
      · split
        · simp
        · simp; omega
    · refine ⟨[b, a], _, by rw [e]; simp [hab], key (by omega), fun k => ?_, ?_⟩
      · split
        · rename_i h; subst h; simp
        · simp [or_comm]
      · split
        · simp
        · simp; omega
/-- What is directly before an event. -/
def Bef (l : List Act) (i : Nat) (b : List Int) : Prop := (∀ k : Int, k ∈ b ↔ ∃ a : Nat, k = a ∧ a < i ∧ Dir l a i) ∧ b.Pairwise (· < ·)
def LastOf (l : List Act) (i : Nat) (p : Int) (v : Int) : Prop := (v = 0 ∧ ∀ j, j < i → nd l j ≠ p) ∨ ∃ j : Nat, j < i ∧ nd l j = p ∧ v = (j : Int) + 1 ∧ ∀ x, j < x → x < i → nd l x ≠ p
theorem f82_t {n : Int} {l : List Act} (hok : Ok n l) {σ : Type} {q : σ → (Int × List Int) → Option σ} {s0 : σ} (Inv : Nat → σ → Prop) (h0 : Inv 0 s0)
    (h : ∀ i s b, i < l.length → Bef l i b → Inv i s → Tot (q s ((i : Int), b)) (Inv (i + 1))) : Tot (f82 q s0 n l) (Inv l.length) := by
  have hN := hok.len
  obtain ⟨n1, n2⟩ := hok.n
  have hnd := hok.nd
  unfold f82
  refine tot_need (mkOk_t (by omega) (by omega)) ?_
  rw [toNat_len]
  refine (tot_rngx (fun i s => Inv i s.1 ∧ s.2.1.length = n.toNat ∧ (∀ p, p < n.toNat → LastOf l i p (s.2.1.getD p 0)) ∧ ∀ j : Nat, j < i → kd l j = 2 → mget s.2.2 (ms l j) = some (j : Int)) (fun r => False) ⟨h0, by simp, fun p hp => ?_, fun j hj => absurd hj (by omega)⟩ fun i s hi H => ?_).bind fun o ho => ?_
  · refine .inl ⟨?_, fun j hj => absurd hj (by omega)⟩
    rw [getD_rep hp]
  · obtain ⟨H1, H2, H3, H4⟩ := H
    obtain ⟨s5, s6, s7⟩ := s
    simp only at H1 H2 H3 H4
    have hni := hnd i hi
    have enx : (l.getD i default).1 = nd l i := rfl
    have ekx : (l.getD i default).2.1 = kd l i := rfl
    have emx : (l.getD i default).2.2.1 = ms l i := rfl
    obtain ⟨c1, c2, c3, c4, c5⟩ := code_zero (hok.2 i hi).2
    unfold f82_b0
    refine tot_ix hi ?_
    rw [enx, ekx, emx]
    have hlast := H3 (nd l i).toNat (by omega)
    rw [show (((nd l i).toNat : Nat) : Int) = nd l i by omega] at hlast
    -- the event of the same node
    refine Tot.bind (Q := fun o => ∃ s', o = .inl s' ∧ s'.length ≤ 1 ∧ ∀ k : Int, k ∈ s' ↔ ∃ a : Nat, k = a ∧ (a < i ∧ nd l a = nd l i ∧ ∀ x, a < x → x < i → nd l x ≠ nd l a)) ?_ fun o ho => ?_
    · refine tot_ixz hni.1 (by omega) ?_
      rcases hlast with ⟨hv, hl⟩ | ⟨j, hj1, hj2, hv, hl⟩
      · refine tot_if (fun h => ?_) (fun h => ?_)
        · exact absurd (of_decide_eq_true h) (by show ¬ 0 < s6.getD (nd l i).toNat 0; omega)
        · refine tot_some ⟨_, rfl, by simp, fun k => ?_⟩
          constructor
          · intro h; simp at h
          · rintro ⟨a, _, a1, a2, _⟩; exact absurd a2 (hl a a1)
      · refine tot_if (fun h => ?_) (fun h => ?_)
        · have hv' : s6.getD (nd l i).toNat default = (j : Int) + 1 := hv
          rw [hv', w64_id ⟨by omega, by omega⟩, show (j : Int) + 1 - 1 = j by omega]
          refine tot_need (apOk_t (by simp)) (tot_some ⟨_, rfl, by simp, fun k => ?_⟩)
          rw [List.mem_singleton]
          constructor
          · rintro rfl; exact ⟨j, rfl, hj1, hj2, fun x x1 x2 => by rw [hj2]; exact hl x x1 x2⟩
          · rintro ⟨a, rfl, a1, a2, a3⟩
            rcases Nat.lt_trichotomy a j with c | c | c
            · exact absurd (hj2.trans a2.symm) (a3 j c hj1)
            · rw [c]
            · exact absurd a2 (hl a c a1)
        · exact absurd (of_decide_eq_false h) (by show ¬ ¬ 0 < s6.getD (nd l i).toNat 0; omega)
    obtain ⟨s18, rfl, hl18, h18⟩ := ho
    -- what was sent
    refine Tot.bind (Q := fun o => ∃ s', o = .inl s' ∧ s'.length ≤ 2 ∧ ∀ k : Int, k ∈ s' ↔ ∃ a : Nat, k = a ∧ a < i ∧ Dir l a i) ?_ fun o ho => ?_
    · refine tot_if (fun h => ?_) (fun h => ?_)
      · have hk3 : kd l i = 3 := of_decide_eq_true h
        obtain ⟨j, j1, j2, j3⟩ : HasS l i (ms l i) := Classical.byContradiction fun hc => c4 (.inl ⟨hk3, hc⟩)
        have hg := H4 j j1 j2
        rw [j3] at hg
        rw [hg]
        refine tot_need (apOk_t (by simp; omega)) (tot_some ⟨_, rfl, by simp; omega, fun k => ?_⟩)
        rw [List.mem_append, h18, List.mem_singleton, Option.getD_some]
        constructor
        · rintro (⟨a, rfl, a1, a2, a3⟩ | rfl)
          · exact ⟨a, rfl, a1, .inr ⟨a1, a2, a3⟩⟩
          · exact ⟨j, rfl, j1, .inl ⟨j2, hk3, j3⟩⟩
        · rintro ⟨a, rfl, a1, ⟨a2, _, a3⟩ | a2⟩
          · right
            have e1 := H4 a a1 a2
            rw [a3, hg] at e1
            exact (Option.some.inj e1).symm
          · exact .inl ⟨a, rfl, a2⟩
      · refine tot_some ⟨_, rfl, by omega, fun k => ?_⟩
        rw [h18]
        constructor
        · rintro ⟨a, rfl, a1, a2, a3⟩; exact ⟨a, rfl, a1, .inr ⟨a1, a2, a3⟩⟩
        · rintro ⟨a, rfl, a1, ⟨_, a2, _⟩ | a2⟩
          · exact absurd a2 (of_decide_eq_false h)
          · exact ⟨a, rfl, a2⟩
    obtain ⟨s25, rfl, hl25, h25⟩ := ho
    refine Tot.bind (Q := fun o => ∃ s', o = .inl s' ∧ ∀ j : Nat, j < i + 1 → kd l j = 2 → mget s' (ms l j) = some (j : Int)) ?_ fun o ho => ?_
    · refine tot_if (fun h => ?_) (fun h => ?_)
      · have hk2 : kd l i = 2 := of_decide_eq_true h
        refine tot_some ⟨_, rfl, fun j hj hk => ?_⟩
        rw [mget_mset]
        rcases Nat.lt_or_ge j i with c | c
        · rw [if_neg (fun e => c3 (.inl (.inl ⟨hk2, j, c, hk, e⟩)))]; exact H4 j c hk
        · rw [show j = i by omega, if_pos rfl]
      · refine tot_some ⟨_, rfl, fun j hj hk => ?_⟩
        rcases Nat.lt_or_ge j i with c | c
        · exact H4 j c hk
        · rw [show j = i by omega] at hk; exact absurd hk (of_decide_eq_false h)
    obtain ⟨s30, rfl, h30⟩ := ho
    refine tot_ixz hni.1 (by omega) ?_
    obtain ⟨x, r, e1, e2, e3, e4⟩ := srt2 hl25
    rw [e1]
    simp only [Option.bind_some]
    rw [e2]
    simp only [Option.bind_some]
    refine (h i s5 r hi ⟨fun k => (e3 k).trans (h25 k), e4⟩ H1).bind fun s5' h5 => ?_
    rw [w64_id ⟨by omega, by omega⟩]
    refine tot_if (fun h => absurd h (by decide)) fun _ => tot_some (.inl ⟨_, rfl, h5, by simpa using H2, fun p hp => ?_, h30⟩)
    show LastOf l (i + 1) p ((s6.set (nd l i).toNat ((i : Int) + 1)).getD p 0)
    rw [getD_set (by omega)]
    split
    · rename_i e
      exact .inr ⟨i, by omega, by omega, rfl, fun x x1 x2 => by omega⟩
    · rename_i e
      rcases H3 p hp with ⟨k1, k2⟩ | ⟨j, k1, k2, k3, k4⟩
      · refine .inl ⟨k1, fun j hj => ?_⟩
        rcases Nat.lt_or_ge j i with c | c
        · exact k2 j c
        · rw [show j = i by omega]; omega
      · refine .inr ⟨j, by omega, k2, k3, fun x x1 x2 => ?_⟩
        rcases Nat.lt_or_ge x i with c | c
        · exact k4 x x1 c
        · rw [show x = i by omega]; omega
  · rcases ho with ⟨⟨s5, s6, s7⟩, rfl, H, _⟩ | ⟨r, rfl, h⟩
    · exact tot_some H
    · exact h.elim
end Go.Ab

set_option linter.unusedVariables false
namespace Go.Ab

/-! layer 29: the program's clocks and heights -/
theorem getD_mx {a b : List Int} {p : Nat} (h : a.length = b.length) (hp : p < a.length) : (mx a b).getD p 0 = max (a.getD p 0) (b.getD p 0) := by
  unfold mx
  rw [List.getD_eq_getElem?_getD, List.getD_eq_getElem?_getD, List.getD_eq_getElem?_getD, List.getElem?_zipWith, List.getElem?_eq_getElem hp, List.getElem?_eq_getElem (show p < b.length by omega)]
  rfl
theorem ap8 {a b : Nat} (h : a ≤ 1000) (hb : b ≤ 1000) : apOk 8 (a + b) = true := apOk_t (by omega)
theorem ap24 {a b : Nat} (h : a ≤ 1000) (hb : b ≤ 1000) : apOk 24 (a + b) = true := apOk_t (by omega)
theorem f52_t {n : Int} {l : List Act} (hok : Ok n l) : Tot (f52 n l) (GClk n l) := by
  have hN := hok.len
  obtain ⟨n1, n2⟩ := hok.n
  have hnd := hok.nd
  unfold f52 f62
  simp only [Option.bind_some]
  refine (f82_t hok (fun i s => s.length = i ∧ ∀ b, b < i → IsClock n.toNat l b (s.getD b default)) ⟨rfl, fun b hb => absurd hb (by omega)⟩ fun i s bf hi hbf H => ?_).bind fun s h => ?_
  · obtain ⟨H1, H2⟩ := H
    have hni := hnd i hi
    unfold f52_b0
    simp only
    refine tot_need (mkOk_t (by omega) (by omega)) ?_
    rw [toNat_len]
    refine (tot_rng (fun k c => c.length = n.toNat ∧ ∀ p, p < n.toNat → 0 ≤ c.getD p 0 ∧ (∀ x, x < k → (s.getD (bf.getD x default).toNat default).getD p 0 ≤ c.getD p 0) ∧ (0 < c.getD p 0 → ∃ x, x < k ∧ c.getD p 0 = (s.getD (bf.getD x default).toNat default).getD p 0)) ⟨by simp, fun p hp => ?_⟩ fun k c hk H => ?_).bind fun o ho => ?_
    · rw [getD_rep hp]
      exact ⟨Int.le_refl _, fun x hx => absurd hx (by omega), fun h => absurd h (by decide)⟩
    · obtain ⟨K1, K2⟩ := H
      unfold f52_b1
      obtain ⟨a, ea, a1, a2⟩ := (hbf.1 (bf.getD k default)).1 (getD_mem hk)
      refine tot_ix hk ?_
      rw [ea]
      refine tot_ix (by omega) ?_
      have hca := H2 a a1
      rw [f48_ok (by rw [K1, hca.len]) (by omega)]
      have hml := mx_len (show c.length = (s.getD a default).length by rw [K1, hca.len])
      refine tot_some ⟨_, rfl, by rw [hml, K1], fun p hp => ?_⟩
      rw [getD_mx (by rw [K1, hca.len]) (by omega)]
      obtain ⟨q1, q2, q3⟩ := K2 p hp
      refine ⟨by omega, fun x hx => ?_, fun hpos => ?_⟩
      · rcases Nat.lt_or_ge x k with h | h
        · have := q2 x h; omega
        · rw [show x = k by omega, ea, Int.toNat_natCast]; omega
      · rcases Int.le_total (c.getD p 0) ((s.getD a default).getD p 0) with h | h
        · exact ⟨k, by omega, by rw [ea, Int.toNat_natCast]; omega⟩
        · rw [Int.max_eq_left h] at hpos ⊢
          obtain ⟨x, x1, x2⟩ := q3 hpos
          exact ⟨x, by omega, x2⟩
    · obtain ⟨c, rfl, K1, K2⟩ := ho
      refine tot_ix hi ?_
      have enx : (l.getD i default).1 = nd l i := rfl
      rw [enx]
      refine tot_ixz hni.1 (by omega) ?_
      have hstep : IsClock n.toNat l i (c.set (nd l i).toNat (c.getD (nd l i).toNat 0 + 1)) := by
        refine isClock_step hi (fun x hx => by have := hnd x hx; omega) K1 (fun p hp => (K2 p hp).1) (fun k ck hk hd hck p hp => ?_) (fun p hp hpos => ?_) (fun k hk hd => ⟨_, H2 k hk⟩) rfl
        · obtain ⟨x, hx, e⟩ := mem_getD default ((hbf.1 (k : Int)).2 ⟨k, rfl, hk, hd⟩)
          have := (K2 p hp).2.1 x hx
          rw [e, Int.toNat_natCast] at this
          rwa [hck.uniq (H2 k hk)]
        · obtain ⟨x, hx, e⟩ := (K2 p hp).2.2 hpos
          obtain ⟨a, ea, a1, a2⟩ := (hbf.1 (bf.getD x default)).1 (getD_mem hx)
          rw [ea, Int.toNat_natCast] at e
          exact ⟨a, _, a1, a2, H2 a a1, e⟩
      have hw : w64 (c.getD (nd l i).toNat default + 1) = c.getD (nd l i).toNat 0 + 1 := by
        have h1 := hstep.rg (nd l i).toNat (by omega)
        rw [getD_set (by omega), if_pos rfl] at h1
        have h2 := cnt_le (l := l) (p := ((nd l i).toNat : Nat)) (a := l.length)
        exact w64_id (by constructor <;> show _ ≤ _ <;> (have : c.getD (nd l i).toNat default = c.getD (nd l i).toNat 0 := rfl) <;> omega)
      rw [hw]
      refine tot_need (ap24 (by omega) (by simp)) (tot_some ⟨by simp [H1], fun b hb => ?_⟩)
      rw [getD_app]
      split
      · exact H2 b (by omega)
      · rw [show b = i by omega, H1, Nat.sub_self]; exact hstep
  · exact tot_some h
theorem f19_t {n : Int} {l : List Act} : Tot (f19 n l) fun r => (¬ Ok n l ∧ r = ([], 1)) ∨ (Ok n l ∧ r.2 = 0 ∧ GClk n l r.1) := by
  unfold f19
  refine (f17_t n l).bind fun x hx => ?_
  refine tot_if (fun h => ?_) (fun h => ?_)
  · exact tot_some (.inl ⟨fun k => by rw [hx.2 k] at h; simp at h, rfl⟩)
  · have hok : Ok n l := hx.1 (by simpa using h)
    exact (f52_t hok).bind fun m hm => tot_some (.inr ⟨hok, rfl, hm⟩)

/-! heights -/
structure GHgt (l : List Act) (h : List Int) : Prop where
  len : h.length = l.length
  rg : ∀ b, b < l.length → 1 ≤ h.getD b default ∧ h.getD b default ≤ (b : Int) + 1
  up : ∀ a b, b < l.length → Pst l a b → h.getD a default + 1 ≤ h.getD b default
  at' : ∀ b, b < l.length → h.getD b default = 1 ∨ ∃ a, Pst l a b ∧ h.getD b default = h.getD a default + 1
theorem GHgt.uniq {l : List Act} {h k : List Int} (H : GHgt l h) (K : GHgt l k) : h = k := by
  refine ext_getD default (H.len.trans K.len.symm) fun j hj => ?_
  rw [H.len] at hj
  induction j using Nat.strongRecOn with
  | _ j ih =>
    apply Int.le_antisymm
    · rcases H.at' j hj with h1 | ⟨a, h1, h2⟩
      · rw [h1]; exact (K.rg j hj).1
      · rw [h2, ih a h1.lt (by have := h1.lt; omega)]; exact K.up a j hj h1
    · rcases K.at' j hj with h1 | ⟨a, h1, h2⟩
      · rw [h1]; exact (H.rg j hj).1
      · rw [h2, ← ih a h1.lt (by have := h1.lt; omega)]; exact H.up a j hj h1

theorem f54_t {n : Int} {l : List Act} (hok : Ok n l) : Tot (f54 n l) (GHgt l) := by
  have hN := hok.len
  unfold f54 f62
  simp only [Option.bind_some]
  refine (f82_t hok (fun i s => s.length = i ∧ (∀ b, b < i → 1 ≤ s.getD b default ∧ s.getD b default ≤ (b : Int) + 1) ∧ (∀ a b, b < i → Dir l a b → a < b → s.getD a default + 1 ≤ s.getD b default) ∧ ∀ b, b < i → s.getD b default = 1 ∨ ∃ a, a < b ∧ Dir l a b ∧ s.getD b default = s.getD a default + 1) ⟨rfl, fun b hb => absurd hb (by omega), fun a b hb => absurd hb (by omega), fun b hb => absurd hb (by omega)⟩ fun i s bf hi hbf H => ?_).bind fun s h => ?_
  · obtain ⟨H1, H2, H3, H4⟩ := H
    unfold f54_b0
    simp only
    rw [toNat_len]
    refine (tot_rng (fun k (v : Int) => 0 ≤ v ∧ v ≤ (i : Int) ∧ (∀ x, x < k → s.getD (bf.getD x default).toNat default ≤ v) ∧ (v = 0 ∨ ∃ x, x < k ∧ v = s.getD (bf.getD x default).toNat default)) ⟨Int.le_refl _, by omega, fun x hx => absurd hx (by omega), .inl rfl⟩ fun k v hk H => ?_).bind fun o ho => ?_
    · obtain ⟨K1, K2, K3, K4⟩ := H
      unfold f54_b1
      obtain ⟨a, ea, a1, a2⟩ := (hbf.1 (bf.getD k default)).1 (getD_mem hk)
      refine tot_ix hk ?_
      rw [ea]
      refine tot_ix (by omega) ?_
      have ha := H2 a a1
      refine tot_some ⟨_, rfl, by omega, by omega, fun x hx => ?_, ?_⟩
      · rcases Nat.lt_or_ge x k with h | h
        · have := K3 x h; omega
        · rw [show x = k by omega, ea, Int.toNat_natCast]; omega
      · rcases Int.le_total v (s.getD a default) with h | h
        · exact .inr ⟨k, by omega, by rw [ea, Int.toNat_natCast]; omega⟩
        · rw [Int.max_eq_left h]
          rcases K4 with h0 | ⟨x, x1, x2⟩
          · exact .inl h0
          · exact .inr ⟨x, by omega, x2⟩
    · obtain ⟨v, rfl, K1, K2, K3, K4⟩ := ho
      simp only
      rw [w64_id ⟨by omega, by omega⟩]
      refine tot_need (ap8 (by omega) (by simp)) (tot_some ⟨by simp [H1], fun b hb => ?_, fun a b hb hd hab => ?_, fun b hb => ?_⟩)
      · rw [getD_app]
        split
        · exact H2 b (by omega)
        · rw [show b = i by omega, H1, Nat.sub_self]
          show 1 ≤ v + 1 ∧ v + 1 ≤ (i : Int) + 1
          omega
      · rw [getD_app, getD_app, if_pos (by omega)]
        split
        · exact H3 a b (by omega) hd hab
        · have e : b = i := by omega
          subst e
          rw [H1, Nat.sub_self]
          obtain ⟨x, x1, x2⟩ := mem_getD default ((hbf.1 (a : Int)).2 ⟨a, rfl, hab, hd⟩)
          have := K3 x x1
          rw [x2, Int.toNat_natCast] at this
          show _ ≤ v + 1
          omega
      · rw [getD_app]
        split
        · rcases H4 b (by omega) with h | ⟨a, a1, a2, a3⟩
          · exact .inl h
          · refine .inr ⟨a, a1, a2, ?_⟩
            rw [getD_app, if_pos (by omega)]; exact a3
        · have e : b = i := by omega
          subst e
          rw [H1, Nat.sub_self]
          rcases K4 with h | ⟨x, x1, x2⟩
          · left; show v + 1 = 1; omega
          · obtain ⟨a, ea, a1, a2⟩ := (hbf.1 (bf.getD x default)).1 (getD_mem x1)
            rw [ea, Int.toNat_natCast] at x2
            refine .inr ⟨a, a1, a2, ?_⟩
            rw [getD_app, if_pos (by omega)]
            show v + 1 = _
            omega
  · obtain ⟨h1, h2, h3, h4⟩ := h
    refine tot_some ⟨h1, h2, fun a b hb hp => ?_, fun b hb => ?_⟩
    · induction hp with
      | dir x y => exact h3 _ _ hb y x
      | step x y _ ih =>
        have := ih (by omega)
        have := h3 _ _ hb y x
        omega
    · rcases h4 b hb with h | ⟨a, a1, a2, a3⟩
      · exact .inl h
      · exact .inr ⟨a, .dir a1 a2, a3⟩
theorem f21_t {n : Int} {l : List Act} : Tot (f21 n l) fun r => (¬ Ok n l ∧ r = ([], 1)) ∨ (Ok n l ∧ r.2 = 0 ∧ GHgt l r.1) := by
  unfold f21
  refine (f17_t n l).bind fun x hx => ?_
  refine tot_if (fun h => ?_) (fun h => ?_)
  · exact tot_some (.inl ⟨fun k => by rw [hx.2 k] at h; simp at h, rfl⟩)
  · have hok : Ok n l := hx.1 (by simpa using h)
    exact (f54_t hok).bind fun m hm => tot_some (.inr ⟨hok, rfl, hm⟩)

theorem f55_t {l : List Act} (hN : l.length ≤ 1000) : Tot (f55 l) (GHgt l) := by
  unfold f55
  refine (f23_t hN).bind fun m hm => ?_
  refine tot_need (mkOk_t (by omega) (by omega)) ?_
  rw [toNat_len]
  refine (tot_rng (fun i s => s.length = l.length ∧ (∀ b, b < i → 1 ≤ s.getD b default ∧ s.getD b default ≤ (b : Int) + 1) ∧ (∀ a b, b < i → Pst l a b → s.getD a default + 1 ≤ s.getD b default) ∧ ∀ b, b < i → s.getD b default = 1 ∨ ∃ a, Pst l a b ∧ s.getD b default = s.getD a default + 1) ⟨by simp, fun b hb => absurd hb (by omega), fun a b hb => absurd hb (by omega), fun b hb => absurd hb (by omega)⟩ fun i s hi H => ?_).bind fun o ho => ?_
  · obtain ⟨H1, H2, H3, H4⟩ := H
    unfold f55_b0
    refine tot_ix (by omega) (tot_ix (by rw [hm.1]; omega) ?_)
    obtain ⟨g1, g2⟩ := hm.2 i hi
    rw [toNat_len, g1, Int.toNat_natCast]
    refine (tot_rng (fun k t => t.length = l.length ∧ (∀ b, b < l.length → b ≠ i → t.getD b default = s.getD b default) ∧ 1 ≤ t.getD i default ∧ t.getD i default ≤ (i : Int) + 1 ∧ (∀ x, x < k → Pst l x i → s.getD x default + 1 ≤ t.getD i default) ∧ (t.getD i default = 1 ∨ ∃ x, Pst l x i ∧ t.getD i default = s.getD x default + 1)) ⟨by simp [H1], fun b hb hne => ?_, ?_, ?_, fun x hx => absurd hx (by omega), ?_⟩ fun k t hk H => ?_).bind fun o ho => ?_
    · rw [getD_set (by omega), if_neg (by omega)]
    · rw [getD_set (by omega), if_pos rfl]; exact Int.le_refl _
    · rw [getD_set (by omega), if_pos rfl]; omega
    · rw [getD_set (by omega), if_pos rfl]; exact .inl rfl
    · obtain ⟨K1, K2, K3, K4, K5, K6⟩ := H
      unfold f55_b1
      refine Tot.bind (Q := fun o => ∃ t', o = .inl t' ∧ t'.length = l.length ∧ (∀ b, b < l.length → b ≠ i → t'.getD b default = s.getD b default) ∧ 1 ≤ t'.getD i default ∧ t'.getD i default ≤ (i : Int) + 1 ∧ (∀ x, x < k + 1 → Pst l x i → s.getD x default + 1 ≤ t'.getD i default) ∧ (t'.getD i default = 1 ∨ ∃ x, Pst l x i ∧ t'.getD i default = s.getD x default + 1)) ?_ fun o ho => ?_
      · refine tot_ix (by omega) ?_
        refine tot_if (fun h => ?_) (fun h => ?_)
        · have hp := (g2 k hk).1 h
          have hki := hp.lt
          refine tot_ix (by omega) (tot_ix (by omega) ?_)
          rw [Int.toNat_natCast, K2 k hk (by omega)]
          have hsk := H2 k hki
          rw [w64_id ⟨by omega, by omega⟩]
          refine tot_some ⟨_, rfl, by simp [K1], fun b hb hne => ?_, ?_, ?_, fun x hx hpx => ?_, ?_⟩
          · rw [getD_set (by omega), if_neg (by omega)]; exact K2 b hb hne
          · rw [getD_set (by omega), if_pos rfl]; omega
          · rw [getD_set (by omega), if_pos rfl]; omega
          · rw [getD_set (by omega), if_pos rfl]
            rcases Nat.lt_or_ge x k with c | c
            · have := K5 x c hpx; omega
            · rw [show x = k by omega]; omega
          · rw [getD_set (by omega), if_pos rfl]
            rcases Int.le_total (t.getD i default) (s.getD k default + 1) with c | c
            · exact .inr ⟨k, hp, by omega⟩
            · rw [Int.max_eq_left c]; exact K6
        · refine tot_some ⟨_, rfl, K1, K2, K3, K4, fun x hx hpx => ?_, K6⟩
          rcases Nat.lt_or_ge x k with c | c
          · exact K5 x c hpx
          · rw [show x = k by omega] at hpx; rw [(g2 k hk).2 hpx] at h; cases h
      · obtain ⟨t', rfl, h⟩ := ho
        exact tot_some ⟨_, rfl, h⟩
    · obtain ⟨t, rfl, K1, K2, K3, K4, K5, K6⟩ := ho
      refine tot_some ⟨_, rfl, K1, fun b hb => ?_, fun a b hb hp => ?_, fun b hb => ?_⟩
      · rcases Nat.lt_or_ge b i with c | c
        · rw [K2 b (by omega) (by omega)]; exact H2 b c
        · rw [show b = i by omega]; exact ⟨K3, K4⟩
      · have := hp.lt
        rw [K2 a (by omega) (by omega)]
        rcases Nat.lt_or_ge b i with c | c
        · rw [K2 b (by omega) (by omega)]; exact H3 a b c hp
        · rw [show b = i by omega] at hp ⊢
          exact K5 a (by have := hp.lt; omega) hp
      · rcases Nat.lt_or_ge b i with c | c
        · rw [K2 b (by omega) (by omega)]
          rcases H4 b c with h | ⟨a, a1, a2⟩
          · exact .inl h
          · have := a1.lt
            exact .inr ⟨a, a1, by rw [K2 a (by omega) (by omega)]; exact a2⟩
        · rw [show b = i by omega]
          rcases K6 with h | ⟨a, a1, a2⟩
          · exact .inl h
          · have := a1.lt
            exact .inr ⟨a, a1, by rw [K2 a (by omega) (by omega)]; exact a2⟩
  · obtain ⟨s, rfl, h1, h2, h3, h4⟩ := ho
    exact tot_some ⟨h1, h2, h3, h4⟩
theorem f22_t {n : Int} {l : List Act} (hR : RA l) : Tot (f22 n l) fun r => (¬ Ok n l ∧ r = ([], 1)) ∨ (Ok n l ∧ r.2 = 0 ∧ GHgt l r.1) := by
  unfold f22
  refine (f53_nil n l hR).bind fun x hx => ?_
  rcases hx with ⟨rfl, hok⟩ | ⟨rfl, hok⟩
  · exact (f55_t hok.len).bind fun m hm => tot_some (.inr ⟨hok, rfl, hm⟩)
  · exact tot_some (.inl ⟨hok, rfl⟩)
end Go.Ab

set_option linter.unusedVariables false
namespace Go.Ab

/-! layer 29: the law CauseClocks -/
theorem f9_t {a b : List Int} (h : okC a b = true) : Tot (f9 a b) fun r => r.2 = 0 ∧ ∃ less more : Bool, (less = true ↔ ∃ p, p < a.length ∧ a.getD p 0 < b.getD p 0) ∧ (more = true ↔ ∃ p, p < a.length ∧ b.getD p 0 < a.getD p 0) ∧ r.1 = (if less && more then 2 else if less then -1 else if more then 1 else 0) := by
  obtain ⟨h1, h2⟩ := okC_len h
  unfold f9
  rw [f45_ok, h, toNat_len]
  simp only [Option.bind_some, Bool.not_true, cond_false]
  refine (tot_rng (fun k (s : Bool × Bool) => (s.1 = true ↔ ∃ p, p < k ∧ a.getD p 0 < b.getD p 0) ∧ (s.2 = true ↔ ∃ p, p < k ∧ b.getD p 0 < a.getD p 0)) ⟨?_, ?_⟩ fun k s hk H => ?_).bind fun o ho => ?_
  · constructor
    · intro h; cases h
    · rintro ⟨p, hp, _⟩; omega
  · constructor
    · intro h; cases h
    · rintro ⟨p, hp, _⟩; omega
  · obtain ⟨s5, s6⟩ := s
    obtain ⟨H1, H2⟩ := H
    have step : ∀ {P : Nat → Prop}, (∃ p, p < k + 1 ∧ P p) ↔ (∃ p, p < k ∧ P p) ∨ P k := by
      intro P
      constructor
      · rintro ⟨p, p1, p2⟩
        rcases Nat.lt_or_ge p k with c | c
        · exact .inl ⟨p, c, p2⟩
        · rw [show p = k by omega] at p2; exact .inr p2
      · rintro (⟨p, p1, p2⟩ | p2)
        · exact ⟨p, by omega, p2⟩
        · exact ⟨k, by omega, p2⟩
    unfold f9_b0
    simp only
    rw [ix_getD hk, ix_getD (show k < b.length by omega)]
    simp only [Option.isSome_some, Bool.or_true, cond_true, Option.getD_some]
    refine tot_some ⟨_, rfl, ?_, ?_⟩
    · rw [Bool.or_eq_true, H1, step, decide_eq_true_eq]; rfl
    · rw [Bool.or_eq_true, H2, step, decide_eq_true_eq]; rfl
  · obtain ⟨⟨s5, s6⟩, rfl, H1, H2⟩ := ho
    have : Tot (some ((if s5 && s6 then 2 else if s5 then -1 else if s6 then 1 else 0 : Int), (0 : Int))) fun r => r.2 = 0 ∧ ∃ less more : Bool, (less = true ↔ ∃ p, p < a.length ∧ a.getD p 0 < b.getD p 0) ∧ (more = true ↔ ∃ p, p < a.length ∧ b.getD p 0 < a.getD p 0) ∧ r.1 = (if less && more then 2 else if less then -1 else if more then 1 else 0) := tot_some ⟨rfl, s5, s6, H1, H2, rfl⟩
    cases s5 <;> cases s6 <;> exact this
theorem okC_clk {n : Nat} {l : List Act} {x y : Nat} {a b : List Int} (h : IsClock n l x a) (k : IsClock n l y b) (h1 : 1 ≤ n) (h2 : n ≤ 16) : okC a b = true := by
  have neg0 : ∀ {c : List Int} {z : Nat}, IsClock n l z c → c.any neg = false := fun {c z} hc => by
    rw [List.any_eq_false]
    intro v hv
    obtain ⟨j, j1, rfl⟩ := mem_getD 0 hv
    have := (hc.rg j (by rw [← hc.len]; exact j1)).1
    simp only [neg, decide_eq_true_eq]; omega
  simp only [okC, neg0 h, neg0 k, h.len, k.len, Bool.not_false, Bool.and_true, decide_true, Bool.true_and, Bool.and_eq_true, decide_eq_true_eq]
  omega
/-- Compare of the clocks of two events. -/
theorem f9_clk {n : Int} {l : List Act} (hok : Ok n l) {m : List (List Int)} (hm : GClk n l m) {x y : Nat} (hx : x < l.length) (hy : y < l.length) :
    Tot (f9 (m.getD x default) (m.getD y default)) fun r => r.2 = 0 ∧ ((x = y ∧ r.1 = 0) ∨ (Pst l x y ∧ r.1 = -1) ∨ (Pst l y x ∧ r.1 = 1) ∨ (x ≠ y ∧ ¬ Pst l x y ∧ ¬ Pst l y x ∧ r.1 = 2)) := by
  obtain ⟨n1, n2⟩ := hok.n
  have hnd := hok.nd
  have cx := hm.2 x hx
  have cy := hm.2 y hy
  have lt : ∀ {x y : Nat}, x < l.length → y < l.length → ((∃ p, p < n.toNat ∧ (m.getD y default).getD p 0 < (m.getD x default).getD p 0) ↔ x ≠ y ∧ ¬ Pst l x y) := by
    intro x y hx hy
    have cx := hm.2 x hx
    have cy := hm.2 y hy
    have hnx := hnd x hx
    have hb := cx.before cy hx (by omega)
    constructor
    · rintro ⟨p, p1, p2⟩
      refine ⟨fun e => by subst e; omega, fun h => ?_⟩
      have := cx.le cy h p1
      omega
    · rintro ⟨h1, h2⟩
      refine ⟨(nd l x).toNat, by omega, ?_⟩
      rcases Int.lt_or_le ((m.getD y default).getD (nd l x).toNat 0) ((m.getD x default).getD (nd l x).toNat 0) with c | c
      · exact c
      · rcases hb.2 c with h | h
        · exact absurd h h1
        · exact absurd h h2
  refine (f9_t (okC_clk cx cy (by omega) (by omega))).mono fun r hr => ?_
  obtain ⟨r1, less, more, r2, r3, r4⟩ := hr
  rw [cx.len] at r2 r3
  rw [lt hy hx] at r2
  rw [lt hx hy] at r3
  refine ⟨r1, ?_⟩
  by_cases e : x = y
  · have l0 : less = false := Bool.eq_false_iff.2 fun h => (r2.1 h).1 e.symm
    have m0 : more = false := Bool.eq_false_iff.2 fun h => (r3.1 h).1 e
    rw [l0, m0] at r4
    exact .inl ⟨e, r4⟩
  by_cases h1 : Pst l x y
  · have l1 : less = true := r2.2 ⟨fun h => e h.symm, fun h => by have := h.lt; have := h1.lt; omega⟩
    have m0 : more = false := Bool.eq_false_iff.2 fun h => (r3.1 h).2 h1
    rw [l1, m0] at r4
    exact .inr (.inl ⟨h1, r4⟩)
  by_cases h2 : Pst l y x
  · have l0 : less = false := Bool.eq_false_iff.2 fun h => (r2.1 h).2 h2
    have m1 : more = true := r3.2 ⟨e, h1⟩
    rw [l0, m1] at r4
    exact .inr (.inr (.inl ⟨h2, r4⟩))
  · have l1 : less = true := r2.2 ⟨fun h => e h.symm, h2⟩
    have m1 : more = true := r3.2 ⟨e, h1⟩
    rw [l1, m1] at r4
    exact .inr (.inr (.inr ⟨e, h1, h2, r4⟩))

theorem f14_t (l : List Act) : Tot (f14 l) fun r => r = true → l.length ≤ 40 := by
  unfold f14
  rw [toNat_len]
  refine (tot_rngx (fun _ _ => True) (fun _ => True) trivial fun i s hi _ => ?_).bind fun o ho => ?_
  · unfold f14_b0
    refine tot_ix hi (tot_if (fun h => tot_some (.inr ⟨_, rfl, trivial⟩)) fun h => tot_some (.inl ⟨_, rfl, trivial⟩))
  · rcases ho with ⟨⟨⟩, rfl, _⟩ | ⟨⟨⟩, rfl, _⟩
    · exact tot_some fun h => by have := of_decide_eq_true h; omega
    · exact tot_some fun h => by cases h

/-- CauseClocks returns true. -/
theorem f4_t (n : Int) (l : List Act) (hR : RA l) : f4 n l = some true := by
  refine Tot.eq ?_
  unfold f4
  refine (f14_t l).bind fun x1 h1 => ?_
  refine tot_if (fun h => ?_) (fun h => ?_)
  · rw [f8_t]; exact tot_some rfl
  have hlen := h1 (by simpa using h)
  obtain ⟨w, e1, e2, hw⟩ := wrong_eq n l hR
  rw [e1, e2, valid_p, valid_r n l hR]
  simp only [Option.bind_some, decide_true, Bool.not_true, Bool.or_self, Option.isSome_some, Bool.or_true, cond_true, cond_false, Option.getD_some]
  obtain ⟨cp, e3, h3⟩ := f19_t (n := n) (l := l)
  obtain ⟨cr, e4, h4⟩ := f20_t (n := n) hR
  obtain ⟨hp, e5, h5⟩ := f21_t (n := n) (l := l)
  obtain ⟨hr, e6, h6⟩ := f22_t (n := n) hR
  rw [e3, e4, e5, e6]
  have ec : cp = cr := by
    rcases h3 with ⟨k, rfl⟩ | ⟨k, k1, k2⟩
    · rcases h4 with ⟨_, rfl⟩ | ⟨k', _⟩
      · rfl
      · exact absurd k' k
    · rcases h4 with ⟨k', _⟩ | ⟨_, k3, k4⟩
      · exact absurd k k'
      · exact Prod.ext (k2.uniq k4) (k1.trans k3.symm)
  have eh : hp = hr := by
    rcases h5 with ⟨k, rfl⟩ | ⟨k, k1, k2⟩
    · rcases h6 with ⟨_, rfl⟩ | ⟨k', _⟩
      · rfl
      · exact absurd k' k
    · rcases h6 with ⟨k', _⟩ | ⟨_, k3, k4⟩
      · exact absurd k k'
      · exact Prod.ext (k2.uniq k4) (k1.trans k3.symm)
  subst ec eh
  simp only [Option.bind_some, decide_true, Bool.not_true, Bool.or_self, f13_refl, Option.isSome_some, Bool.or_true, cond_true, cond_false, Option.getD_some, toNat_len]
  refine (tot_rng (fun _ _ => True) trivial fun i s hi _ => ?_).bind fun o ho => ?_
  · unfold f4_b0
    refine tot_ix hi (tot_ix hi ?_)
    rw [f13_refl]
    exact tot_some ⟨_, rfl, trivial⟩
  obtain ⟨⟨⟩, rfl, _⟩ := ho
  simp only
  refine tot_if (fun h => ?_) (fun h => ?_)
  · rw [f8_t]; exact tot_some rfl
  have c0 : cp.2 = 0 := by simpa using h
  rcases h3 with ⟨_, rfl⟩ | ⟨hok, _, hm⟩
  · exact absurd c0 (by decide)
  rcases h5 with ⟨k, _⟩ | ⟨_, _, hh⟩
  · exact absurd hok k
  refine (f23_t (by omega)).bind fun P hP => ?_
  refine (tot_rng (fun _ _ => True) trivial fun x s hx _ => ?_).bind fun o ho => ?_
  · unfold f4_b1
    rw [toNat_len]
    refine (tot_rng (fun _ _ => True) trivial fun y s hy _ => ?_).bind fun o ho => ?_
    · unfold f4_b2
      refine Tot.bind (Q := fun o => ∃ w : Int, o = .inl w ∧ ((x = y ∧ w = 0) ∨ (Pst l x y ∧ w = -1) ∨ (Pst l y x ∧ w = 1) ∨ (x ≠ y ∧ ¬ Pst l x y ∧ ¬ Pst l y x ∧ w = 2))) ?_ fun o ho => ?_
      · refine tot_if (fun h => ?_) (fun h => ?_)
        · exact tot_some ⟨_, rfl, .inl ⟨by have := of_decide_eq_true h; omega, rfl⟩⟩
        have hne : x ≠ y := fun e => of_decide_eq_false h (by rw [e])
        refine tot_ix (by rw [hP.1]; omega) ?_
        have gy := hP.2 y hy
        have gx := hP.2 x hx
        refine tot_ix (by rw [gy.1]; omega) ?_
        refine tot_if (fun h => tot_some ⟨_, rfl, .inr (.inl ⟨(gy.2 x hx).1 h, rfl⟩)⟩) (fun h => ?_)
        refine tot_ix (by rw [hP.1]; omega) (tot_ix (by rw [gx.1]; omega) ?_)
        refine tot_if (fun h' => tot_some ⟨_, rfl, .inr (.inr (.inl ⟨(gx.2 y hy).1 h', rfl⟩))⟩) (fun h' => ?_)
        exact tot_some ⟨_, rfl, .inr (.inr (.inr ⟨hne, fun c => (by rw [(gy.2 x hx).2 c] at h; cases h), fun c => (by rw [(gx.2 y hy).2 c] at h'; cases h'), rfl⟩))⟩
      · obtain ⟨w, rfl, hw⟩ := ho
        simp only
        refine tot_ix (by rw [hm.1]; omega) (tot_ix (by rw [hm.1]; omega) ?_)
        refine (f9_clk hok hm hx hy).bind fun r hr => ?_
        obtain ⟨r1, r2⟩ := hr
        have er : r.1 = w := by
          rcases r2 with ⟨a, b⟩ | ⟨a, b⟩ | ⟨a, b⟩ | ⟨a, a', a'', b⟩ <;> rcases hw with ⟨c, d⟩ | ⟨c, d⟩ | ⟨c, d⟩ | ⟨c, c', c'', d⟩ <;> (try rw [b, d])
          · have := c.lt; omega
          · have := c.lt; omega
          · exact absurd a c
          · have := a.lt; omega
          · have := a.lt; have := c.lt; omega
          · exact absurd a c'
          · have := a.lt; omega
          · have := a.lt; have := c.lt; omega
          · exact absurd a c''
          · exact absurd c a
          · exact absurd c a'
          · exact absurd c a''
        rw [ix_getD (show x < hp.1.length by rw [hh.len]; exact hx), ix_getD (show y < hp.1.length by rw [hh.len]; exact hy)]
        simp only [Option.isSome_some, Bool.or_true, cond_true, Option.getD_some, r1, er, decide_true, Bool.not_true, Bool.or_self, Bool.false_or]
        refine tot_if (fun h => ?_) (fun h => tot_some ⟨_, rfl, trivial⟩)
        simp only [Bool.and_eq_true, decide_eq_true_eq] at h
        obtain ⟨a, b⟩ := h
        rcases hw with ⟨c, d⟩ | ⟨c, d⟩ | ⟨c, d⟩ | ⟨c, c', c'', d⟩
        · omega
        · have := hh.up x y hy c; omega
        · omega
        · omega
    · obtain ⟨⟨⟩, rfl, _⟩ := ho
      exact tot_some ⟨_, rfl, trivial⟩
  · obtain ⟨⟨⟩, rfl, _⟩ := ho
    simp only
    rw [f8_t]; exact tot_some rfl
end Go.Ab

set_option linter.unusedVariables false
namespace Go.Ab

/-! layer 29: cuts -/
/-- An event is in a cut. -/
def InC (l : List Act) (c : List Int) (j : Nat) : Prop := (idx l j : Int) ≤ c.getD (nd l j).toNat 0
def CutOk (n : Int) (c : List Int) : Prop := (c.length : Int) = n ∧ ∀ p, p < c.length → 0 ≤ c.getD p 0
def CutIn (l : List Act) (c : List Int) : Prop := ∀ p : Nat, p < c.length → c.getD p 0 ≤ cnt l p l.length
def Cons (l : List Act) (c : List Int) : Prop := ∀ b, b < l.length → InC l c b → ∀ a, Pst l a b → InC l c a

/-- How many events each node has. -/
theorem count_t {n : Int} {l : List Act} (hok : Ok n l) {g : Int → List Int → Option ((List Int) ⊕ Unit)} (hg : ∀ (i : Nat) s, g i s = (ix l i).bind fun x10 => (ix s x10.1).bind fun x12 => some (.inl (s.set (Int.toNat x10.1) (w64 (x12 + 1))))) :
    Tot (rng g l.length 0 (List.replicate n.toNat 0)) fun o => ∃ s, o = .inl s ∧ s.length = n.toNat ∧ ∀ p, p < n.toNat → s.getD p 0 = cnt l p l.length := by
  have hN := hok.len
  obtain ⟨n1, n2⟩ := hok.n
  have hnd := hok.nd
  refine (tot_rng (fun i (s : List Int) => s.length = n.toNat ∧ ∀ p, p < n.toNat → s.getD p 0 = cnt l p i) ⟨by simp, fun p hp => by rw [getD_rep hp]; rfl⟩ fun i s hi H => ?_)
  obtain ⟨H1, H2⟩ := H
  have hni := hnd i hi
  rw [hg]
  refine tot_ix hi ?_
  have e : (l.getD i default).1 = nd l i := rfl
  rw [e]
  refine tot_ixz hni.1 (by omega) ?_
  have hv := H2 (nd l i).toNat (by omega)
  have hc := cnt_le (l := l) (p := ((nd l i).toNat : Nat)) (a := i)
  have hw : w64 (s.getD (nd l i).toNat default + 1) = s.getD (nd l i).toNat 0 + 1 := w64_id (by
    show R64 (s.getD (nd l i).toNat 0 + 1)
    rw [hv]; constructor <;> omega)
  rw [hw]
  refine tot_some ⟨_, rfl, by simp [H1], fun p hp => ?_⟩
  rw [getD_set (by omega)]
  simp only [cnt]
  by_cases e : (nd l i).toNat = p
  · rw [if_pos e, if_pos (by omega), hv, e]; omega
  · rw [if_neg e, if_neg (by omega), H2 p hp]; omega
theorem f85_t {n : Int} {l : List Act} (hok : Ok n l) : Tot (f85 n l) fun s => s.length = n.toNat ∧ ∀ p, p < n.toNat → s.getD p 0 = cnt l p l.length := by
  obtain ⟨n1, n2⟩ := hok.n
  unfold f85
  refine tot_need (mkOk_t (by omega) (by omega)) ?_
  rw [toNat_len]
  refine (count_t hok (fun i s => rfl)).bind fun o ho => ?_
  obtain ⟨s, rfl, h⟩ := ho
  exact tot_some h
theorem any_neg {c : List Int} : (c.any fun x => decide (x < 0)) = true ↔ ¬ ∀ p, p < c.length → 0 ≤ c.getD p 0 := by
  rw [List.any_eq_true]
  constructor
  · rintro ⟨x, hx, h⟩ hall
    obtain ⟨j, j1, rfl⟩ := mem_getD 0 hx
    have := hall j j1
    have := of_decide_eq_true h
    omega
  · intro h
    refine Classical.byContradiction fun hc => h fun p hp => ?_
    rcases Int.lt_or_le (c.getD p 0) 0 with k | k
    · exact absurd ⟨_, getD_mem hp, decide_eq_true k⟩ hc
    · exact k
/-- What is asked of a cut. -/
def CutErr (n : Int) (l : List Act) (c : List Int) (r : Int) : Prop := (¬ (Ok n l ∧ CutOk n c) ∧ r = 1) ∨ (Ok n l ∧ CutOk n c ∧ ¬ CutIn l c ∧ r = 7) ∨ (Ok n l ∧ CutOk n c ∧ CutIn l c ∧ r = 0)
theorem CutErr.uniq {n : Int} {l : List Act} {c : List Int} {r q : Int} (h : CutErr n l c r) (k : CutErr n l c q) : r = q := by
  rcases h with ⟨h1, h2⟩ | ⟨h1, h2, h3, h4⟩ | ⟨h1, h2, h3, h4⟩ <;> rcases k with ⟨k1, k2⟩ | ⟨k1, k2, k3, k4⟩ | ⟨k1, k2, k3, k4⟩
  · rw [h2, k2]
  · exact absurd ⟨k1, k2⟩ h1
  · exact absurd ⟨k1, k2⟩ h1
  · exact absurd ⟨h1, h2⟩ k1
  · rw [h4, k4]
  · exact absurd k3 h3
  · exact absurd ⟨h1, h2⟩ k1
  · exact absurd h3 k3
  · rw [h4, k4]
theorem CutErr.zero {n : Int} {l : List Act} {c : List Int} (h : CutErr n l c 0) : Ok n l ∧ CutOk n c ∧ CutIn l c := by
  rcases h with ⟨h1, h2⟩ | ⟨h1, h2, h3, h4⟩ | ⟨h1, h2, h3, h4⟩
  · exact absurd h2 (by decide)
  · exact absurd h4 (by decide)
  · exact ⟨h1, h2, h3⟩
theorem f63_t (n : Int) (l : List Act) (c : List Int) : Tot (f63 n l c) (CutErr n l c) := by
  unfold f63
  rw [valid_p]
  have hq : f75 c (fun y1 => f84 y1) = some (c.any fun x => decide (x < 0)) := f75_any c _
  rw [hq]
  simp only [Option.bind_some, Option.isSome_some, Bool.or_true, cond_true, Option.getD_some]
  by_cases hok : Ok n l
  rotate_left
  · refine tot_if (fun h => tot_some (.inl ⟨fun h => hok h.1, rfl⟩)) (fun h => ?_)
    simp [hok] at h
  refine tot_if (fun h => ?_) (fun h => ?_)
  · refine tot_some (.inl ⟨?_, rfl⟩)
    rintro ⟨_, c1, c2⟩
    simp only [hok, decide_true, Bool.not_true, Bool.false_or, Bool.or_eq_true, Bool.not_eq_true', decide_eq_false_iff_not] at h
    rcases h with h | h
    · exact h c1
    · exact any_neg.1 h c2
  have hcut : CutOk n c := by
    simp only [hok, decide_true, Bool.not_true, Bool.false_or, Bool.or_eq_false_iff, Bool.not_eq_false', decide_eq_true_eq] at h
    refine ⟨h.1, Classical.byContradiction fun hc => ?_⟩
    have := any_neg.2 hc
    rw [h.2] at this; cases this
  refine (f85_t hok).bind fun s hs => ?_
  have hn : n.toNat = c.length := by have := hcut.1; omega
  rw [toNat_len, hs.1, hn]
  refine (tot_rngx (fun i _ => ∀ p : Nat, p < i → c.getD p 0 ≤ cnt l p l.length) (fun _ => ¬ CutIn l c) (fun p hp => absurd hp (by omega)) fun i _ hi H => ?_).bind fun o ho => ?_
  · unfold f63_b0
    refine tot_ix (by omega) (tot_ix hi ?_)
    have e : s.getD i default = cnt l i l.length := hs.2 i (by omega)
    rw [e]
    refine tot_if (fun h => tot_some (.inr ⟨_, rfl, fun k => ?_⟩)) (fun h => tot_some (.inl ⟨_, rfl, fun p hp => ?_⟩))
    · have h1 := k i hi
      have h2 : (cnt l i l.length : Int) < c.getD i 0 := of_decide_eq_true h
      omega
    · rcases Nat.lt_or_ge p i with k | k
      · exact H p k
      · have h2 : ¬ (cnt l i l.length : Int) < c.getD i 0 := of_decide_eq_false h
        rw [show p = i by omega]; omega
  · rcases ho with ⟨⟨⟩, rfl, h⟩ | ⟨⟨⟩, rfl, h⟩
    · exact tot_some (.inr (.inr ⟨hok, hcut, h, rfl⟩))
    · exact tot_some (.inr (.inl ⟨hok, hcut, h, rfl⟩))
theorem f47_one (n : Int) (c : List Int) : f47 n [c] = some (decide ((c.length : Int) = n) && !c.any neg) := by
  unfold f47
  have hl : Int.toNat (List.length [c] : Int) = 1 := rfl
  rw [hl]
  have e0 : rng (f47_b1 c) (Int.toNat (c.length : Int)) 0 () = some (if c.any neg then .inr () else .inl ()) := by rw [toNat_len]; exact f47_in c
  have g0 : f47_b0 n [c] 0 () = some (if decide ((c.length : Int) = n) && !c.any neg then .inl () else .inr ()) := by
    unfold f47_b0
    have : ix [c] 0 = some c := rfl
    rw [this]
    simp only [Option.bind_some]
    rw [e0]
    cases decide ((c.length : Int) = n) <;> cases c.any neg <;> simp
  simp only [rng, g0]
  cases decide ((c.length : Int) = n) <;> cases c.any neg <;> simp
theorem f65_t (n : Int) (l : List Act) (c : List Int) (hR : RA l) : Tot (f65 n l c) (CutErr n l c) := by
  unfold f65
  rw [valid_r n l hR, f47_one]
  simp only [Option.bind_some, Option.isSome_some, Bool.or_true, cond_true, Option.getD_some]
  by_cases hok : Ok n l
  rotate_left
  · refine tot_if (fun h => tot_some (.inl ⟨fun h => hok h.1, rfl⟩)) (fun h => ?_)
    simp [hok] at h
  have hcut : (decide ((c.length : Int) = n) && !c.any neg) = true ↔ CutOk n c := by
    rw [Bool.and_eq_true, decide_eq_true_eq, Bool.not_eq_true', ← Bool.not_eq_true, any_neg]
    exact ⟨fun h => ⟨h.1, Classical.byContradiction h.2⟩, fun h => ⟨h.1, fun k => k h.2⟩⟩
  refine tot_if (fun h => ?_) (fun h => ?_)
  · refine tot_some (.inl ⟨fun k => ?_, rfl⟩)
    simp only [hok, decide_true, Bool.not_true, Bool.false_or, hcut.2 k.2] at h
    cases h
  have hc : CutOk n c := by
    refine hcut.1 ?_
    simp only [hok, decide_true, Bool.not_true, Bool.false_or] at h
    simpa using h
  obtain ⟨n1, n2⟩ := hok.n
  refine tot_need (mkOk_t (by omega) (by omega)) ?_
  rw [toNat_len]
  refine (count_t hok (fun i s => rfl)).bind fun o ho => ?_
  obtain ⟨s, rfl, h1, h2⟩ := ho
  simp only
  have hn : n.toNat = c.length := by have := hc.1; omega
  rw [toNat_len]
  refine (tot_rngx (fun i _ => ∀ p : Nat, p < i → c.getD p 0 ≤ cnt l p l.length) (fun _ => ¬ CutIn l c) (fun p hp => absurd hp (by omega)) fun i _ hi H => ?_).bind fun o ho => ?_
  · unfold f65_b1
    refine tot_ix hi (tot_ix (by omega) ?_)
    have e : s.getD i default = cnt l i l.length := h2 i (by omega)
    rw [e]
    refine tot_if (fun h => tot_some (.inr ⟨_, rfl, fun k => ?_⟩)) (fun h => tot_some (.inl ⟨_, rfl, fun p hp => ?_⟩))
    · have h1 := k i hi
      have h2 : (cnt l i l.length : Int) < c.getD i 0 := of_decide_eq_true h
      omega
    · rcases Nat.lt_or_ge p i with k | k
      · exact H p k
      · have h2 : ¬ (cnt l i l.length : Int) < c.getD i 0 := of_decide_eq_false h
        rw [show p = i by omega]; omega
  · rcases ho with ⟨⟨⟩, rfl, h⟩ | ⟨⟨⟩, rfl, h⟩
    · exact tot_some (.inr (.inr ⟨hok, hc, h, rfl⟩))
    · exact tot_some (.inr (.inl ⟨hok, hc, h, rfl⟩))

/-! consistent cuts -/
theorem f69_t {n : Int} {l : List Act} (hok : Ok n l) {m : List (List Int)} (hm : GClk n l m) {c : List Int} (hc : CutOk n c) {i : Nat} (hi : i < l.length) : Tot (f69 (m.getD i default) c (nd l i)) fun r => (r = true ↔ InC l c i) := by
  have hni := hok.nd i hi
  have ci := hm.2 i hi
  have h1 := hc.1
  unfold f69
  refine tot_ixz hni.1 (by rw [ci.len]; omega) (tot_ixz hni.1 (by omega) (tot_some ?_))
  rw [decide_eq_true_eq]
  have e : (m.getD i default).getD (nd l i).toNat default = (idx l i : Int) := ci.self hi (by omega)
  rw [e]; rfl
theorem f70_t {a b : List Int} (h : a.length = b.length) : Tot (f70 a b) fun r => (r = true ↔ ∀ p, p < a.length → a.getD p 0 ≤ b.getD p 0) := by
  unfold f70
  rw [toNat_len]
  refine (tot_rngx (fun i _ => ∀ p, p < i → a.getD p 0 ≤ b.getD p 0) (fun _ => ∃ p, p < a.length ∧ b.getD p 0 < a.getD p 0) (fun p hp => absurd hp (by omega)) fun i _ hi H => ?_).bind fun o ho => ?_
  · unfold f70_b0
    refine tot_ix hi (tot_ix (by omega) ?_)
    refine tot_if (fun h => tot_some (.inr ⟨_, rfl, i, hi, of_decide_eq_true h⟩)) (fun h => tot_some (.inl ⟨_, rfl, fun p hp => ?_⟩))
    rcases Nat.lt_or_ge p i with k | k
    · exact H p k
    · have := of_decide_eq_false h
      rw [show p = i by omega]
      exact Int.not_lt.1 this
  · rcases ho with ⟨⟨⟩, rfl, h⟩ | ⟨⟨⟩, rfl, p, p1, p2⟩
    · exact tot_some ⟨fun _ => h, fun _ => rfl⟩
    · exact tot_some ⟨fun h => absurd h (by decide), fun h => by have := h p p1; omega⟩
/-- An event's clock is below a cut exactly if the event and all before it are in the cut. -/
theorem below_iff {n : Int} {l : List Act} (hok : Ok n l) {c ck : List Int} (hc : CutOk n c) {i : Nat} (ci : IsClock n.toNat l i ck) : (∀ p, p < ck.length → ck.getD p 0 ≤ c.getD p 0) ↔ ∀ j, j < l.length → (j = i ∨ Pst l j i) → InC l c j := by
  have hnd := hok.nd
  rw [ci.len]
  constructor
  · intro h j hj hp
    have hnj := hnd j hj
    exact Int.le_trans ((ci.iff j hj).1 hp) (h _ (by omega))
  · intro h p hp
    have h0 := ci.rg p hp
    have h1 := hc.1
    have h2 := hc.2 p (by omega)
    rcases Int.lt_or_le 0 (ck.getD p 0) with k | k
    · obtain ⟨j, h4, h5, h6⟩ := idx_ex (l := l) (p := (p : Int)) (m := (ck.getD p 0).toNat) (N := l.length) (by omega) (by omega)
      have h7 := h j h4 ((ci.iff j h4).2 (by rw [h5, h6, Int.toNat_natCast]; omega))
      unfold InC at h7
      rw [h5, h6, Int.toNat_natCast] at h7
      omega
    · omega
theorem f64_t {n : Int} {l : List Act} (hok : Ok n l) {m : List (List Int)} (hm : GClk n l m) {c : List Int} (hc : CutOk n c) : Tot (f64 l m c) fun r => (r = true ↔ Cons l c) := by
  unfold f64
  rw [toNat_len]
  refine (tot_rngx (fun i _ => ∀ b, b < i → InC l c b → ∀ a, Pst l a b → InC l c a) (fun _ => ¬ Cons l c) (fun p hp => absurd hp (by omega)) fun i _ hi H => ?_).bind fun o ho => ?_
  · unfold f64_b0
    have ci := hm.2 i hi
    refine tot_ix hi (tot_ix (by rw [hm.1]; exact hi) ?_)
    have e : (l.getD i default).1 = nd l i := rfl
    rw [e]
    refine (f69_t hok hm hc hi).bind fun x10 h10 => ?_
    rw [ix_getD (show i < m.length by rw [hm.1]; exact hi)]
    simp only [Option.isSome_some, Bool.or_true, cond_true, Option.getD_some]
    have h1 := hc.1
    obtain ⟨r, e2, hr⟩ := f70_t (a := m.getD i default) (b := c) (by rw [ci.len]; omega)
    rw [e2]
    rw [below_iff hok hc ci] at hr
    simp only [Option.isSome_some, Bool.or_true, cond_true, Option.getD_some]
    refine tot_if (fun h => tot_some (.inr ⟨_, rfl, fun k => ?_⟩)) (fun h => tot_some (.inl ⟨_, rfl, fun b hb hin a ha => ?_⟩))
    · simp only [Bool.and_eq_true, Bool.not_eq_true'] at h
      have hin := h10.1 h.1
      have : r = true := hr.2 fun j hj hp => by
        rcases hp with rfl | hp
        · exact hin
        · exact k i hi hin j hp
      rw [this] at h; exact absurd h.2 (by decide)
    · rcases Nat.lt_or_ge b i with k | k
      · exact H b k hin a ha
      · have eb : b = i := by omega
        subst eb
        rw [h10.2 hin, Bool.true_and, Bool.not_eq_false'] at h
        exact hr.1 h a (by have := ha.lt; omega) (.inr ha)
  · rcases ho with ⟨⟨⟩, rfl, h⟩ | ⟨⟨⟩, rfl, h⟩
    · exact tot_some ⟨fun _ => h, fun _ => rfl⟩
    · exact tot_some ⟨fun h => absurd h (by decide), fun k => absurd k h⟩
/-- Consistent. -/
theorem f32_t (n : Int) (l : List Act) (c : List Int) : Tot (f32 n l c) fun r => CutErr n l c r.2 ∧ (r.2 ≠ 0 → r.1 = false) ∧ (r.2 = 0 → (r.1 = true ↔ Cons l c)) := by
  unfold f32
  refine (f63_t n l c).bind fun x hx => ?_
  refine tot_if (fun h => ?_) (fun h => ?_)
  · simp only [Bool.not_eq_true', decide_eq_false_iff_not] at h
    exact tot_some ⟨hx, fun _ => rfl, fun k => absurd k h⟩
  · simp only [Bool.not_eq_false', decide_eq_true_eq] at h
    subst h
    obtain ⟨hok, hc, hi⟩ := hx.zero
    refine (f52_t hok).bind fun m hm => (f64_t hok hm hc).bind fun r hr => ?_
    exact tot_some ⟨hx, fun k => absurd rfl k, fun _ => hr⟩
/-- The place of each event. -/
theorem f67_t {n : Int} {l : List Act} (hok : Ok n l) : Tot (f67 n l) fun s => s.length = l.length ∧ ∀ j, j < l.length → s.getD j default = (idx l j : Int) := by
  have hN := hok.len
  obtain ⟨n1, n2⟩ := hok.n
  have hnd := hok.nd
  unfold f67
  refine tot_need (mkOk_t (by omega) (by omega)) ?_
  rw [toNat_len]
  refine (tot_rng (fun i (s : List Int × List Int) => s.1.length = n.toNat ∧ (∀ p, p < n.toNat → s.1.getD p 0 = cnt l p i) ∧ s.2.length = i ∧ ∀ j, j < i → s.2.getD j default = (idx l j : Int)) ⟨by simp, fun p hp => by rw [getD_rep hp]; rfl, rfl, fun j hj => absurd hj (by omega)⟩ fun i s hi H => ?_).bind fun o ho => ?_
  · obtain ⟨H1, H2, H3, H4⟩ := H
    obtain ⟨s4, s5⟩ := s
    simp only at H1 H2 H3 H4
    have hni := hnd i hi
    unfold f67_b0
    refine tot_ix hi ?_
    have e : (l.getD i default).1 = nd l i := rfl
    rw [e]
    refine tot_ixz hni.1 (by omega) ?_
    have hv := H2 (nd l i).toNat (by omega)
    have hc := cnt_le (l := l) (p := ((nd l i).toNat : Nat)) (a := i)
    have hw : w64 (s4.getD (nd l i).toNat default + 1) = s4.getD (nd l i).toNat 0 + 1 := w64_id (by
      show R64 (s4.getD (nd l i).toNat 0 + 1)
      rw [hv]; constructor <;> omega)
    rw [hw]
    refine tot_ixz hni.1 (by simp; omega) ?_
    rw [getD_set (by omega), if_pos rfl]
    refine tot_need (ap8 (by omega) (by simp)) (tot_some ⟨_, rfl, by simp [H1], fun p hp => ?_, by simp [H3], fun j hj => ?_⟩)
    · rw [getD_set (by omega)]
      simp only [cnt]
      by_cases e : (nd l i).toNat = p
      · rw [if_pos e, if_pos (by omega), hv, e]; omega
      · rw [if_neg e, if_neg (by omega), H2 p hp]; omega
    · rw [getD_app]
      split
      · exact H4 j (by omega)
      · rw [show j = i by omega, H3, Nat.sub_self]
        show s4.getD (nd l i).toNat 0 + 1 = _
        rw [hv, idx_eq, show (((nd l i).toNat : Nat) : Int) = nd l i by omega]; omega
  · obtain ⟨⟨s4, s5⟩, rfl, _, _, h3, h4⟩ := ho
    exact tot_some ⟨h3, h4⟩
theorem f66_t {n : Int} {l : List Act} (hok : Ok n l) {at' : List Int} (ha : at'.length = l.length ∧ ∀ j, j < l.length → at'.getD j default = (idx l j : Int)) {P : List (List Bool)} (hP : GMat l P) {c : List Int} (hc : CutOk n c) : Tot (f66 l at' P c) fun r => (r = true ↔ Cons l c) := by
  have hnd := hok.nd
  have h1 := hc.1
  unfold f66
  rw [toNat_len]
  refine (tot_rngx (fun i _ => ∀ b, b < i → InC l c b → ∀ a, Pst l a b → InC l c a) (fun _ => ¬ Cons l c) (fun p hp => absurd hp (by omega)) fun i _ hi H => ?_).bind fun o ho => ?_
  · unfold f66_b0
    have hni := hnd i hi
    have e : (l.getD i default).1 = nd l i := rfl
    refine Tot.bind (Q := fun o => (o = .inl () ∧ (InC l c i → ∀ a, Pst l a i → InC l c a)) ∨ (o = .inr () ∧ ¬ Cons l c)) ?_ fun o ho => ?_
    · refine tot_ix hi (tot_ix (by omega) ?_)
      rw [e]
      refine tot_ixz hni.1 (by omega) ?_
      rw [ha.2 i hi]
      refine tot_if (fun h => tot_some (.inl ⟨rfl, fun k => ?_⟩)) (fun h => ?_)
      · have : c.getD (nd l i).toNat 0 < (idx l i : Int) := of_decide_eq_true h
        unfold InC at k; omega
      have hin : InC l c i := Int.not_lt.1 (of_decide_eq_false h)
      obtain ⟨g1, g2⟩ := hP.2 i hi
      refine tot_ix (by rw [hP.1]; exact hi) ?_
      rw [toNat_len, g1]
      refine (tot_rngx (fun k _ => ∀ a, a < k → Pst l a i → InC l c a) (fun _ => ¬ Cons l c) (fun a hk => absurd hk (by omega)) fun k _ hk H => ?_).bind fun o ho => ?_
      · unfold f66_b1
        have hnk := hnd k hk
        have ek : (l.getD k default).1 = nd l k := rfl
        refine tot_ix (by omega) ?_
        rw [ix_getD (show k < at'.length by omega), ix_getD hk]
        simp only [Option.isSome_some, Bool.or_true, cond_true, Option.getD_some, ek]
        rw [ix_int hnk.1 (by omega), ha.2 k hk]
        simp only [Option.isSome_some, Bool.or_true, cond_true, Option.getD_some]
        refine tot_if (fun h => tot_some (.inr ⟨_, rfl, fun hcons => ?_⟩)) (fun h => tot_some (.inl ⟨_, rfl, fun a hk' hp => ?_⟩))
        · simp only [Bool.and_eq_true, decide_eq_true_eq] at h
          have h2 := hcons i hi hin k ((g2 k hk).1 h.1)
          have h3 : c.getD (nd l k).toNat 0 < (idx l k : Int) := h.2
          unfold InC at h2; omega
        · rcases Nat.lt_or_ge a k with c1 | c1
          · exact H a c1 hp
          · have ea : a = k := by omega
            subst ea
            rw [(g2 a hk).2 hp, Bool.true_and] at h
            exact Int.not_lt.1 (of_decide_eq_false h)
      · rcases ho with ⟨⟨⟩, rfl, h⟩ | ⟨⟨⟩, rfl, h⟩
        · exact tot_some (.inl ⟨rfl, fun _ a hp => h a (by have := hp.lt; omega) hp⟩)
        · exact tot_some (.inr ⟨rfl, h⟩)
    · rcases ho with ⟨rfl, h⟩ | ⟨rfl, h⟩
      · refine tot_some (.inl ⟨_, rfl, fun b hb hin a hp => ?_⟩)
        rcases Nat.lt_or_ge b i with k | k
        · exact H b k hin a hp
        · have eb : b = i := by omega
          subst eb
          exact h hin a hp
      · exact tot_some (.inr ⟨_, rfl, h⟩)
  · rcases ho with ⟨⟨⟩, rfl, h⟩ | ⟨⟨⟩, rfl, h⟩
    · exact tot_some ⟨fun _ => h, fun _ => rfl⟩
    · exact tot_some ⟨fun h => absurd h (by decide), fun k => absurd k h⟩
theorem f33_t (n : Int) (l : List Act) (c : List Int) (hR : RA l) : Tot (f33 n l c) fun r => CutErr n l c r.2 ∧ (r.2 ≠ 0 → r.1 = false) ∧ (r.2 = 0 → (r.1 = true ↔ Cons l c)) := by
  unfold f33
  refine (f65_t n l c hR).bind fun x hx => ?_
  refine tot_if (fun h => ?_) (fun h => ?_)
  · simp only [Bool.not_eq_true', decide_eq_false_iff_not] at h
    exact tot_some ⟨hx, fun _ => rfl, fun k => absurd k h⟩
  · simp only [Bool.not_eq_false', decide_eq_true_eq] at h
    subst h
    obtain ⟨hok, hc, hi⟩ := hx.zero
    refine (f67_t hok).bind fun s hs => (f23_t hok.len).bind fun P hP => (f66_t hok hs hP hc).bind fun r hr => ?_
    exact tot_some ⟨hx, fun k => absurd rfl k, fun _ => hr⟩
theorem cons_eq (n : Int) (l : List Act) (c : List Int) (hR : RA l) : ∃ r, f32 n l c = some r ∧ f33 n l c = some r ∧ CutErr n l c r.2 ∧ (r.2 ≠ 0 → r.1 = false) ∧ (r.2 = 0 → (r.1 = true ↔ Cons l c)) := by
  obtain ⟨r, h1, h2, h3, h4⟩ := f32_t n l c
  obtain ⟨q, k1, k2, k3, k4⟩ := f33_t n l c hR
  have e2 := h2.uniq k2
  have e1 : r.1 = q.1 := by
    by_cases hz : r.2 = 0
    · have a := h4 hz
      have b := k4 (by rw [← e2]; exact hz)
      cases hr : r.1 <;> cases hq : q.1
      · rfl
      · exact absurd (a.2 (b.1 hq)) (by rw [hr]; decide)
      · exact absurd (b.2 (a.1 hr)) (by rw [hq]; decide)
      · rfl
    · rw [h3 hz, k3 (by rw [← e2]; exact hz)]
  exact ⟨r, h1, by rw [k1, Prod.ext e1 e2], h2, h3, h4⟩
end Go.Ab

set_option linter.unusedVariables false
namespace Go.Ab

/-! layer 29: the least cut that has some events -/
def InR (l : List Act) (es : List Int) : Prop := ∀ x, x < es.length → 0 ≤ es.getD x default ∧ es.getD x default < l.length
def AskErr (n : Int) (l : List Act) (es : List Int) (r : Int) : Prop := (¬ Ok n l ∧ r = 1) ∨ (Ok n l ∧ ¬ InR l es ∧ r = 7) ∨ (Ok n l ∧ InR l es ∧ r = 0)
theorem AskErr.uniq {n : Int} {l : List Act} {c : List Int} {r q : Int} (h : AskErr n l c r) (k : AskErr n l c q) : r = q := by
  rcases h with ⟨h1, h2⟩ | ⟨h1, h3, h4⟩ | ⟨h1, h3, h4⟩ <;> rcases k with ⟨k1, k2⟩ | ⟨k1, k3, k4⟩ | ⟨k1, k3, k4⟩
  · rw [h2, k2]
  · exact absurd k1 h1
  · exact absurd k1 h1
  · exact absurd h1 k1
  · rw [h4, k4]
  · exact absurd k3 h3
  · exact absurd h1 k1
  · exact absurd h3 k3
  · rw [h4, k4]
theorem AskErr.zero {n : Int} {l : List Act} {c : List Int} (h : AskErr n l c 0) : Ok n l ∧ InR l c := by
  rcases h with ⟨h1, h2⟩ | ⟨h1, h3, h4⟩ | ⟨h1, h3, h4⟩
  · exact absurd h2 (by decide)
  · exact absurd h4 (by decide)
  · exact ⟨h1, h3⟩
theorem f57_t (n : Int) (l : List Act) (es : List Int) : Tot (f57 n l es) (AskErr n l es) := by
  unfold f57
  rw [valid_p]
  have hq : f75 es (fun y1 => f81 y1 l) = some (es.any fun x => decide (x < 0) || decide ((l.length : Int) ≤ x)) := f75_any es _
  rw [hq]
  simp only [Option.bind_some]
  by_cases hok : Ok n l
  rotate_left
  · refine tot_if (fun h => tot_some (.inl ⟨hok, rfl⟩)) (fun h => ?_)
    simp [hok] at h
  refine tot_if (fun h => by simp [hok] at h) (fun _ => ?_)
  refine tot_if (fun h => ?_) (fun h => ?_)
  · obtain ⟨x, hx, h⟩ := List.any_eq_true.1 h
    obtain ⟨j, j1, rfl⟩ := mem_getD default hx
    simp only [Bool.or_eq_true, decide_eq_true_eq] at h
    exact tot_some (.inr (.inl ⟨hok, fun k => by have := k j j1; omega, rfl⟩))
  · refine tot_some (.inr (.inr ⟨hok, fun x hx => ?_, rfl⟩))
    have := List.any_eq_false.1 h _ (getD_mem (d := default) hx)
    simp only [Bool.or_eq_true, decide_eq_true_eq, not_or] at this
    omega
theorem f53_t (n : Int) (l : List Act) (es : List Int) (hR : RA l) : Tot (f53 n l es) (AskErr n l es) := by
  unfold f53
  rw [valid_r n l hR]
  simp only [Option.bind_some]
  by_cases hok : Ok n l
  rotate_left
  · refine tot_if (fun h => tot_some (.inl ⟨hok, rfl⟩)) (fun h => ?_)
    simp [hok] at h
  refine tot_if (fun h => by simp [hok] at h) (fun _ => ?_)
  rw [toNat_len]
  refine (tot_rngx (fun k _ => ∀ x, x < k → 0 ≤ es.getD x default ∧ es.getD x default < l.length) (fun _ => ¬ InR l es) (fun a hk => absurd hk (by omega)) fun k _ hk H => ?_).bind fun o ho => ?_
  · unfold f53_b0
    refine tot_ix hk ?_
    refine tot_if (fun h => tot_some (.inr ⟨_, rfl, fun k' => ?_⟩)) (fun h => tot_some (.inl ⟨_, rfl, fun x hx => ?_⟩))
    · simp only [Bool.or_eq_true, decide_eq_true_eq] at h
      have := k' k hk; omega
    · simp only [Bool.or_eq_false_iff, decide_eq_false_iff_not] at h
      rcases Nat.lt_or_ge x k with c | c
      · exact H x c
      · rw [show x = k by omega]; omega
  · rcases ho with ⟨⟨⟩, rfl, h⟩ | ⟨⟨⟩, rfl, h⟩
    · exact tot_some (.inr (.inr ⟨hok, h, rfl⟩))
    · exact tot_some (.inr (.inl ⟨hok, h, rfl⟩))
/-- A list has just the events of 'R', and those of their nodes ahead of them. -/
structure LeastG (n : Nat) (l : List Act) (R : Nat → Prop) (c : List Int) : Prop where
  len : c.length = n
  pos : ∀ p, p < n → 0 ≤ c.getD p 0
  has : ∀ a, a < l.length → R a → (idx l a : Int) ≤ c.getD (nd l a).toNat 0
  of : ∀ p, p < n → c.getD p 0 = 0 ∨ ∃ a, a < l.length ∧ R a ∧ nd l a = p ∧ c.getD p 0 = idx l a
theorem LeastG.congr {n : Nat} {l : List Act} {R S : Nat → Prop} {c : List Int} (h : LeastG n l R c) (hRS : ∀ a, a < l.length → (R a ↔ S a)) : LeastG n l S c :=
  ⟨h.len, h.pos, fun a ha hs => h.has a ha ((hRS a ha).2 hs), fun p hp => (h.of p hp).imp id fun ⟨a, a1, a2, a3, a4⟩ => ⟨a, a1, (hRS a a1).1 a2, a3, a4⟩⟩
theorem LeastG.uniq {n : Nat} {l : List Act} {R : Nat → Prop} {c d : List Int} (h : LeastG n l R c) (k : LeastG n l R d) : c = d := by
  have key : ∀ {c d : List Int}, LeastG n l R c → LeastG n l R d → ∀ p, p < n → c.getD p 0 ≤ d.getD p 0 := by
    intro c d h k p hp
    rcases h.of p hp with h1 | ⟨a, a1, a2, a3, a4⟩
    · rw [h1]; exact k.pos p hp
    · have := k.has a a1 a2
      rw [a3, Int.toNat_natCast] at this
      rw [a4]; exact this
  exact ext_getD 0 (h.len.trans k.len.symm) fun p hp => Int.le_antisymm (key h k p (by rw [← h.len]; exact hp)) (key k h p (by rw [← h.len]; exact hp))
theorem LeastG.nil {n : Nat} {l : List Act} : LeastG n l (fun _ => False) (List.replicate n 0) :=
  ⟨by simp, fun p hp => by rw [getD_rep hp]; exact Int.le_refl _, fun a _ h => h.elim, fun p hp => .inl (by rw [getD_rep hp])⟩
theorem LeastG.add {n : Nat} {l : List Act} {R : Nat → Prop} {c : List Int} (h : LeastG n l R c) {b : Nat} (hb : b < l.length) (hn : 0 ≤ nd l b ∧ nd l b < n) :
    LeastG n l (fun a => R a ∨ a = b) (c.set (nd l b).toNat (max (c.getD (nd l b).toNat 0) (idx l b))) := by
  have hlt : (nd l b).toNat < c.length := by rw [h.len]; omega
  refine ⟨by simp [h.len], fun p hp => ?_, fun a ha hr => ?_, fun p hp => ?_⟩
  · rw [getD_set hlt]
    split
    · omega
    · exact h.pos p hp
  · rw [getD_set hlt]
    split
    · rename_i e
      rcases hr with hr | rfl
      · have := h.has a ha hr; rw [← e] at this; omega
      · omega
    · rename_i e
      rcases hr with hr | rfl
      · exact h.has a ha hr
      · exact absurd rfl e
  · rw [getD_set hlt]
    split
    · rename_i e
      subst e
      rcases Int.le_total (c.getD (nd l b).toNat 0) (idx l b) with k | k
      · exact .inr ⟨b, hb, .inr rfl, by omega, by omega⟩
      · rw [Int.max_eq_left k]
        rcases h.of _ hp with h1 | ⟨a, a1, a2, a3⟩
        · exact .inl h1
        · exact .inr ⟨a, a1, .inl a2, a3⟩
    · rcases h.of p hp with h1 | ⟨a, a1, a2, a3⟩
      · exact .inl h1
      · exact .inr ⟨a, a1, .inl a2, a3⟩
theorem LeastG.mx {n : Nat} {l : List Act} {R : Nat → Prop} {c d : List Int} (h : LeastG n l R c) {b : Nat} (k : IsClock n l b d) (hn : ∀ a, a < l.length → 0 ≤ nd l a ∧ nd l a < n) :
    LeastG n l (fun a => R a ∨ (a = b ∨ Pst l a b)) (mx c d) := by
  have hl : c.length = d.length := by rw [h.len, k.len]
  have hg : ∀ p, p < n → (Go.Ab.mx c d).getD p 0 = max (c.getD p 0) (d.getD p 0) := fun p hp => getD_mx hl (by rw [h.len]; exact hp)
  refine ⟨by rw [mx_len hl, h.len], fun p hp => ?_, fun a ha hr => ?_, fun p hp => ?_⟩
  · have := h.pos p hp; rw [hg p hp]; omega
  · have := hn a ha
    rw [hg _ (by omega)]
    rcases hr with hr | hr
    · have := h.has a ha hr; omega
    · have := (k.iff a ha).1 hr; omega
  · rw [hg p hp]
    have k0 := k.rg p hp
    rcases Int.le_total (d.getD p 0) (c.getD p 0) with q | q
    · rw [Int.max_eq_left q]
      rcases h.of p hp with h1 | ⟨a, a1, a2, a3⟩
      · exact .inl h1
      · exact .inr ⟨a, a1, .inl a2, a3⟩
    · rw [Int.max_eq_right q]
      rcases Int.lt_or_le 0 (d.getD p 0) with q0 | q0
      · obtain ⟨j, h4, h5, h6⟩ := idx_ex (l := l) (p := (p : Int)) (m := (d.getD p 0).toNat) (N := l.length) (by omega) (by omega)
        exact .inr ⟨j, h4, .inr ((k.iff j h4).2 (by rw [h5, h6, Int.toNat_natCast]; omega)), h5, by omega⟩
      · exact .inl (by omega)
/-- The events asked for, with what is before them. -/
def Asked (l : List Act) (es : List Int) (k : Nat) (a : Nat) : Prop := ∃ x, x < k ∧ (a = (es.getD x default).toNat ∨ Pst l a (es.getD x default).toNat)
theorem asked_succ {l : List Act} {es : List Int} {k a : Nat} : Asked l es (k + 1) a ↔ Asked l es k a ∨ (a = (es.getD k default).toNat ∨ Pst l a (es.getD k default).toNat) := by
  constructor
  · rintro ⟨x, x1, x2⟩
    rcases Nat.lt_or_ge x k with c | c
    · exact .inl ⟨x, c, x2⟩
    · rw [show x = k by omega] at x2; exact .inr x2
  · rintro (⟨x, x1, x2⟩ | x2)
    · exact ⟨x, by omega, x2⟩
    · exact ⟨k, by omega, x2⟩
def LeastR (n : Int) (l : List Act) (es : List Int) (r : List Int × Int) : Prop := AskErr n l es r.2 ∧ (r.2 ≠ 0 → r.1 = []) ∧ (r.2 = 0 → LeastG n.toNat l (Asked l es es.length) r.1)
theorem LeastR.uniq {n : Int} {l : List Act} {es : List Int} {r q : List Int × Int} (h : LeastR n l es r) (k : LeastR n l es q) : r = q := by
  have e2 := h.1.uniq k.1
  refine Prod.ext ?_ e2
  by_cases hz : r.2 = 0
  · exact (h.2.2 hz).uniq (k.2.2 (by rw [← e2]; exact hz))
  · rw [h.2.1 hz, k.2.1 (by rw [← e2]; exact hz)]
theorem f34_t (n : Int) (l : List Act) (es : List Int) : Tot (f34 n l es) (LeastR n l es) := by
  unfold f34
  refine (f57_t n l es).bind fun x hx => ?_
  refine tot_if (fun h => ?_) (fun h => ?_)
  · simp only [Bool.not_eq_true', decide_eq_false_iff_not] at h
    exact tot_some ⟨hx, fun _ => rfl, fun k => absurd k h⟩
  simp only [Bool.not_eq_false', decide_eq_true_eq] at h
  subst h
  obtain ⟨hok, hin⟩ := hx.zero
  have hnd := hok.nd
  obtain ⟨n1, n2⟩ := hok.n
  refine (f52_t hok).bind fun m hm => tot_need (mkOk_t (by omega) (by omega)) ?_
  rw [toNat_len]
  refine (tot_rng (fun k c => LeastG n.toNat l (Asked l es k) c) (LeastG.nil.congr fun a _ => ⟨False.elim, fun ⟨x, h, _⟩ => absurd h (by omega)⟩) fun k c hk H => ?_).bind fun o ho => ?_
  · unfold f34_b0
    have hr := hin k hk
    refine tot_ix hk (tot_ixz hr.1 (by rw [hm.1]; exact hr.2) ?_)
    have ck := hm.2 (es.getD k default).toNat (by omega)
    rw [f48_ok (by rw [H.len, ck.len]) (by rw [H.len]; omega)]
    exact tot_some ⟨_, rfl, (H.mx ck (fun a ha => by have := hnd a ha; omega)).congr fun a _ => asked_succ.symm⟩
  · obtain ⟨c, rfl, h⟩ := ho
    exact tot_some ⟨hx, fun k => absurd rfl k, fun _ => h⟩
theorem f35_t (n : Int) (l : List Act) (es : List Int) (hR : RA l) : Tot (f35 n l es) (LeastR n l es) := by
  unfold f35
  refine (f53_t n l es hR).bind fun x hx => ?_
  refine tot_if (fun h => ?_) (fun h => ?_)
  · simp only [Bool.not_eq_true', decide_eq_false_iff_not] at h
    exact tot_some ⟨hx, fun _ => rfl, fun k => absurd k h⟩
  simp only [Bool.not_eq_false', decide_eq_true_eq] at h
  subst h
  obtain ⟨hok, hin⟩ := hx.zero
  have hnd := hok.nd
  obtain ⟨n1, n2⟩ := hok.n
  refine (f67_t hok).bind fun at' ha => (f23_t hok.len).bind fun P hP => tot_need (mkOk_t (by omega) (by omega)) ?_
  rw [toNat_len]
  refine (tot_rng (fun k c => LeastG n.toNat l (Asked l es k) c) (LeastG.nil.congr fun a _ => ⟨False.elim, fun ⟨x, h, _⟩ => absurd h (by omega)⟩) fun k c hk H => ?_).bind fun o ho => ?_
  · unfold f35_b0
    have hr := hin k hk
    obtain ⟨b, eb⟩ : ∃ b : Nat, es.getD k default = b := ⟨(es.getD k default).toNat, by omega⟩
    refine tot_ix hk ?_
    rw [eb] at hr ⊢
    have hb : b < l.length := by omega
    have hnb := hnd b hb
    have enb : (l.getD b default).1 = nd l b := rfl
    refine tot_ix hb ?_
    rw [enb]
    refine tot_ixz hnb.1 (by rw [H.len]; omega) (tot_ix (by omega) (tot_ix (by rw [hP.1]; exact hb) ?_))
    obtain ⟨g1, g2⟩ := hP.2 b hb
    rw [toNat_len, g1, ha.2 b hb]
    refine (tot_rng (fun j c => LeastG n.toNat l (fun a => (Asked l es k a ∨ a = b) ∨ (a < j ∧ Pst l a b)) c) ((H.add hb (by omega)).congr fun a _ => ⟨.inl, fun h => h.elim id fun h => absurd h.1 (by omega)⟩) fun j c hj H => ?_).bind fun o ho => ?_
    · unfold f35_b1
      have hnj := hnd j hj
      have enj : (l.getD j default).1 = nd l j := rfl
      refine Tot.bind (Q := fun o => ∃ s', o = .inl s' ∧ LeastG n.toNat l (fun a => (Asked l es k a ∨ a = b) ∨ (a < j + 1 ∧ Pst l a b)) s') ?_ fun o ho => ?_
      · refine tot_ix (by omega) ?_
        refine tot_if (fun h => ?_) (fun h => ?_)
        · have hp := (g2 j hj).1 h
          refine tot_ix hj ?_
          rw [enj]
          refine tot_ixz hnj.1 (by rw [H.len]; omega) (tot_ix (by omega) ?_)
          rw [ha.2 j hj]
          refine tot_some ⟨_, rfl, (H.add hj (by omega)).congr fun a _ => ?_⟩
          constructor
          · rintro ((h | ⟨h1, h2⟩) | rfl)
            · exact .inl h
            · exact .inr ⟨by omega, h2⟩
            · exact .inr ⟨by omega, hp⟩
          · rintro (h | ⟨h1, h2⟩)
            · exact .inl (.inl h)
            · rcases Nat.lt_or_ge a j with c | c
              · exact .inl (.inr ⟨c, h2⟩)
              · exact .inr (by omega)
        · refine tot_some ⟨_, rfl, H.congr fun a _ => ?_⟩
          constructor
          · rintro (h | ⟨h1, h2⟩)
            · exact .inl h
            · exact .inr ⟨by omega, h2⟩
          · rintro (h1 | ⟨h1, h2⟩)
            · exact .inl h1
            · rcases Nat.lt_or_ge a j with c | c
              · exact .inr ⟨c, h2⟩
              · rw [show a = j by omega] at h2; rw [(g2 j hj).2 h2] at h; cases h
      · obtain ⟨s', rfl, h⟩ := ho
        exact tot_some ⟨_, rfl, h⟩
    · obtain ⟨c, rfl, h⟩ := ho
      refine tot_some ⟨_, rfl, h.congr fun a _ => ?_⟩
      rw [asked_succ, eb, Int.toNat_natCast]
      constructor
      · rintro ((h | h) | ⟨_, h⟩)
        · exact .inl h
        · exact .inr (.inl h)
        · exact .inr (.inr h)
      · rintro (h | h | h)
        · exact .inl (.inl h)
        · exact .inl (.inr h)
        · exact .inr ⟨by have := h.lt; omega, h⟩
  · obtain ⟨c, rfl, h⟩ := ho
    exact tot_some ⟨hx, fun k => absurd rfl k, fun _ => h⟩
/-- It is a cut, and consistent. -/
theorem LeastG.cut {n : Int} {l : List Act} (hok : Ok n l) {es : List Int} {k : Nat} {c : List Int} (h : LeastG n.toNat l (Asked l es k) c) : CutOk n c ∧ CutIn l c ∧ Cons l c := by
  obtain ⟨n1, n2⟩ := hok.n
  have hnd := hok.nd
  refine ⟨⟨by rw [h.len]; omega, fun p hp => h.pos p (by rw [← h.len]; exact hp)⟩, fun p hp => ?_, fun b hb hin a hp => ?_⟩
  · rcases h.of p (by rw [← h.len]; exact hp) with h1 | ⟨a, a1, a2, a3, a4⟩
    · rw [h1]; omega
    · rw [a4]
      have := idx_tot (l := l) a1
      rw [a3] at this; omega
  · have hnb := hnd b hb
    unfold InC at hin
    rcases h.of (nd l b).toNat (by omega) with h1 | ⟨x, x1, x2, x3, x4⟩
    · rw [h1] at hin
      have := idx_pos (l := l) (j := b); omega
    · have hnx : nd l x = nd l b := by omega
      have hbx : b = x ∨ Pst l b x := by
        rcases Nat.lt_trichotomy b x with c | c | c
        · exact .inr (pst_same c hnx.symm)
        · exact .inl c
        · have := idx_lt c hnx; omega
      have hax : Pst l a x := by
        rcases hbx with rfl | hbx
        · exact hp
        · exact hp.trans hbx
      obtain ⟨e, e1, e2⟩ := x2
      refine h.has a (by have := hp.lt; omega) ⟨e, e1, ?_⟩
      rcases e2 with e2 | e2
      · rw [e2] at hax; exact .inr hax
      · exact .inr (hax.trans e2)
end Go.Ab

set_option linter.unusedVariables false
namespace Go.Ab

/-- Rounds that come to an end. -/
theorem tot_lrun {S R : Type} {b : S → Option (S ⊕ R)} (Inv : S → Prop) (μ : S → Nat) (Q : R → Prop) (h : ∀ s, Inv s → Tot (b s) fun o => (∃ s', o = .inl s' ∧ Inv s' ∧ μ s' < μ s) ∨ ∃ r, o = .inr r ∧ Q r) : ∀ (k : Nat) (s : S), Inv s → μ s < k → Tot (lrun b k s) Q := by
  intro k
  induction k with
  | zero => intro s _ hk; omega
  | succ k ih =>
    intro s hs hk
    obtain ⟨o, h1, h2⟩ := h s hs
    simp only [lrun, h1, Option.bind_some]
    rcases h2 with ⟨s', rfl, h3, h4⟩ | ⟨r, rfl, h3⟩
    · exact ih s' h3 (by omega)
    · exact tot_some h3

/-! layer 29: the greatest consistent cut within a cut -/
def sumD (c : List Int) : Nat → Int
  | 0 => 0
  | k + 1 => sumD c k + c.getD k 0
theorem sumD_le {c d : List Int} : ∀ {k : Nat}, (∀ p, p < k → c.getD p 0 ≤ d.getD p 0) → sumD c k ≤ sumD d k := by
  intro k
  induction k with
  | zero => intro _; exact Int.le_refl _
  | succ k ih => intro h; have := ih fun p hp => h p (by omega); have := h k (by omega); simp only [sumD]; omega
theorem sumD_nonneg {c : List Int} : ∀ {k : Nat}, (∀ p, p < k → 0 ≤ c.getD p 0) → 0 ≤ sumD c k := by
  intro k
  induction k with
  | zero => intro _; exact Int.le_refl _
  | succ k ih => intro h; have := ih fun p hp => h p (by omega); have := h k (by omega); simp only [sumD]; omega
theorem sumD_set {c : List Int} {q : Nat} {v : Int} (hq : q < c.length) : ∀ {k : Nat}, sumD (c.set q v) k = sumD c k + if q < k then v - c.getD q 0 else 0 := by
  intro k
  induction k with
  | zero => simp [sumD]
  | succ k ih =>
    simp only [sumD, ih, getD_set hq]
    by_cases e : q = k
    · subst e; rw [if_pos rfl, if_neg (by omega), if_pos (by omega)]; omega
    · rw [if_neg e]
      by_cases h : q < k
      · rw [if_pos h, if_pos (by omega)]; omega
      · rw [if_neg h, if_neg (by omega)]; omega
/-- All events together. -/
def sumN (l : List Act) (N : Nat) : Nat → Nat
  | 0 => 0
  | k + 1 => sumN l N k + cnt l k N
theorem sumN_succ {l : List Act} {N : Nat} : ∀ {k : Nat}, sumN l (N + 1) k ≤ sumN l N k + if nd l N < k ∧ 0 ≤ nd l N then 1 else 0 := by
  intro k
  induction k with
  | zero => simp [sumN]
  | succ k ih =>
    simp only [sumN, cnt]
    by_cases e : nd l N = k
    · rw [if_pos e, if_pos (by omega)]
      rw [if_neg (by omega)] at ih
      omega
    · rw [if_neg e]
      by_cases h : nd l N < k ∧ 0 ≤ nd l N
      · rw [if_pos h] at ih; rw [if_pos (by omega)]; omega
      · rw [if_neg h] at ih; rw [if_neg (by omega)]; omega
theorem sumN_le {l : List Act} {k : Nat} : ∀ {N : Nat}, sumN l N k ≤ N := by
  intro N
  induction N with
  | zero =>
    have : ∀ k, sumN l 0 k = 0 := by
      intro k
      induction k with
      | zero => rfl
      | succ k ih => simp [sumN, ih, cnt]
    rw [this]; exact Nat.le_refl _
  | succ N ih =>
    have := sumN_succ (l := l) (N := N) (k := k)
    split at this <;> omega
theorem sumD_cnt {l : List Act} {c : List Int} {N : Nat} : ∀ {k : Nat}, (∀ p : Nat, p < k → c.getD p 0 ≤ cnt l p N) → sumD c k ≤ sumN l N k := by
  intro k
  induction k with
  | zero => intro _; simp [sumD, sumN]
  | succ k ih => intro h; have := ih fun p hp => h p (by omega); have := h k (by omega); simp only [sumD, sumN]; omega

/-- An event is in the cut with all that is before it. -/
def Full (l : List Act) (cut : List Int) (j : Nat) : Prop := ∀ a, (a = j ∨ Pst l a j) → InC l cut a
theorem Full.past {l : List Act} {cut : List Int} {a j : Nat} (h : Full l cut j) (hp : Pst l a j) : Full l cut a := fun b hb => h b (by
  rcases hb with rfl | hb
  · exact .inr hp
  · exact .inr (hb.trans hp))
structure GreatG (n : Nat) (l : List Act) (cut c : List Int) : Prop where
  len : c.length = n
  pos : ∀ p, p < n → 0 ≤ c.getD p 0
  le : ∀ p, p < n → c.getD p 0 ≤ cut.getD p 0
  iff : ∀ j, j < l.length → (InC l c j ↔ Full l cut j)
theorem GreatG.uniq {n : Nat} {l : List Act} {cut c d : List Int} (hcut : ∀ p : Nat, p < n → cut.getD p 0 ≤ cnt l p l.length) (h : GreatG n l cut c) (k : GreatG n l cut d) : c = d := by
  have key : ∀ {c d : List Int}, GreatG n l cut c → GreatG n l cut d → ∀ p, p < n → c.getD p 0 ≤ d.getD p 0 := by
    intro c d h k p hp
    have h1 := h.le p hp
    have h2 := hcut p hp
    have h3 := k.pos p hp
    rcases Int.lt_or_le 0 (c.getD p 0) with q | q
    · obtain ⟨j, h4, h5, h6⟩ := idx_ex (l := l) (p := (p : Int)) (m := (c.getD p 0).toNat) (N := l.length) (by omega) (by omega)
      have h7 := (k.iff j h4).2 ((h.iff j h4).1 (by unfold InC; rw [h5, h6, Int.toNat_natCast]; omega))
      unfold InC at h7
      rw [h5, h6, Int.toNat_natCast] at h7
      omega
    · omega
  exact ext_getD 0 (h.len.trans k.len.symm) fun p hp => Int.le_antisymm (key h k p (by rw [← h.len]; exact hp)) (key k h p (by rw [← h.len]; exact hp))
theorem f68_ok {c : List Int} (h : c.length ≤ 1000) : f68 c = some c := by
  unfold f68
  rw [apOk_t (by simp only [List.length_nil]; omega)]; rfl
/-- Between the greatest one and the cut. -/
structure Mid (n : Nat) (l : List Act) (cut c : List Int) : Prop where
  len : c.length = n
  pos : ∀ p, p < n → 0 ≤ c.getD p 0
  le : ∀ p, p < n → c.getD p 0 ≤ cut.getD p 0
  has : ∀ j, j < l.length → Full l cut j → InC l c j
def GreatR (n : Int) (l : List Act) (cut : List Int) (r : List Int × Int) : Prop := CutErr n l cut r.2 ∧ (r.2 ≠ 0 → r.1 = []) ∧ (r.2 = 0 → GreatG n.toNat l cut r.1)
theorem GreatR.uniq {n : Int} {l : List Act} {es : List Int} {r q : List Int × Int} (h : GreatR n l es r) (k : GreatR n l es q) : r = q := by
  have e2 := h.1.uniq k.1
  refine Prod.ext ?_ e2
  by_cases hz : r.2 = 0
  · have h1 := h.1
    rw [hz] at h1
    obtain ⟨hok, hc, hi⟩ := h1.zero
    have := hc.1
    exact (h.2.2 hz).uniq (fun p hp => hi p (by omega)) (k.2.2 (by rw [← e2]; exact hz))
  · rw [h.2.1 hz, k.2.1 (by rw [← e2]; exact hz)]
theorem f36_t (n : Int) (l : List Act) (cut : List Int) : Tot (f36 n l cut) (GreatR n l cut) := by
  unfold f36
  refine (f63_t n l cut).bind fun x hx => ?_
  refine tot_if (fun h => ?_) (fun h => ?_)
  · simp only [Bool.not_eq_true', decide_eq_false_iff_not] at h
    exact tot_some ⟨hx, fun _ => rfl, fun k => absurd k h⟩
  simp only [Bool.not_eq_false', decide_eq_true_eq] at h
  subst h
  obtain ⟨hok, hc, hi⟩ := hx.zero
  have hnd := hok.nd
  obtain ⟨n1, n2⟩ := hok.n
  have hcl := hc.1
  have hN := hok.len
  refine (f52_t hok).bind fun m hm => ?_
  rw [f68_ok (by omega)]
  simp only [Option.bind_some]
  have hmid : Mid n.toNat l cut cut := ⟨by omega, fun p hp => hc.2 p (by omega), fun p _ => Int.le_refl _, fun j hj hf => hf j (.inl rfl)⟩
  have hsum : sumD cut n.toNat ≤ l.length := by
    have := sumD_cnt (l := l) (c := cut) (N := l.length) (k := n.toNat) (fun p hp => hi p (by omega))
    have := sumN_le (l := l) (k := n.toNat) (N := l.length)
    omega
  refine (tot_lrun (fun s : Bool × List Int => Mid n.toNat l cut s.2 ∧ (s.1 = false → Cons l s.2)) (fun s => if s.1 = true then (sumD s.2 n.toNat).toNat + 1 else 0) (GreatG n.toNat l cut) (fun s hs => ?_) (l.length + 2) (true, cut) ⟨hmid, fun h => by simp at h⟩ ?_).bind fun s hs => tot_some ⟨hx, fun k => absurd rfl k, fun _ => hs⟩
  · obtain ⟨s8, s9⟩ := s
    obtain ⟨hs, hs'⟩ := hs
    simp only at hs hs'
    unfold f36_b0
    simp only
    refine tot_if (fun h => ?_) (fun h => ?_)
    · subst h
      rw [toNat_len]
      refine (tot_rng (fun i (s : Bool × List Int) => Mid n.toNat l cut s.2 ∧ (s.1 = false → s.2 = s9 ∧ ∀ b, b < i → InC l s9 b → ∀ a, Pst l a b → InC l s9 a) ∧ (s.1 = true → sumD s.2 n.toNat < sumD s9 n.toNat)) ⟨hs, fun _ => ⟨rfl, fun b hb => absurd hb (by omega)⟩, fun h => by simp at h⟩ fun i s hi' H => ?_).bind fun o ho => ?_
      · obtain ⟨s18, s20⟩ := s
        obtain ⟨H1, H2, H3⟩ := H
        simp only at H1 H2 H3
        have hni := hnd i hi'
        have eni : (l.getD i default).1 = nd l i := rfl
        have ci := hm.2 i hi'
        have hcs : CutOk n s20 := ⟨by rw [H1.len]; omega, fun p hp => H1.pos p (by rw [← H1.len]; exact hp)⟩
        unfold f36_b1
        simp only
        refine Tot.bind (Q := fun o => ∃ s', o = .inl s' ∧ Mid n.toNat l cut s'.2 ∧ (s'.1 = false → s'.2 = s9 ∧ ∀ b, b < i + 1 → InC l s9 b → ∀ a, Pst l a b → InC l s9 a) ∧ (s'.1 = true → sumD s'.2 n.toNat < sumD s9 n.toNat)) ?_ fun o ho => ?_
        · refine tot_ix hi' (tot_ix (by rw [hm.1]; exact hi') ?_)
          rw [eni]
          refine (f69_t hok hm hcs hi').bind fun x35 h35 => ?_
          rw [ix_getD (show i < m.length by rw [hm.1]; exact hi')]
          simp only [Option.isSome_some, Bool.or_true, cond_true, Option.getD_some]
          obtain ⟨r, e2, hr⟩ := f70_t (a := m.getD i default) (b := s20) (by rw [ci.len, H1.len])
          rw [e2]
          rw [below_iff hok hcs ci] at hr
          simp only [Option.isSome_some, Bool.or_true, cond_true, Option.getD_some]
          refine tot_if (fun h => ?_) (fun h => ?_)
          · simp only [Bool.and_eq_true, Bool.not_eq_true'] at h
            have hin := h35.1 h.1
            have hnb : ¬ ∀ j, j < l.length → (j = i ∨ Pst l j i) → InC l s20 j := fun k => by rw [hr.2 k] at h; exact absurd h.2 (by decide)
            refine tot_ixz hni.1 (by rw [ci.len]; omega) (tot_ixz hni.1 (by rw [H1.len]; omega) ?_)
            have e3 : (m.getD i default).getD (nd l i).toNat default = (idx l i : Int) := ci.self hi' (by omega)
            have hid := idx_tot (l := l) hi'
            have hcl2 := cnt_le (l := l) (p := nd l i) (a := l.length)
            have hip := idx_pos (l := l) (j := i)
            rw [e3, w64_id ⟨by omega, by omega⟩]
            have hlt : (nd l i).toNat < s20.length := by rw [H1.len]; omega
            have hss : sumD (s20.set (nd l i).toNat ((idx l i : Int) - 1)) n.toNat < sumD s20 n.toNat := by
              rw [sumD_set hlt, if_pos (by omega)]
              unfold InC at hin; omega
            refine tot_some ⟨_, rfl, ⟨by simp [H1.len], fun p hp => ?_, fun p hp => ?_, fun j hj hf => ?_⟩, fun h => by simp at h, fun _ => ?_⟩
            · rw [getD_set hlt]
              split
              · omega
              · exact H1.pos p hp
            · rw [getD_set hlt]
              have := H1.le p hp
              split
              · rename_i e
                rw [← e] at this
                unfold InC at hin; rw [← e]; omega
              · exact this
            · unfold InC
              rw [getD_set hlt]
              have hj' := H1.has j hj hf
              split
              · rename_i e
                have hnj := hnd j hj
                have e' : nd l j = nd l i := by omega
                rcases Nat.lt_or_ge (idx l j) (idx l i) with k | k
                · omega
                · refine absurd (fun q hq hqi => ?_) hnb
                  have hij : i = j ∨ Pst l i j := by
                    rcases Nat.lt_trichotomy i j with c | c | c
                    · exact .inr (pst_same c e'.symm)
                    · exact .inl c
                    · have := idx_lt c e'; omega
                  have hqj : q = j ∨ Pst l q j := by
                    rcases hij with rfl | hij
                    · exact hqi
                    · rcases hqi with rfl | hqi
                      · exact .inr hij
                      · exact .inr (hqi.trans hij)
                  rcases hqj with rfl | hqj
                  · exact hj'
                  · exact H1.has q hq (hf.past hqj)
              · exact hj'
            · cases e18 : s18 with
              | true =>
                have := H3 e18
                show sumD (s20.set (nd l i).toNat ((idx l i : Int) - 1)) n.toNat < sumD s9 n.toNat
                omega
              | false => rw [(H2 e18).1] at hss; rw [(H2 e18).1]; exact hss
          · refine tot_some ⟨_, rfl, H1, fun h' => ⟨(H2 h').1, fun b hb hin a ha => ?_⟩, H3⟩
            rcases Nat.lt_or_ge b i with k | k
            · exact (H2 h').2 b k hin a ha
            · have eb : b = i := by omega
              subst eb
              rw [← (H2 h').1] at hin ⊢
              rw [h35.2 hin, Bool.true_and, Bool.not_eq_false'] at h
              exact hr.1 h a (by have := ha.lt; omega) (.inr ha)
        · obtain ⟨s', rfl, h⟩ := ho
          exact tot_some ⟨_, rfl, h⟩
      · obtain ⟨⟨s18, s20⟩, rfl, H1, H2, H3⟩ := ho
        refine tot_some (.inl ⟨_, rfl, ⟨H1, fun h => ?_⟩, ?_⟩)
        · obtain ⟨e, hcons⟩ := H2 h
          simp only at e ⊢
          rw [e]
          exact hcons
        · simp only [if_true]
          have h0 := sumD_nonneg (k := n.toNat) hs.pos
          have h1 := sumD_nonneg (k := n.toNat) H1.pos
          split
          · rename_i e
            have := H3 e
            simp only at h1 this ⊢
            omega
          · omega
    · subst h
      have hcons := hs' rfl
      refine tot_some (.inr ⟨_, rfl, ⟨hs.len, hs.pos, hs.le, fun j hj => ⟨fun hin a ha => ?_, hs.has j hj⟩⟩⟩)
      have ha' : InC l s9 a := by
        rcases ha with rfl | ha
        · exact hin
        · exact hcons j hj hin a ha
      have hal : a < l.length := by
        rcases ha with rfl | ha
        · exact hj
        · have := ha.lt; omega
      have hna := hnd a hal
      exact Int.le_trans ha' (hs.le _ (by omega))
  · simp only [if_true]
    have := sumD_nonneg (k := n.toNat) hmid.pos
    omega
theorem f37_t (n : Int) (l : List Act) (cut : List Int) (hR : RA l) : Tot (f37 n l cut) (GreatR n l cut) := by
  unfold f37
  refine (f65_t n l cut hR).bind fun x hx => ?_
  refine tot_if (fun h => ?_) (fun h => ?_)
  · simp only [Bool.not_eq_true', decide_eq_false_iff_not] at h
    exact tot_some ⟨hx, fun _ => rfl, fun k => absurd k h⟩
  simp only [Bool.not_eq_false', decide_eq_true_eq] at h
  subst h
  obtain ⟨hok, hc, hi⟩ := hx.zero
  have hnd := hok.nd
  obtain ⟨n1, n2⟩ := hok.n
  have hcl := hc.1
  have hN := hok.len
  refine (f67_t hok).bind fun at' ha => (f23_t hok.len).bind fun P hP => tot_need (apOk_t (by omega)) ?_
  rw [toNat_len]
  -- what was done with the first events, and of the next one with the first that are before it
  let D : Nat → Nat → Nat → Nat → Prop := fun i k b a => Pst l a b ∧ ¬ InC l cut a ∧ (b < i ∨ (b = i ∧ a < k))
  let J : Nat → Nat → List Int → Prop := fun i k c => c.length = n.toNat ∧ (∀ p, p < n.toNat → 0 ≤ c.getD p 0 ∧ c.getD p 0 ≤ cut.getD p 0) ∧ (∀ b a, b < l.length → D i k b a → c.getD (nd l b).toNat 0 ≤ (idx l b : Int) - 1) ∧ ∀ p : Nat, p < n.toNat → c.getD p 0 = cut.getD p 0 ∨ ∃ b a, b < l.length ∧ D i k b a ∧ nd l b = p ∧ c.getD p 0 = (idx l b : Int) - 1
  have hcong : ∀ {i k i' k' : Nat} {c : List Int}, (∀ b a, D i k b a ↔ D i' k' b a) → J i k c → J i' k' c := fun hD h => ⟨h.1, h.2.1, fun b a hb hd => h.2.2.1 b a hb ((hD b a).2 hd), fun p hp => (h.2.2.2 p hp).imp id fun ⟨b, a, b1, b2, b3⟩ => ⟨b, a, b1, (hD b a).1 b2, b3⟩⟩
  refine (tot_rng (fun i c => J i 0 c) ⟨by omega, fun p hp => ⟨hc.2 p (by omega), Int.le_refl _⟩, fun b a hb hd => ?_, fun p hp => .inl rfl⟩ fun i c hi' H => ?_).bind fun o ho => ?_
  · rcases hd.2.2 with h | ⟨_, h⟩ <;> omega
  · unfold f37_b0
    have hni := hnd i hi'
    have eni : (l.getD i default).1 = nd l i := rfl
    refine tot_ix hi' (tot_ix (by rw [hP.1]; exact hi') ?_)
    obtain ⟨g1, g2⟩ := hP.2 i hi'
    rw [toNat_len, g1]
    refine (tot_rng (fun k c => J i k c) H fun k c hk H => ?_).bind fun o ho => ?_
    · obtain ⟨K1, K2, K3, K4⟩ := H
      unfold f37_b1
      have hnk := hnd k hk
      have enk : (l.getD k default).1 = nd l k := rfl
      refine Tot.bind (Q := fun o => ∃ c', o = .inl c' ∧ J i (k + 1) c') ?_ fun o ho => ?_
      · refine tot_ix (by omega) ?_
        rw [ix_getD (show k < at'.length by omega), ix_getD hk]
        simp only [Option.isSome_some, Bool.or_true, cond_true, Option.getD_some, enk]
        rw [ix_int hnk.1 (by omega), ha.2 k hk, eni]
        simp only [Option.isSome_some, Bool.or_true, cond_true, Option.getD_some]
        refine tot_if (fun h => ?_) (fun h => ?_)
        · simp only [Bool.and_eq_true, decide_eq_true_eq] at h
          have hp := (g2 k hk).1 h.1
          have hnin : ¬ InC l cut k := fun q => by
            have h2 : cut.getD (nd l k).toNat 0 < (idx l k : Int) := h.2
            unfold InC at q; omega
          refine tot_ixz hni.1 (by omega) (tot_ix (by omega) ?_)
          rw [ha.2 i hi']
          have hip := idx_pos (l := l) (j := i)
          have hid := idx_tot (l := l) hi'
          have hcl2 := cnt_le (l := l) (p := nd l i) (a := l.length)
          rw [w64_id ⟨by omega, by omega⟩]
          have hlt : (nd l i).toNat < c.length := by omega
          have hold := K2 (nd l i).toNat (by omega)
          have hdef : c.getD (nd l i).toNat default = c.getD (nd l i).toNat 0 := rfl
          rw [hdef]
          have hnew : D i (k + 1) i k := ⟨hp, hnin, .inr ⟨rfl, by omega⟩⟩
          have hmono : ∀ b a, D i k b a → D i (k + 1) b a := fun b a hd => ⟨hd.1, hd.2.1, hd.2.2.imp id fun h => ⟨h.1, by omega⟩⟩
          refine tot_some ⟨_, rfl, by simp [K1], fun p hp => ?_, fun b a hb hd => ?_, fun p hp => ?_⟩
          · rw [getD_set hlt]
            split
            · rename_i e; rw [← e]; omega
            · exact K2 p hp
          · rw [getD_set hlt]
            rcases Classical.em (D i k b a) with hd' | hd'
            · have := K3 b a hb hd'
              split
              · rename_i e; rw [← e] at this; omega
              · exact this
            · have eb : b = i := by
                rcases hd.2.2 with h | h
                · exact absurd ⟨hd.1, hd.2.1, .inl h⟩ hd'
                · exact h.1
              rw [eb, if_pos rfl]; omega
          · rw [getD_set hlt]
            split
            · rename_i e
              rcases Int.le_total (c.getD (nd l i).toNat 0) ((idx l i : Int) - 1) with q | q
              · rw [Int.min_eq_left q, e]
                exact (K4 p hp).imp id fun ⟨b, a, b1, b2, b3⟩ => ⟨b, a, b1, hmono b a b2, b3⟩
              · rw [Int.min_eq_right q]
                exact .inr ⟨i, k, hi', hnew, by omega, rfl⟩
            · exact (K4 p hp).imp id fun ⟨b, a, b1, b2, b3⟩ => ⟨b, a, b1, hmono b a b2, b3⟩
        · refine tot_some ⟨_, rfl, hcong (fun b a => ?_) ⟨K1, K2, K3, K4⟩⟩
          constructor
          · exact fun hd => ⟨hd.1, hd.2.1, hd.2.2.imp id fun h => ⟨h.1, by omega⟩⟩
          · intro hd
            refine ⟨hd.1, hd.2.1, ?_⟩
            rcases hd.2.2 with h' | ⟨h1, h2⟩
            · exact .inl h'
            · rcases Nat.lt_or_ge a k with c1 | c1
              · exact .inr ⟨h1, c1⟩
              · have ea : a = k := by omega
                subst ea
                have h3 := hd.1
                have h4 := hd.2.1
                rw [h1] at h3
                rw [(g2 a hk).2 h3, Bool.true_and] at h
                have h5 : ¬ cut.getD (nd l a).toNat 0 < (idx l a : Int) := of_decide_eq_false h
                exact absurd (Int.not_lt.1 h5) h4
      · obtain ⟨c', rfl, h⟩ := ho
        exact tot_some ⟨_, rfl, h⟩
    · obtain ⟨c', rfl, h⟩ := ho
      refine tot_some ⟨_, rfl, hcong (fun b a => ?_) h⟩
      constructor
      · intro hd
        refine ⟨hd.1, hd.2.1, ?_⟩
        rcases hd.2.2 with h' | ⟨h1, h2⟩
        · exact .inl (by omega)
        · exact .inl (by omega)
      · intro hd
        refine ⟨hd.1, hd.2.1, ?_⟩
        have := hd.1.lt
        rcases hd.2.2 with h' | ⟨h1, h2⟩
        · rcases Nat.lt_or_ge b i with c | c
          · exact .inl c
          · exact .inr ⟨by omega, by omega⟩
        · omega
  · obtain ⟨c, rfl, K1, K2, K3, K4⟩ := ho
    refine tot_some ⟨hx, fun k => absurd rfl k, fun _ => ⟨K1, fun p hp => (K2 p hp).1, fun p hp => (K2 p hp).2, fun j hj => ?_⟩⟩
    have hnj := hnd j hj
    constructor
    · intro hin a hp
      have hj' : InC l cut j := Int.le_trans hin (K2 _ (by omega)).2
      rcases hp with rfl | hp
      · exact hj'
      · refine Classical.byContradiction fun hna => ?_
        have := K3 j a hj ⟨hp, hna, .inl hj⟩
        unfold InC at hin
        simp only at hin
        omega
    · intro hf
      unfold InC
      rcases K4 (nd l j).toNat (by omega) with h | ⟨b, a, b1, b2, b3, b4⟩
      · simp only at h ⊢
        rw [h]; exact hf j (.inl rfl)
      · simp only at b4 ⊢
        rw [b4]
        have e : nd l b = nd l j := by omega
        rcases Nat.lt_or_ge (idx l j) (idx l b) with q | q
        · omega
        · exfalso
          refine b2.2.1 (hf a (.inr ?_))
          rcases Nat.lt_trichotomy b j with c1 | c1 | c1
          · exact b2.1.trans (pst_same c1 e)
          · rw [← c1]; exact b2.1
          · have := idx_lt c1 e.symm; omega
end Go.Ab

set_option linter.unusedVariables false
namespace Go.Ab

/-! layer 29: before, beside, past -/
theorem askR {l : List Act} {a b : Int} (h : InR l [a, b]) : (0 ≤ a ∧ a < l.length) ∧ 0 ≤ b ∧ b < l.length := ⟨h 0 (by simp), h 1 (by simp)⟩
theorem askR1 {l : List Act} {a : Int} (h : InR l [a]) : 0 ≤ a ∧ a < l.length := h 0 (by simp)
theorem f58_t {n : Int} {l : List Act} (hok : Ok n l) {m : List (List Int)} (hm : GClk n l m) {a b : Nat} (ha : a < l.length) (hb : b < l.length) : Tot (f58 l m (a : Int) (b : Int)) fun r => (r = true ↔ Pst l a b) := by
  have hnd := hok.nd a ha
  obtain ⟨n1, n2⟩ := hok.n
  have ca := hm.2 a ha
  have cb := hm.2 b hb
  have e0 : (l.getD a default).1 = nd l a := rfl
  have i1 : ix m (b : Int) = some (m.getD b default) := ix_getD (by rw [hm.1]; exact hb)
  have i2 : ix m (a : Int) = some (m.getD a default) := ix_getD (by rw [hm.1]; exact ha)
  have i3 : ix l (a : Int) = some (l.getD a default) := ix_getD ha
  have i4 : ix (m.getD b default) (nd l a) = some ((m.getD b default).getD (nd l a).toNat default) := ix_int hnd.1 (by rw [cb.len]; omega)
  have i5 : ix (m.getD a default) (nd l a) = some ((m.getD a default).getD (nd l a).toNat default) := ix_int hnd.1 (by rw [ca.len]; omega)
  unfold f58
  simp only [i1, i2, i3, Option.getD_some, e0, i4, i5, Option.isSome_some, Bool.or_true, cond_true]
  refine tot_some ?_
  have hiff := ca.before cb ha (by omega)
  rw [Bool.and_eq_true, Bool.not_eq_true', decide_eq_false_iff_not, decide_eq_true_iff]
  have hd : (default : Int) = 0 := rfl
  rw [hd]
  constructor
  · rintro ⟨h1, h2⟩
    rcases hiff.2 h2 with h3 | h3
    · exact absurd (by rw [h3]) h1
    · exact h3
  · intro h
    refine ⟨fun e => ?_, hiff.1 (.inr h)⟩
    have := h.lt; omega
/-- What is told of one event and another. -/
def BefR (n : Int) (l : List Act) (a b : Int) (r : Bool × Int) : Prop := (∃ e, e ≠ 0 ∧ AskErr n l [a, b] e ∧ r = (false, e)) ∨ (AskErr n l [a, b] 0 ∧ (r.1 = true ↔ Pst l a.toNat b.toNat) ∧ r.2 = 0)
theorem BefR.uniq {n : Int} {l : List Act} {a b : Int} {r q : Bool × Int} (h : BefR n l a b r) (k : BefR n l a b q) : r = q := by
  rcases h with ⟨e, h1, h2, rfl⟩ | ⟨h1, h2, h3⟩ <;> rcases k with ⟨f, k1, k2, rfl⟩ | ⟨k1, k2, k3⟩
  · rw [h2.uniq k2]
  · exact absurd (h2.uniq k1) h1
  · exact absurd (k2.uniq h1) k1
  · refine Prod.ext ?_ (h3.trans k3.symm)
    have := h2.trans k2.symm
    cases hr : r.1 <;> cases hq : q.1 <;> simp_all
theorem f24_t (n : Int) (l : List Act) (a b : Int) : Tot (f24 n l a b) (BefR n l a b) := by
  unfold f24
  refine (f57_t n l [a, b]).bind fun x1 h1 => tot_if (fun h => tot_some (.inl ⟨x1, by simpa using h, h1, rfl⟩)) fun h => ?_
  have hz : x1 = 0 := by simpa using h
  subst hz
  obtain ⟨hok, hr⟩ := h1.zero
  obtain ⟨⟨a0, a1⟩, b0, b1⟩ := askR hr
  refine (f52_t hok).bind fun x4 h4 => ?_
  obtain ⟨i, rfl⟩ : ∃ i : Nat, a = (i : Int) := ⟨a.toNat, by omega⟩
  obtain ⟨j, rfl⟩ : ∃ j : Nat, b = (j : Int) := ⟨b.toNat, by omega⟩
  refine (f58_t hok h4 (by omega) (by omega)).bind fun x6 h6 => tot_some (.inr ⟨h1, by simpa using h6, rfl⟩)
theorem f25_t (n : Int) (l : List Act) (a b : Int) (hR : RA l) : Tot (f25 n l a b) (BefR n l a b) := by
  unfold f25
  refine (f53_t n l [a, b] hR).bind fun x1 h1 => tot_if (fun h => tot_some (.inl ⟨x1, by simpa using h, h1, rfl⟩)) fun h => ?_
  have hz : x1 = 0 := by simpa using h
  subst hz
  obtain ⟨hok, hr⟩ := h1.zero
  obtain ⟨⟨a0, a1⟩, b0, b1⟩ := askR hr
  refine (f23_t hok.len).bind fun x4 h4 => ?_
  obtain ⟨i, rfl⟩ : ∃ i : Nat, a = (i : Int) := ⟨a.toNat, by omega⟩
  obtain ⟨j, rfl⟩ : ∃ j : Nat, b = (j : Int) := ⟨b.toNat, by omega⟩
  have hj : j < l.length := by omega
  have hi : i < l.length := by omega
  refine tot_ix (by rw [h4.1]; exact hj) (tot_ix (by rw [(h4.2 j hj).1]; exact hi) (tot_some (.inr ⟨h1, ?_, rfl⟩)))
  simpa using (h4.2 j hj).2 i hi

/-- The numbers below k that have a property, ascending. -/
noncomputable def selN (P : Nat → Prop) : Nat → List Int
  | 0 => []
  | k + 1 => selN P k ++ (if h : @decide (P k) (Classical.propDecidable _) = true then [(k : Int)] else [])
theorem selN_len {P : Nat → Prop} : ∀ {k : Nat}, (selN P k).length ≤ k := by
  intro k
  induction k with
  | zero => simp [selN]
  | succ k ih => simp only [selN, List.length_append]; split <;> simp <;> omega
theorem selN_yes {P : Nat → Prop} {k : Nat} (h : P k) : selN P (k + 1) = selN P k ++ [(k : Int)] := by simp [selN, h]
theorem selN_no {P : Nat → Prop} {k : Nat} (h : ¬ P k) : selN P (k + 1) = selN P k := by simp [selN, h]
def ListR (n : Int) (l : List Act) (a : Int) (P : Nat → Prop) (r : List Int × Int) : Prop := (∃ e, e ≠ 0 ∧ AskErr n l [a] e ∧ r = ([], e)) ∨ (AskErr n l [a] 0 ∧ r = (selN P l.length, 0))
theorem ListR.uniq {n : Int} {l : List Act} {a : Int} {P : Nat → Prop} {r q : List Int × Int} (h : ListR n l a P r) (k : ListR n l a P q) : r = q := by
  rcases h with ⟨e, h1, h2, rfl⟩ | ⟨h1, rfl⟩ <;> rcases k with ⟨f, k1, k2, rfl⟩ | ⟨k1, rfl⟩
  · rw [h2.uniq k2]
  · exact absurd (h2.uniq k1) h1
  · exact absurd (k2.uniq h1) k1
  · rfl
theorem f59_t (n : Int) (l : List Act) (a : Int) (q : List (List Int) → Int → Option Bool) (P : Nat → Prop) (hP : ∀ i : Nat, (i : Int) = a → ¬ P i) (hq : Ok n l → 0 ≤ a → a < l.length → ∀ m, GClk n l m → ∀ i : Nat, i < l.length → (i : Int) ≠ a → Tot (q m (i : Int)) fun r => (r = true ↔ P i)) : Tot (f59 n l a q) (ListR n l a P) := by
  unfold f59
  refine (f57_t n l [a]).bind fun x1 h1 => tot_if (fun h => tot_some (.inl ⟨x1, by simpa using h, h1, rfl⟩)) fun h => ?_
  have hz : x1 = 0 := by simpa using h
  subst hz
  obtain ⟨hok, hr⟩ := h1.zero
  have ha := askR1 hr
  have hN := hok.len
  refine (f52_t hok).bind fun x4 h4 => ?_
  rw [toNat_len]
  refine (tot_rng (fun i s => s = selN P i) rfl fun i s hi H => ?_).bind fun o ho => ?_
  · subst H
    have hl := selN_len (P := P) (k := i)
    unfold f59_b0
    by_cases hia : (i : Int) = a
    · have hp := hP i hia
      simp only [hia, decide_true, Bool.not_true, Bool.not_false, Bool.true_or, cond_true, Bool.false_and, cond_false]
      exact tot_some ⟨_, rfl, (selN_no hp).symm⟩
    obtain ⟨r, hr1, hr2⟩ := hq hok ha.1 ha.2 x4 h4 i hi hia
    simp only [hr1, Option.isSome_some, Bool.or_true, cond_true, Option.getD_some, hia, decide_false, Bool.not_false, Bool.true_and]
    by_cases hp : P i
    · have : r = true := hr2.2 hp
      subst this
      simp only [cond_true]
      rw [ap8 (by omega) (by simp)]
      exact tot_some ⟨_, rfl, (selN_yes hp).symm⟩
    · have : r = false := by cases r with
        | false => rfl
        | true => exact absurd (hr2.1 rfl) hp
      subst this
      simp only [cond_false]
      exact tot_some ⟨_, rfl, (selN_no hp).symm⟩
  · obtain ⟨s, rfl, rfl⟩ := ho
    exact tot_some (.inr ⟨h1, rfl⟩)
def BesP (l : List Act) (a : Int) (i : Nat) : Prop := (i : Int) ≠ a ∧ ¬ Pst l a.toNat i ∧ ¬ Pst l i a.toNat
def PasP (l : List Act) (a : Int) (i : Nat) : Prop := Pst l i a.toNat
theorem f26_t (n : Int) (l : List Act) (a : Int) : Tot (f26 n l a) (ListR n l a (BesP l a)) := by
  unfold f26
  refine (f59_t n l a _ (BesP l a) (fun i e h => h.1 e) fun hok a0 a1 m hm i hi hne => ?_).bind fun x1 h1 => tot_some h1
  obtain ⟨j, rfl⟩ : ∃ j : Nat, a = (j : Int) := ⟨a.toNat, by omega⟩
  have hj : j < l.length := by omega
  unfold f60
  refine (f58_t hok hm hj hi).bind fun x1 h1 => ?_
  obtain ⟨y, hy1, hy2⟩ := f58_t hok hm hi hj
  simp only [hy1, Option.isSome_some, Bool.or_true, cond_true, Option.getD_some]
  refine tot_some ?_
  simp only [BesP, Int.toNat_natCast]
  rw [Bool.and_eq_true, Bool.not_eq_true', Bool.not_eq_true', ← h1, ← hy2]
  simp [hne]
theorem f28_t (n : Int) (l : List Act) (a : Int) : Tot (f28 n l a) (ListR n l a (PasP l a)) := by
  unfold f28
  refine (f59_t n l a _ (PasP l a) (fun i e h => ?_) fun hok a0 a1 m hm i hi hne => ?_).bind fun x1 h1 => tot_some h1
  · have h2 := Pst.lt h; omega
  obtain ⟨j, rfl⟩ : ∃ j : Nat, a = (j : Int) := ⟨a.toNat, by omega⟩
  have hj : j < l.length := by omega
  unfold f61
  exact (f58_t hok hm hi hj).bind fun x1 h1 => tot_some (by simpa [PasP] using h1)
theorem f29_t (n : Int) (l : List Act) (a : Int) (hR : RA l) : Tot (f29 n l a) (ListR n l a (PasP l a)) := by
  unfold f29
  refine (f53_t n l [a] hR).bind fun x1 h1 => tot_if (fun h => tot_some (.inl ⟨x1, by simpa using h, h1, rfl⟩)) fun h => ?_
  have hz : x1 = 0 := by simpa using h
  subst hz
  obtain ⟨hok, hr⟩ := h1.zero
  have ha := askR1 hr
  have hN := hok.len
  refine (f23_t hN).bind fun x4 h4 => ?_
  obtain ⟨j, rfl⟩ : ∃ j : Nat, a = (j : Int) := ⟨a.toNat, by omega⟩
  have hj : j < l.length := by omega
  refine tot_ix (by rw [h4.1]; exact hj) ?_
  obtain ⟨r1, r2⟩ := h4.2 j hj
  generalize x4.getD j default = row at r1 r2
  rw [toNat_len, r1]
  refine (tot_rng (fun i s => s = selN (PasP l (j : Int)) i) rfl fun i s hi H => ?_).bind fun o ho => ?_
  · subst H
    have hl := selN_len (P := PasP l (j : Int)) (k := i)
    unfold f29_b0
    rw [ix_getD (by rw [r1]; exact hi)]
    simp only [Option.bind_some]
    by_cases hp : PasP l (j : Int) i
    · have : row.getD i default = true := (r2 i hi).2 (by simpa [PasP] using hp)
      rw [this, ap8 (by omega) (by simp)]
      exact tot_some ⟨_, rfl, (selN_yes hp).symm⟩
    · have : row.getD i default = false := by cases hc : row.getD i default with
        | false => rfl
        | true => exact absurd (by simpa [PasP] using (r2 i hi).1 hc) hp
      rw [this]
      exact tot_some ⟨_, rfl, (selN_no hp).symm⟩
  · obtain ⟨s, rfl, rfl⟩ := ho
    exact tot_some (.inr ⟨h1, rfl⟩)
theorem f27_t (n : Int) (l : List Act) (a : Int) (hR : RA l) : Tot (f27 n l a) (ListR n l a (BesP l a)) := by
  unfold f27
  refine (f53_t n l [a] hR).bind fun x1 h1 => tot_if (fun h => tot_some (.inl ⟨x1, by simpa using h, h1, rfl⟩)) fun h => ?_
  have hz : x1 = 0 := by simpa using h
  subst hz
  obtain ⟨hok, hr⟩ := h1.zero
  have ha := askR1 hr
  have hN := hok.len
  refine (f23_t hN).bind fun x4 h4 => ?_
  obtain ⟨j, rfl⟩ : ∃ j : Nat, a = (j : Int) := ⟨a.toNat, by omega⟩
  have hj : j < l.length := by omega
  obtain ⟨r1, r2⟩ := h4.2 j hj
  rw [toNat_len]
  refine (tot_rng (fun i s => s = selN (BesP l (j : Int)) i) rfl fun i s hi H => ?_).bind fun o ho => ?_
  · subst H
    have hl := selN_len (P := BesP l (j : Int)) (k := i)
    obtain ⟨q1, q2⟩ := h4.2 i hi
    have e1 : ix x4 (j : Int) = some (x4.getD j default) := ix_getD (by rw [h4.1]; exact hj)
    have e2 : ix x4 (i : Int) = some (x4.getD i default) := ix_getD (by rw [h4.1]; exact hi)
    have e3 : ix (x4.getD j default) (i : Int) = some ((x4.getD j default).getD i default) := ix_getD (by rw [r1]; exact hi)
    have e4 : ix (x4.getD i default) (j : Int) = some ((x4.getD i default).getD j default) := ix_getD (by rw [q1]; exact hj)
    have k1 := r2 i hi
    have k2 := q2 j hj
    unfold f27_b0
    simp only [e1, e2, e3, e4, Option.isSome_some, Option.getD_some, Bool.or_true, cond_true]
    generalize (x4.getD j default).getD i default = u at k1
    generalize (x4.getD i default).getD j default = v at k2
    have hb : ((!decide ((i : Int) = (j : Int)) && !u) && !v) = true ↔ BesP l (j : Int) i := by
      simp only [BesP, Int.toNat_natCast, Bool.and_eq_true, Bool.not_eq_true', decide_eq_false_iff_not, ← k1, ← k2]
      cases u <;> cases v <;> simp
    generalize ((!decide ((i : Int) = (j : Int)) && !u) && !v) = c at hb
    by_cases hp : BesP l (j : Int) i
    · rw [hb.2 hp, ap8 (by omega) (by simp)]
      exact tot_some ⟨_, rfl, (selN_yes hp).symm⟩
    · have : c = false := by cases c with
        | false => rfl
        | true => exact absurd (hb.1 rfl) hp
      rw [this]
      exact tot_some ⟨_, rfl, (selN_no hp).symm⟩
  · obtain ⟨s, rfl, rfl⟩ := ho
    exact tot_some (.inr ⟨h1, rfl⟩)
end Go.Ab

set_option linter.unusedVariables false
namespace Go.Ab

/-! layer 29: the shortest way -/
def Suc (l : List Act) (i k : Nat) : Prop := i < k ∧ Dir l i k
open Classical in
/-- The shortest way on from i, over events below m. -/
noncomputable def bst (l : List Act) (f : Nat → Int) (i : Nat) : Nat → Int
  | 0 => -1
  | k + 1 => if Suc l i k ∧ 0 ≤ f k ∧ (bst l f i k < 0 ∨ f k + 1 < bst l f i k) then f k + 1 else bst l f i k
theorem bst_yes {l : List Act} {f : Nat → Int} {i k : Nat} (h : Suc l i k ∧ 0 ≤ f k ∧ (bst l f i k < 0 ∨ f k + 1 < bst l f i k)) : bst l f i (k + 1) = f k + 1 := by simp only [bst]; rw [if_pos h]
theorem bst_no {l : List Act} {f : Nat → Int} {i k : Nat} (h : ¬ (Suc l i k ∧ 0 ≤ f k ∧ (bst l f i k < 0 ∨ f k + 1 < bst l f i k))) : bst l f i (k + 1) = bst l f i k := by simp only [bst]; rw [if_neg h]
theorem bst_congr {l : List Act} {f g : Nat → Int} {i : Nat} : ∀ {m : Nat}, (∀ k, k < m → i < k → f k = g k) → bst l f i m = bst l g i m := by
  intro m
  induction m with
  | zero => intro _; rfl
  | succ m ih =>
    intro h
    have h1 := ih fun k hk => h k (by omega)
    by_cases hs : Suc l i m
    · have h2 := h m (by omega) hs.1
      by_cases hc : Suc l i m ∧ 0 ≤ f m ∧ (bst l f i m < 0 ∨ f m + 1 < bst l f i m)
      · rw [bst_yes hc, bst_yes (by rw [← h1, ← h2]; exact hc), h2]
      · rw [bst_no hc, bst_no (by rw [← h1, ← h2]; exact hc), h1]
    · rw [bst_no fun c => hs c.1, bst_no fun c => hs c.1, h1]
theorem bst_low {l : List Act} {f : Nat → Int} {i : Nat} : ∀ {m : Nat}, m ≤ i + 1 → bst l f i m = -1 := by
  intro m
  induction m with
  | zero => intro _; rfl
  | succ m ih => intro h; rw [bst_no fun c => by have := c.1.1; omega]; exact ih (by omega)
theorem bst_from {l : List Act} {f : Nat → Int} {i : Nat} : ∀ {m : Nat}, bst l f i m = -1 ∨ ∃ k, k < m ∧ Suc l i k ∧ 0 ≤ f k ∧ bst l f i m = f k + 1 := by
  intro m
  induction m with
  | zero => exact .inl rfl
  | succ m ih =>
    by_cases h : Suc l i m ∧ 0 ≤ f m ∧ (bst l f i m < 0 ∨ f m + 1 < bst l f i m)
    · exact .inr ⟨m, by omega, h.1, h.2.1, bst_yes h⟩
    · rw [bst_no h]
      rcases ih with h1 | ⟨k, h1, h2⟩
      · exact .inl h1
      · exact .inr ⟨k, by omega, h2⟩
theorem bst_rg {l : List Act} {f : Nat → Int} {i m N : Nat} (h : ∀ k, k < m → i < k → f k ≤ N - k) : -1 ≤ bst l f i m ∧ (bst l f i m ≤ N - i ∨ bst l f i m = -1) := by
  rcases bst_from (l := l) (f := f) (i := i) (m := m) with h1 | ⟨k, h1, h2, h3, h4⟩
  · rw [h1]; exact ⟨by omega, .inr rfl⟩
  · have := h k h1 h2.1
    have := h2.1
    rw [h4]; exact ⟨by omega, .inl (by omega)⟩
/-- How far it is to b. -/
def FarL (l : List Act) (b : Nat) (F : List Int) : Prop := F.length = l.length ∧ ∀ i, i < l.length → F.getD i default = if i = b then 0 else bst l (fun k => F.getD k default) i l.length
theorem FarL.rg {l : List Act} {b : Nat} {F : List Int} (h : FarL l b F) : ∀ (d i : Nat), l.length - i = d → i < l.length → -1 ≤ F.getD i default ∧ F.getD i default ≤ l.length - i := by
  intro d
  induction d using Nat.strongRecOn with
  | _ d ih =>
    intro i hd hi
    rw [h.2 i hi]
    by_cases e : i = b
    · rw [if_pos e]; omega
    · rw [if_neg e]
      have := bst_rg (l := l) (f := fun k => F.getD k default) (i := i) (m := l.length) (N := l.length) fun k hk hik => (ih (l.length - k) (by omega) k rfl hk).2
      omega
theorem FarL.up {l : List Act} {b : Nat} {F : List Int} (h : FarL l b F) : ∀ (d i : Nat), l.length - i = d → i < l.length → b < i → F.getD i default = -1 := by
  intro d
  induction d using Nat.strongRecOn with
  | _ d ih =>
    intro i hd hi hb
    rw [h.2 i hi, if_neg (by omega)]
    rcases bst_from (l := l) (f := fun k => F.getD k default) (i := i) (m := l.length) with h1 | ⟨k, h1, h2, h3, h4⟩
    · exact h1
    · have := ih (l.length - k) (by have := h2.1; omega) k rfl h1 (by have := h2.1; omega)
      try simp only at h3
      omega

/-- The next event of the way. -/
def Nx (l : List Act) (F : List Int) (i k : Nat) : Prop := (Suc l i k ∧ F.getD k default = F.getD i default - 1) ∧ ∀ j, j < k → ¬ (Suc l i j ∧ F.getD j default = F.getD i default - 1)
inductive TailW (l : List Act) (b : Nat) (F : List Int) : Nat → List Int → Prop
  | stop : TailW l b F b []
  | step {i k : Nat} {t : List Int} : i ≠ b → k < l.length → Nx l F i k → TailW l b F k t → TailW l b F i ((k : Int) :: t)
theorem TailW.uniq {l : List Act} {b : Nat} {F : List Int} {i : Nat} {t u : List Int} (h : TailW l b F i t) : TailW l b F i u → t = u := by
  induction h generalizing u with
  | stop => intro k; cases k with
    | stop => rfl
    | step h => exact absurd rfl h
  | @step i k t h1 _ h2 h3 ih =>
    intro q
    cases q with
    | stop => exact absurd rfl h1
    | @step _ k' t' g1 _ g2 g3 =>
      have : k = k' := by
        rcases Nat.lt_trichotomy k k' with e | e | e
        · exact absurd h2.1 (g2.2 k e)
        · exact e
        · exact absurd g2.1 (h2.2 k' e)
      subst this
      rw [ih g3]
theorem FarL.next {l : List Act} {b : Nat} {F : List Int} (h : FarL l b F) {i : Nat} (hi : i < l.length) (hb : i ≠ b) (hf : 0 ≤ F.getD i default) : ∃ k, k < l.length ∧ Suc l i k ∧ F.getD k default = F.getD i default - 1 ∧ 0 ≤ F.getD k default := by
  have h1 := h.2 i hi
  rw [if_neg hb] at h1
  rcases bst_from (l := l) (f := fun k => F.getD k default) (i := i) (m := l.length) with h2 | ⟨k, h2, h3, h4, h5⟩
  · rw [h2] at h1; omega
  · try simp only at h4 h5
    exact ⟨k, h2, h3, by omega, h4⟩
def WayR (l : List Act) (a b : Nat) (F : List Int) (r : List Int) : Prop := ∃ t, TailW l b F a t ∧ r = (a : Int) :: t

/-- The reference's table. -/
theorem f31_far {n : Int} {l : List Act} (hok : Ok n l) {b : Nat} (hb : b < l.length) : Tot (lrun (f31_b0 l (b : Int)) (l.length + 2) ((w64 ((l.length : Int) - 1)), List.replicate (Int.toNat (l.length : Int)) 0)) (FarL l b) := by
  have hN := hok.len
  rw [toNat_len, w64_id (z := (l.length : Int) - 1) (by constructor <;> omega)]
  refine tot_lrun (fun (s : Int × List Int) => s.2.length = l.length ∧ -1 ≤ s.1 ∧ s.1 < l.length ∧ ∀ i : Nat, i < l.length → s.1 < (i : Int) → s.2.getD i default = if i = b then 0 else bst l (fun k => s.2.getD k default) i l.length) (fun s => (s.1 + 1).toNat) (FarL l b) (fun s H => ?_) _ _ ⟨by simp, by omega, by omega, fun i h1 h2 => by omega⟩ (by simp only; omega)
  obtain ⟨z, F⟩ := s
  obtain ⟨H1, H2, H3, H4⟩ := H
  simp only at H1 H2 H3 H4
  unfold f31_b0
  refine tot_if (fun h => ?_) (fun h => ?_)
  · have hz0 := of_decide_eq_true h
    obtain ⟨c, rfl⟩ : ∃ c : Nat, z = (c : Int) := ⟨z.toNat, by omega⟩
    have hc : c < l.length := by omega
    have hrg : ∀ (d i : Nat), l.length - i = d → i < l.length → c < i → -1 ≤ F.getD i default ∧ F.getD i default ≤ l.length - i := by
      intro d
      induction d using Nat.strongRecOn with
      | _ d ih =>
        intro i hd hi hci
        rw [H4 i hi (by omega)]
        by_cases e : i = b
        · rw [if_pos e]; omega
        · rw [if_neg e]
          have := bst_rg (l := l) (f := fun k => F.getD k default) (i := i) (m := l.length) (N := l.length) fun k hk hik => (ih (l.length - k) (by omega) k rfl hk (by omega)).2
          omega
    refine tot_ix (by omega) ?_
    -- what stands there when the round begins
    have hfirst : Tot ((bif decide ((c : Int) = (b : Int)) then ((ix (F.set (Int.toNat (c : Int)) (-1)) (c : Int)).bind fun x46 => some (.inl ((F.set (Int.toNat (c : Int)) (-1)).set (Int.toNat (c : Int)) 0))) else (some (.inl (F.set (Int.toNat (c : Int)) (-1))))) : Option ((List Int) ⊕ Unit)) fun o => o = .inl (F.set c (if c = b then 0 else -1)) := by
      rw [Int.toNat_natCast]
      by_cases e : c = b
      · subst e
        simp only [decide_true, cond_true, if_true]
        refine tot_ix (by simp; omega) (tot_some ?_)
        rw [List.set_set]
      · rw [if_neg e]
        have : ¬ (c : Int) = (b : Int) := by omega
        simp only [this, decide_false, cond_false]
        exact tot_some rfl
    refine hfirst.bind fun o43 ho => ?_
    subst ho
    simp only
    rw [w64_id (z := (c : Int) + 1) (by constructor <;> omega), w64_id (z := (c : Int) - 1) (by constructor <;> omega)]
    refine (tot_lrun (fun (s : Int × List Int) => s.2.length = l.length ∧ (∃ k : Nat, s.1 = (k : Int) ∧ c < k ∧ k ≤ l.length ∧ s.2 = F.set c (if c = b then 0 else bst l (fun k => F.getD k default) c k))) (fun s => ((l.length : Int) - s.1).toNat) (fun G => G = F.set c (if c = b then 0 else bst l (fun k => F.getD k default) c l.length)) (fun s H => ?_) _ _ ⟨by simp [H1], c + 1, by simp, by omega, by omega, ?_⟩ (by simp only; omega)).bind fun G hG => ?_
    · obtain ⟨y, G⟩ := s
      obtain ⟨G1, k, rfl, G3, G4, G5⟩ := H
      simp only at G1 G5
      unfold f31_b3
      refine tot_if (fun h => ?_) (fun h => ?_)
      · have hk : k < l.length := by have := of_decide_eq_true h; omega
        obtain ⟨y, hy1, hy2⟩ := f56_t hN hc hk
        have hgk : G.getD k default = F.getD k default := by rw [G5, getD_set (by omega), if_neg (by omega)]
        have hgc : G.getD c default = if c = b then 0 else bst l (fun k => F.getD k default) c k := by rw [G5, getD_set (by omega), if_pos rfl]
        have hkr := hrg _ k rfl hk G3
        have e1 : ix G (k : Int) = some (F.getD k default) := by rw [ix_getD (by omega), hgk]
        have e2 : ix G (c : Int) = some (if c = b then 0 else bst l (fun k => F.getD k default) c k) := by rw [ix_getD (by omega), hgc]
        have hw : w64 (F.getD k default + 1) = F.getD k default + 1 := w64_id (by constructor <;> omega)
        have hw2 : w64 ((k : Int) + 1) = ((k + 1 : Nat) : Int) := by rw [w64_id (by constructor <;> omega)]; simp
        simp only [e1, e2, hy1, Option.bind_some, Option.isSome_some, Option.getD_some, Bool.or_true, cond_true, hw, hw2, Int.toNat_natCast]
        by_cases hcb : c = b
        · subst hcb
          simp only [decide_true, Bool.not_true, Bool.and_false, Bool.false_and, cond_false, Option.bind_some]
          exact tot_some (.inl ⟨_, rfl, ⟨G1, k + 1, rfl, by omega, by omega, by simpa using G5⟩, by simp only; omega⟩)
        · have hne : ¬ (c : Int) = (b : Int) := by omega
          rw [if_neg hcb] at G5 ⊢
          simp only [hne, decide_false, Bool.not_false, Bool.and_true]
          have hcond : ((decide (0 ≤ F.getD k default) && y) && (decide (bst l (fun k => F.getD k default) c k < 0) || decide (F.getD k default + 1 < bst l (fun k => F.getD k default) c k))) = true ↔ (Suc l c k ∧ 0 ≤ F.getD k default ∧ (bst l (fun k => F.getD k default) c k < 0 ∨ F.getD k default + 1 < bst l (fun k => F.getD k default) c k)) := by
            simp only [Bool.and_eq_true, Bool.or_eq_true, decide_eq_true_iff, hy2, Suc]
            constructor
            · rintro ⟨⟨g1, g2⟩, g3⟩; exact ⟨⟨G3, g2⟩, g1, g3⟩
            · rintro ⟨⟨_, g2⟩, g1, g3⟩; exact ⟨⟨g1, g2⟩, g3⟩
          by_cases hb2 : (Suc l c k ∧ 0 ≤ F.getD k default ∧ (bst l (fun k => F.getD k default) c k < 0 ∨ F.getD k default + 1 < bst l (fun k => F.getD k default) c k))
          · rw [hcond.2 hb2]
            simp only [cond_true, Option.bind_some]
            refine tot_some (.inl ⟨_, rfl, ⟨by simp [G1], k + 1, rfl, by omega, by omega, ?_⟩, by simp only; omega⟩)
            simp only
            rw [if_neg hcb, bst_yes hb2, G5, List.set_set]
          · have : ((decide (0 ≤ F.getD k default) && y) && (decide (bst l (fun k => F.getD k default) c k < 0) || decide (F.getD k default + 1 < bst l (fun k => F.getD k default) c k))) = false := by
              rw [Bool.eq_false_iff]; exact fun hc => hb2 (hcond.1 hc)
            rw [this]
            simp only [cond_false, Option.bind_some]
            refine tot_some (.inl ⟨_, rfl, ⟨G1, k + 1, rfl, by omega, by omega, ?_⟩, by simp only; omega⟩)
            simp only
            rw [if_neg hcb, bst_no hb2]; exact G5
      · have hk : k = l.length := by have := of_decide_eq_false h; omega
        subst hk
        exact tot_some (.inr ⟨_, rfl, G5⟩)
    · simp only
      rw [bst_low (Nat.le_refl _)]
    · subst hG
      refine tot_some (.inl ⟨_, rfl, ⟨by simp [H1], by simp only; omega, by simp only; omega, fun i h1 h2 => ?_⟩, by simp only; omega⟩)
      simp only at h2 ⊢
      have hcg : ∀ m, bst l (fun k => (F.set c (if c = b then 0 else bst l (fun k => F.getD k default) c l.length)).getD k default) i m = bst l (fun k => F.getD k default) i m := fun m => bst_congr fun k hk hik => by
        try simp only
        rw [getD_set (by omega), if_neg (by omega)]
      rw [hcg, getD_set (by omega)]
      by_cases e : c = i
      · subst e; rw [if_pos rfl]
      · rw [if_neg e]; exact H4 i h1 (by omega)
  · have hz : z = -1 := by have := of_decide_eq_false h; omega
    subst hz
    exact tot_some (.inr ⟨_, rfl, H1, fun i hi => H4 i hi (by omega)⟩)
end Go.Ab

set_option linter.unusedVariables false
namespace Go.Ab

theorem dir_lt {n : Int} {l : List Act} (hok : Ok n l) {a b : Nat} (ha : a < l.length) (hb : b < l.length) (h : Dir l a b) : a < b := by
  rcases h with ⟨h1, h2, h3⟩ | h
  · obtain ⟨_, _, _, c4, _⟩ := code_zero (hok.2 b hb).2
    obtain ⟨_, _, c3, _, _⟩ := code_zero (hok.2 a ha).2
    have hS : HasS l b (ms l b) := Classical.byContradiction fun hc => c4 (.inl ⟨h2, hc⟩)
    obtain ⟨j, j1, j2, j3⟩ := hS
    obtain ⟨_, _, d3, _, _⟩ := code_zero (hok.2 j (by omega)).2
    rcases Nat.lt_trichotomy a j with e | e | e
    · exact absurd (.inl (.inl ⟨j2, a, e, h1, by rw [h3, j3]⟩)) d3
    · omega
    · exact absurd (.inl (.inl ⟨h1, j, e, j2, by rw [h3, j3]⟩)) c3
  · exact h.1
theorem selN_at {P : Nat → Prop} : ∀ {n p : Nat}, p < (selN P n).length → ∃ k, k < n ∧ P k ∧ (selN P k).length = p ∧ (selN P n).getD p default = (k : Int) := by
  intro n
  induction n with
  | zero => intro p h; simp [selN] at h
  | succ n ih =>
    intro p h
    by_cases hp : P n
    · rw [selN_yes hp] at h ⊢
      by_cases hl : p < (selN P n).length
      · obtain ⟨k, h1, h2, h3, h4⟩ := ih hl
        exact ⟨k, by omega, h2, h3, by rw [getD_app, if_pos hl]; exact h4⟩
      · simp at h
        have : p = (selN P n).length := by omega
        subst this
        exact ⟨n, by omega, hp, rfl, by rw [getD_app, if_neg (by omega)]; simp⟩
    · rw [selN_no hp] at h ⊢
      obtain ⟨k, h1, h2, h3, h4⟩ := ih h
      exact ⟨k, by omega, h2, h3, h4⟩
theorem selN_le {P : Nat → Prop} {m : Nat} : ∀ {d : Nat}, (selN P m).length ≤ (selN P (m + d)).length := by
  intro d
  induction d with
  | zero => exact Nat.le_refl _
  | succ d ih =>
    by_cases hp : P (m + d)
    · rw [show m + (d + 1) = m + d + 1 from rfl, selN_yes hp]; simp; omega
    · rw [show m + (d + 1) = m + d + 1 from rfl, selN_no hp]; exact ih
theorem selN_same {P : Nat → Prop} {m m' : Nat} (h : m ≤ m') (hl : (selN P m).length = (selN P m').length) : ∀ j, m ≤ j → j < m' → ¬ P j := by
  intro j h1 h2 hp
  have e1 := selN_le (P := P) (m := m) (d := j - m)
  have e2 := selN_le (P := P) (m := j + 1) (d := m' - (j + 1))
  rw [show m + (j - m) = j by omega] at e1
  rw [show j + 1 + (m' - (j + 1)) = m' by omega, selN_yes hp] at e2
  simp at e2
  omega
theorem bst_same {l : List Act} {f : Nat → Int} {i m : Nat} : ∀ {d : Nat}, (∀ j, m ≤ j → j < m + d → ¬ Suc l i j) → bst l f i (m + d) = bst l f i m := by
  intro d
  induction d with
  | zero => intro _; rfl
  | succ d ih =>
    intro h
    rw [show m + (d + 1) = m + d + 1 from rfl, bst_no fun c => h (m + d) (by omega) (by omega) c.1]
    exact ih fun j h1 h2 => h j h1 (by omega)
theorem bst_pos {l : List Act} {f : Nat → Int} {i m m' : Nat} (h : (selN (Suc l i) m).length = (selN (Suc l i) m').length) : bst l f i m = bst l f i m' := by
  rcases Nat.le_total m m' with e | e
  · have := bst_same (l := l) (f := f) (i := i) (m := m) (d := m' - m) fun j h1 h2 => selN_same e h j h1 (by omega)
    rw [show m + (m' - m) = m' by omega] at this; exact this.symm
  · have := bst_same (l := l) (f := f) (i := i) (m := m') (d := m - m') fun j h1 h2 => selN_same e h.symm j h1 (by omega)
    rw [show m' + (m - m') = m by omega] at this; exact this

/-- Where a way goes on. -/
def WayI (l : List Act) (a b : Nat) (F : List Int) (s : Int × List Int) : Prop := ∃ (i : Nat) (t0 : List Int), s = ((i : Int), (a : Int) :: t0) ∧ a ≤ i ∧ i < l.length ∧ 0 ≤ F.getD i default ∧ (∀ t, TailW l b F i t → TailW l b F a (t0 ++ t)) ∧ (t0.length : Int) + F.getD i default ≤ F.getD a default
theorem WayI.start {l : List Act} {a b : Nat} {F : List Int} (ha : a < l.length) (h : 0 ≤ F.getD a default) : WayI l a b F ((a : Int), [(a : Int)]) := ⟨a, [], rfl, Nat.le_refl _, ha, h, fun t ht => by simpa using ht, by simp⟩
theorem WayI.next {l : List Act} {a b i k : Nat} {F : List Int} {t0 : List Int} (hib : i ≠ b) (hai : a ≤ i) (hk : k < l.length) (hn : Nx l F i k) (h0 : 0 ≤ F.getD i default - 1) (ht : ∀ t, TailW l b F i t → TailW l b F a (t0 ++ t)) (hl : (t0.length : Int) + F.getD i default ≤ F.getD a default) : WayI l a b F ((k : Int), (a : Int) :: t0 ++ [(k : Int)]) := by
  refine ⟨k, t0 ++ [(k : Int)], rfl, by have := hn.1.1.1; omega, hk, by rw [hn.1.2]; exact h0, fun t h => ?_, ?_⟩
  · have := ht _ (.step hib hk hn h)
    simpa using this
  · rw [hn.1.2, List.length_append, List.length_singleton]; omega
theorem opt_cond (u v : Int) (hv : 0 ≤ v) : ((if 0 ≤ u then some u else none : Option Int).isSome && decide ((if 0 ≤ u then some u else none : Option Int).getD 0 = v)) = true ↔ u = v := by
  by_cases h : 0 ≤ u
  · simp [h]
  · simp [h]; omega
theorem f31_way {n : Int} {l : List Act} (hok : Ok n l) {a b : Nat} {F : List Int} (hF : FarL l b F) (ha : a < l.length) (hfa : 0 ≤ F.getD a default) : Tot (lrun (f31_b1 l (b : Int) F) (l.length + 2) ((a : Int), [(a : Int)])) (WayR l a b F) := by
  have hN := hok.len
  have hra := hF.rg _ a rfl ha
  refine tot_lrun (WayI l a b F) (fun s => (F.getD s.1.toNat default).toNat) _ (fun s H => ?_) _ _ (.start ha hfa) (by simp only [Int.toNat_natCast]; omega)
  obtain ⟨i, t0, rfl, hai, hi, hfi, ht, hl⟩ := H
  have hri := hF.rg _ i rfl hi
  unfold f31_b1
  simp only
  by_cases hib : i = b
  · subst hib
    simp only [decide_true, Bool.not_true, cond_false]
    refine tot_some (.inr ⟨_, rfl, t0, ?_, rfl⟩)
    simpa using ht [] .stop
  · have hne : ¬ (i : Int) = (b : Int) := by omega
    simp only [hne, decide_false, Bool.not_false, cond_true, toNat_len]
    obtain ⟨k0, k1, k2, k3, k4⟩ := hF.next hi hib hfi
    have hw : w64 (F.getD i default - 1) = F.getD i default - 1 := w64_id (by constructor <;> omega)
    refine (tot_rngx (fun j (s : Unit) => ∀ q, q < j → ¬ (Suc l i q ∧ F.getD q default = F.getD i default - 1)) (fun r => ∃ k : Nat, r = (k : Int) ∧ k < l.length ∧ Nx l F i k) (fun q hq => absurd hq (by omega)) fun j s hj H => ?_).bind fun o ho => ?_
    · obtain ⟨y, hy1, hy2⟩ := f56_t hN hi hj
      have e1 : ix F (j : Int) = some (F.getD j default) := ix_getD (by rw [hF.1]; exact hj)
      have e2 : ix F (i : Int) = some (F.getD i default) := ix_getD (by rw [hF.1]; exact hi)
      unfold f31_b2
      simp only [e1, e2, hy1, Option.bind_some, Option.isSome_some, Bool.or_true, cond_true, Option.getD_some, hw]
      have hc : (decide (F.getD j default = F.getD i default - 1) && y) = true ↔ (Suc l i j ∧ F.getD j default = F.getD i default - 1) := by
        rw [Bool.and_eq_true, decide_eq_true_iff, hy2]
        exact ⟨fun ⟨h1, h2⟩ => ⟨⟨dir_lt hok hi hj h2, h2⟩, h1⟩, fun ⟨⟨_, h2⟩, h1⟩ => ⟨h1, h2⟩⟩
      refine tot_if (fun h => tot_some (.inr ⟨_, rfl, j, rfl, hj, hc.1 h, H⟩)) (fun h => tot_some (.inl ⟨_, rfl, fun q hq hh => ?_⟩))
      by_cases e : q = j
      · subst e; rw [hc.2 hh] at h; cases h
      · exact H q (by omega) hh
    · rcases ho with ⟨⟨⟩, rfl, h⟩ | ⟨r, rfl, k, rfl, hk, hn⟩
      · exact absurd ⟨k2, k3⟩ (h k0 k1)
      · simp only
        refine tot_need (ap8 (by simp; omega) (by simp)) (tot_some (.inl ⟨_, rfl, WayI.next hib hai hk hn (by omega) ht hl, ?_⟩))
        simp only [Int.toNat_natCast]
        rw [hn.1.2]; omega
theorem f30_way {n : Int} {l : List Act} (hok : Ok n l) {a b : Nat} {F : List Int} (hF : FarL l b F) (ha : a < l.length) (hfa : 0 ≤ F.getD a default) {s8 : List (Int × List Int)} (hs : ∀ k : Nat, (mget s8 (k : Int)).getD [] = selN (Suc l k) l.length) {s32 : List (Int × Int)} (hm : ∀ k : Nat, a ≤ k → k < l.length → mget s32 (k : Int) = if 0 ≤ F.getD k default then some (F.getD k default) else none) :
    Tot (lrun (f30_b3 (b : Int) s8 s32) (l.length + 2) ((a : Int), [(a : Int)])) (WayR l a b F) := by
  have hN := hok.len
  have hra := hF.rg _ a rfl ha
  refine tot_lrun (WayI l a b F) (fun s => (F.getD s.1.toNat default).toNat) _ (fun s H => ?_) _ _ (.start ha hfa) (by simp only [Int.toNat_natCast]; omega)
  obtain ⟨i, t0, rfl, hai, hi, hfi, ht, hl⟩ := H
  have hri := hF.rg _ i rfl hi
  unfold f30_b3
  simp only
  by_cases hib : i = b
  · subst hib
    simp only [decide_true, Bool.not_true, cond_false]
    refine tot_some (.inr ⟨_, rfl, t0, ?_, rfl⟩)
    simpa using ht [] .stop
  · have hne : ¬ (i : Int) = (b : Int) := by omega
    simp only [hne, decide_false, Bool.not_false, cond_true, hs i, toNat_len]
    obtain ⟨k0, k1, k2, k3, k4⟩ := hF.next hi hib hfi
    have hw : w64 (F.getD i default - 1) = F.getD i default - 1 := w64_id (by constructor <;> omega)
    have hmi : (mget s32 (i : Int)).getD 0 = F.getD i default := by rw [hm i hai hi, if_pos hfi]; rfl
    refine (tot_rngx (fun p (s : Unit) => ∀ m, m ≤ l.length → (selN (Suc l i) m).length = p → ∀ q, q < m → ¬ (Suc l i q ∧ F.getD q default = F.getD i default - 1)) (fun r => ∃ k : Nat, r = ((k : Int), (a : Int) :: t0 ++ [(k : Int)]) ∧ k < l.length ∧ Nx l F i k) (fun m hm hl q hq hh => ?_) fun p s hp H => ?_).bind fun o ho => ?_
    · have := selN_same (P := Suc l i) (m := 0) (m' := m) (by omega) (by rw [hl]; rfl) q (by omega) hq
      exact this hh.1
    · obtain ⟨k, q1, q2, q3, q4⟩ := selN_at hp
      have hik := q2.1
      have e1 : ix (selN (Suc l i) l.length) (p : Int) = some (k : Int) := by rw [ix_getD hp, q4]
      unfold f30_b4
      rw [hs i]
      simp only [e1, Option.bind_some, hm k (by omega) q1, hmi, hw]
      have hc : (Option.isSome (if 0 ≤ F.getD k default then some (F.getD k default) else none) && decide ((if 0 ≤ F.getD k default then some (F.getD k default) else none).getD 0 = F.getD i default - 1)) = true ↔ F.getD k default = F.getD i default - 1 :=
         opt_cond _ _ (by omega)
      refine tot_if (fun h => ?_) (fun h => ?_)
      · refine tot_need (ap8 (by simp; omega) (by simp)) (tot_some (.inr ⟨_, rfl, k, rfl, q1, ⟨q2, hc.1 h⟩, H k (by omega) q3⟩))
      · refine tot_some (.inl ⟨_, rfl, fun m hm hl q hq hh => ?_⟩)
        rcases Nat.lt_trichotomy q k with e | e | e
        · exact H k (by omega) q3 q e hh
        · subst e; rw [hc.2 hh.2] at h; cases h
        · exact selN_same (P := Suc l i) (m := k + 1) (m' := m) (by omega) (by rw [hl, selN_yes q2]; simp [q3]) q (by omega) hq hh.1
    · rcases ho with ⟨⟨⟩, rfl, h⟩ | ⟨r, rfl, k, rfl, hk, hn⟩
      · exact absurd ⟨k2, k3⟩ (h l.length (Nat.le_refl _) rfl k0 k1)
      · simp only
        refine tot_some (.inl ⟨_, rfl, WayI.next hib hai hk hn (by omega) ht hl, ?_⟩)
        simp only [Int.toNat_natCast]
        rw [hn.1.2]; omega
end Go.Ab

set_option linter.unusedVariables false
namespace Go.Ab

/-- What is directly behind each event, as the program gathers it. -/
theorem nxt_step {l : List Act} (hN : l.length ≤ 1000) {i : Nat} (hi : i < l.length) {bl : List Int} (hb : Bef l i bl) {s : List (Int × List Int)} (hs : ∀ k : Nat, (mget s (k : Int)).getD [] = selN (Suc l k) i) :
    Tot (f30_b0 s ((i : Int), bl)) fun s' => ∀ k : Nat, (mget s' (k : Int)).getD [] = selN (Suc l k) (i + 1) := by
  unfold f30_b0
  simp only [toNat_len]
  refine (tot_rng (fun p (s' : List (Int × List Int)) => ∀ k : Nat, (mget s' (k : Int)).getD [] = selN (Suc l k) i ++ (if (k : Int) ∈ bl.take p then [(i : Int)] else [])) (fun k => by rw [hs k]; simp) fun p s' hp H => ?_).bind fun o ho => ?_
  · unfold f30_b1
    refine tot_ix hp ?_
    have hmem := getD_mem (x := bl) (d := default) hp
    obtain ⟨a, ha, ha2, ha3⟩ := (hb.1 _).1 hmem
    have hnot : bl.getD p default ∉ bl.take p := by
      intro hc
      obtain ⟨j, hj, hje⟩ := mem_getD default hc
      have hjp : j < p := by simp at hj; omega
      rw [getD_take hjp] at hje
      have h1 := List.pairwise_iff_getElem.1 hb.2 j p (by omega) hp hjp
      rw [List.getD_eq_getElem?_getD, List.getD_eq_getElem?_getD, List.getElem?_eq_getElem (by omega), List.getElem?_eq_getElem hp] at hje
      simp at hje
      omega
    rw [ha] at hnot ⊢
    have hHa := H a
    rw [if_neg hnot, List.append_nil] at hHa
    have hlen := selN_len (P := Suc l a) (k := i)
    refine tot_need (ap8 (by rw [hHa]; omega) (by simp)) (tot_some ⟨_, rfl, fun k => ?_⟩)
    rw [mget_mset, take_snoc default hp, ha]
    by_cases e : (k : Int) = (a : Int)
    · have : k = a := by omega
      subst this
      simp [hHa]
    · rw [if_neg e, H k]
      congr 1
      by_cases h : (k : Int) ∈ bl.take p
      · simp [h]
      · simp [h, e]
  · obtain ⟨s', rfl, H⟩ := ho
    refine tot_some fun k => ?_
    rw [H k, List.take_length]
    have hiff : (k : Int) ∈ bl ↔ Suc l k i := by
      rw [hb.1]
      constructor
      · rintro ⟨a, h1, h2, h3⟩
        have : k = a := by omega
        subst this; exact ⟨h2, h3⟩
      · rintro ⟨h2, h3⟩; exact ⟨k, rfl, h2, h3⟩
    by_cases h : Suc l k i
    · rw [selN_yes h, if_pos (hiff.2 h)]
    · rw [selN_no h, if_neg fun c => h (hiff.1 c), List.append_nil]
def encF (v : Int) : Option Int := if v < 0 then none else some v
theorem enc_cond (acc u : Int) : ((!(encF acc).isSome) || decide (u < (encF acc).getD 0)) = true ↔ acc < 0 ∨ u < acc := by
  unfold encF
  by_cases h : acc < 0
  · simp [h]
  · simp [h]
theorem far_prog {n : Int} {l : List Act} (hok : Ok n l) {a b : Nat} {F : List Int} (hF : FarL l b F) (hb : b < l.length) {s8 : List (Int × List Int)} (hs : ∀ k : Nat, (mget s8 (k : Int)).getD [] = selN (Suc l k) l.length) :
    Tot (lrun (f30_b2 (a : Int) s8) (l.length + 2) ((w64 ((b : Int) - 1)), mset [] (b : Int) 0)) fun m => ∀ k : Nat, a ≤ k → k < l.length → mget m (k : Int) = if 0 ≤ F.getD k default then some (F.getD k default) else none := by
  have hN := hok.len
  rw [w64_id (z := (b : Int) - 1) (by constructor <;> omega)]
  refine tot_lrun (fun (s : Int × List (Int × Int)) => -1 ≤ s.1 ∧ s.1 < b ∧ ∀ k : Nat, k < l.length → mget s.2 (k : Int) = if s.1 < (k : Int) then (if 0 ≤ F.getD k default then some (F.getD k default) else none) else none) (fun s => (s.1 + 1).toNat) _ (fun s H => ?_) _ _ ⟨by simp only; omega, by simp only; omega, fun k hk => ?_⟩ (by simp only; omega)
  · obtain ⟨z, m⟩ := s
    obtain ⟨H1, H2, H3⟩ := H
    simp only at H1 H2 H3
    unfold f30_b2
    refine tot_if (fun h => ?_) (fun h => ?_)
    · have haz := of_decide_eq_true h
      obtain ⟨c, rfl⟩ : ∃ c : Nat, z = (c : Int) := ⟨z.toNat, by omega⟩
      have hc : c < l.length := by omega
      rw [hs c, toNat_len]
      refine (tot_rng (fun p (m' : List (Int × Int)) => (∀ k : Nat, k ≠ c → mget m' (k : Int) = mget m (k : Int)) ∧ ∀ q, q ≤ l.length → (selN (Suc l c) q).length = p → mget m' (c : Int) = encF (bst l (fun k => F.getD k default) c q)) ⟨fun k _ => rfl, fun q hq hl => ?_⟩ fun p m' hp H => ?_).bind fun o ho => ?_
      · rw [H3 c hc, if_neg (by omega)]
        have := bst_pos (l := l) (f := fun k => F.getD k default) (i := c) (m := 0) (m' := q) (by rw [hl]; rfl)
        rw [← this]; rfl
      · obtain ⟨G1, G2⟩ := H
        obtain ⟨k, q1, q2, q3, q4⟩ := selN_at hp
        have hck := q2.1
        have hacc := G2 k (by omega) q3
        have hkr := hF.rg _ k rfl q1
        have hw : ∀ u : Int, u ≤ l.length → -1 ≤ u → w64 (u + 1) = u + 1 := fun u h1 h2 => w64_id (by constructor <;> omega)
        have hmk : mget m' (k : Int) = if 0 ≤ F.getD k default then some (F.getD k default) else none := by rw [G1 k (by omega), H3 k q1, if_pos (by omega)]
        unfold f30_b5
        rw [hs c, ix_getD hp, q4]
        simp only [Option.bind_some]
        have hfin : ∀ (v : Int) (m2 : List (Int × Int)), (∀ j : Nat, j ≠ c → mget m2 (j : Int) = mget m (j : Int)) → mget m2 (c : Int) = encF (bst l (fun k => F.getD k default) c (k + 1)) → ∃ s', (Sum.inl m2 : List (Int × Int) ⊕ Unit) = .inl s' ∧ (∀ j : Nat, j ≠ c → mget s' (j : Int) = mget m (j : Int)) ∧ ∀ q, q ≤ l.length → (selN (Suc l c) q).length = p + 1 → mget s' (c : Int) = encF (bst l (fun k => F.getD k default) c q) := fun _ m2 h1 h2 => ⟨m2, rfl, h1, fun q hq hl => by
          rw [h2]
          rw [bst_pos (l := l) (f := fun k => F.getD k default) (i := c) (m := k + 1) (m' := q) (by rw [hl, selN_yes q2]; simp [q3])]⟩
        by_cases hk0 : 0 ≤ F.getD k default
        · rw [if_pos hk0] at hmk
          simp only [hmk, Option.isSome_some, cond_true, Option.getD_some, hw _ (by omega : F.getD k default ≤ l.length) hkr.1, hacc]
          by_cases hcd : bst l (fun k => F.getD k default) c k < 0 ∨ F.getD k default + 1 < bst l (fun k => F.getD k default) c k
          · rw [(enc_cond _ _).2 hcd]
            simp only [cond_true, Option.bind_some]
            refine tot_some (hfin 0 _ (fun j hj => ?_) ?_)
            · rw [mget_mset, if_neg (by omega)]; exact G1 j hj
            · rw [mget_mset, if_pos rfl, bst_yes ⟨q2, hk0, hcd⟩]
              unfold encF
              rw [if_neg (by omega)]
          · have : ((!(encF (bst l (fun k => F.getD k default) c k)).isSome) || decide (F.getD k default + 1 < (encF (bst l (fun k => F.getD k default) c k)).getD 0)) = false := by
              rw [Bool.eq_false_iff]; exact fun hc => hcd ((enc_cond _ _).1 hc)
            rw [this]
            simp only [cond_false, Option.bind_some]
            refine tot_some (hfin 0 _ G1 ?_)
            rw [hacc, bst_no fun c => hcd c.2.2]
        · rw [if_neg hk0] at hmk
          simp only [hmk, Option.isSome_none, cond_false, Option.bind_some]
          refine tot_some (hfin 0 _ G1 ?_)
          rw [hacc, bst_no fun c => hk0 c.2.1]
      · obtain ⟨m', rfl, G1, G2⟩ := ho
        have hcc := G2 l.length (Nat.le_refl _) rfl
        have hFc := hF.2 c hc
        rw [if_neg (by omega)] at hFc
        rw [← hFc] at hcc
        simp only
        rw [w64_id (z := (c : Int) - 1) (by constructor <;> omega)]
        refine tot_some (.inl ⟨_, rfl, ⟨by simp only; omega, by simp only; omega, fun k hk => ?_⟩, by simp only; omega⟩)
        simp only
        by_cases e : k = c
        · subst e
          rw [hcc, if_pos (by omega)]
          unfold encF
          by_cases h0 : F.getD k default < 0
          · rw [if_pos h0, if_neg (by omega)]
          · rw [if_neg h0, if_pos (by omega)]
        · rw [G1 k e, H3 k hk]
          by_cases h1 : c < k
          · rw [if_pos (show (c : Int) < (k : Int) by omega), if_pos (show (c : Int) - 1 < (k : Int) by omega)]
          · rw [if_neg (show ¬ (c : Int) < (k : Int) by omega), if_neg (show ¬ (c : Int) - 1 < (k : Int) by omega)]
    · have hza := of_decide_eq_false h
      exact tot_some (.inr ⟨_, rfl, fun k hk hkl => by rw [H3 k hkl, if_pos (by omega)]⟩)
  · simp only
    rw [mget_mset, mget_nil]
    by_cases e : k = b
    · subst e
      have := hF.2 k hk
      rw [if_pos rfl] at this
      rw [if_pos rfl, if_pos (by omega), this]; simp
    · rw [if_neg (by omega)]
      by_cases h1 : b < k
      · have := hF.up _ k rfl hk h1
        rw [if_pos (by omega), this]; simp
      · rw [if_neg (by omega)]

theorem FarL.uniq {l : List Act} {b : Nat} {F G : List Int} (h : FarL l b F) (k : FarL l b G) : F = G := by
  refine ext_getD default (h.1.trans k.1.symm) fun j hj => ?_
  rw [h.1] at hj
  have key : ∀ (d i : Nat), l.length - i = d → i < l.length → F.getD i default = G.getD i default := by
    intro d
    induction d using Nat.strongRecOn with
    | _ d ih =>
      intro i hd hi
      rw [h.2 i hi, k.2 i hi]
      by_cases e : i = b
      · rw [if_pos e, if_pos e]
      · rw [if_neg e, if_neg e]
        exact bst_congr fun q hq hiq => ih (l.length - q) (by omega) q rfl hq
  exact key _ j rfl hj
/-- What is told of the way. -/
def WayRes (n : Int) (l : List Act) (a b : Int) (r : List Int × Int) : Prop := (∃ e, e ≠ 0 ∧ AskErr n l [a, b] e ∧ r = ([], e)) ∨ (AskErr n l [a, b] 0 ∧ ∃ F, FarL l b.toNat F ∧ ((F.getD a.toNat default < 0 ∧ r = ([], 8)) ∨ (0 ≤ F.getD a.toNat default ∧ WayR l a.toNat b.toNat F r.1 ∧ r.2 = 0)))
theorem WayRes.uniq {n : Int} {l : List Act} {a b : Int} {r q : List Int × Int} (h : WayRes n l a b r) (k : WayRes n l a b q) : r = q := by
  rcases h with ⟨e, h1, h2, rfl⟩ | ⟨h1, F, h2, h3⟩ <;> rcases k with ⟨f, k1, k2, rfl⟩ | ⟨k1, G, k2, k3⟩
  · rw [h2.uniq k2]
  · exact absurd (h2.uniq k1) h1
  · exact absurd (k2.uniq h1) k1
  · have := h2.uniq k2
    subst this
    rcases h3 with ⟨h3, rfl⟩ | ⟨h3, ⟨t, h4, h5⟩, h6⟩ <;> rcases k3 with ⟨k3, rfl⟩ | ⟨k3, ⟨u, k4, k5⟩, k6⟩
    · rfl
    · omega
    · omega
    · refine Prod.ext ?_ (h6.trans k6.symm)
      rw [h5, k5, h4.uniq k4]
theorem f30_t (n : Int) (l : List Act) (a b : Int) (hR : RA l) : Tot (f30 n l a b) (WayRes n l a b) := by
  unfold f30
  refine (f57_t n l [a, b]).bind fun x1 h1 => tot_if (fun h => tot_some (.inl ⟨x1, by simpa using h, h1, rfl⟩)) fun h => ?_
  have hz : x1 = 0 := by simpa using h
  subst hz
  obtain ⟨hok, hr⟩ := h1.zero
  obtain ⟨⟨a0, a1⟩, b0, b1⟩ := askR hr
  obtain ⟨i, rfl⟩ : ∃ i : Nat, a = (i : Int) := ⟨a.toNat, by omega⟩
  obtain ⟨j, rfl⟩ : ∃ j : Nat, b = (j : Int) := ⟨b.toNat, by omega⟩
  have hi : i < l.length := by omega
  have hj : j < l.length := by omega
  obtain ⟨F, _, hF⟩ := f31_far hok hj
  have e62 : f62 n l = some () := rfl
  rw [e62]
  simp only [Option.bind_some]
  refine (f82_t hok (fun q s => ∀ k : Nat, (mget s (k : Int)).getD [] = selN (Suc l k) q) (fun k => rfl) fun q s bl hq hb hs => nxt_step hok.len hq hb hs).bind fun s8 hs => ?_
  refine (far_prog (a := i) hok hF hj hs).bind fun m hm => ?_
  have hmi := hm i (Nat.le_refl _) hi
  rw [hmi]
  by_cases h0 : 0 ≤ F.getD i default
  · rw [if_pos h0]
    simp only [Option.isSome_some, Bool.not_true, cond_false]
    refine (f30_way hok hF hi h0 hs hm).bind fun r hr => ?_
    exact tot_some (.inr ⟨h1, F, by simpa using hF, .inr ⟨by simpa using h0, by simpa using hr, rfl⟩⟩)
  · rw [if_neg h0]
    simp only [Option.isSome_none, Bool.not_false, cond_true]
    exact tot_some (.inr ⟨h1, F, by simpa using hF, .inl ⟨by rw [Int.toNat_natCast]; omega, rfl⟩⟩)
theorem f31_t (n : Int) (l : List Act) (a b : Int) (hR : RA l) : Tot (f31 n l a b) (WayRes n l a b) := by
  unfold f31
  refine (f53_t n l [a, b] hR).bind fun x1 h1 => tot_if (fun h => tot_some (.inl ⟨x1, by simpa using h, h1, rfl⟩)) fun h => ?_
  have hz : x1 = 0 := by simpa using h
  subst hz
  obtain ⟨hok, hr⟩ := h1.zero
  obtain ⟨⟨a0, a1⟩, b0, b1⟩ := askR hr
  have hN := hok.len
  obtain ⟨i, rfl⟩ : ∃ i : Nat, a = (i : Int) := ⟨a.toNat, by omega⟩
  obtain ⟨j, rfl⟩ : ∃ j : Nat, b = (j : Int) := ⟨b.toNat, by omega⟩
  have hi : i < l.length := by omega
  have hj : j < l.length := by omega
  refine tot_need (mkOk_t (by omega) (by rw [toNat_len]; omega)) ?_
  refine (f31_far hok hj).bind fun F hF => ?_
  simp only
  refine tot_ix (by rw [hF.1]; exact hi) (tot_if (fun h => ?_) fun h => ?_)
  · have := of_decide_eq_true h
    exact tot_some (.inr ⟨h1, F, by simpa using hF, .inl ⟨by rw [Int.toNat_natCast]; exact this, rfl⟩⟩)
  · have h0 : 0 ≤ F.getD i default := by have := of_decide_eq_false h; omega
    refine (f31_way hok hF hi h0).bind fun r hr => ?_
    exact tot_some (.inr ⟨h1, F, by simpa using hF, .inr ⟨by simpa using h0, by simpa using hr, rfl⟩⟩)
/-- CauseBefore returns true. -/
theorem f5_t (n : Int) (l : List Act) (a b : Int) (hR : RA l) : f5 n l a b = some true := by
  refine Tot.eq ?_
  unfold f5
  refine (f14_t l).bind fun x1 h1 => ?_
  refine tot_if (fun h => by rw [f8_t]; exact tot_some rfl) (fun h => ?_)
  clear h h1
  obtain ⟨r1, e1, h1⟩ := f24_t n l a b
  obtain ⟨q1, d1, k1⟩ := f25_t n l a b hR
  obtain ⟨r2, e2, h2⟩ := f26_t n l a
  obtain ⟨q2, d2, k2⟩ := f27_t n l a hR
  obtain ⟨r3, e3, h3⟩ := f28_t n l a
  obtain ⟨q3, d3, k3⟩ := f29_t n l a hR
  obtain ⟨r4, e4, h4⟩ := f30_t n l a b hR
  obtain ⟨q4, d4, k4⟩ := f31_t n l a b hR
  rw [k1.uniq h1] at d1
  rw [k2.uniq h2] at d2
  rw [k3.uniq h3] at d3
  rw [k4.uniq h4] at d4
  rw [e1, d1, e2, d2, e3, d3, e4, d4, f8_t]
  simp only [Option.bind_some, f13_refl, decide_true, Bool.not_true, Bool.or_self, cond_false, Bool.and_self, Option.isSome_some, Option.getD_some, Bool.or_true, cond_true]
  exact tot_some rfl
end Go.Ab
