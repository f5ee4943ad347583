/- Lemmas for a law of the seat: what functions of the program do, each stated as a contract of its own (C). -/
import Derived.Test.YtjagcoeihmhabaaTAd
import Derived.Test.YtjagcoeihmhabaaPu
set_option linter.unusedVariables false
set_option linter.unusedSimpArgs false
namespace Go.Ab
theorem f8_t : f8 = some true := by decide +kernel
/-- slices.ContainsFunc -/
theorem f75_any (p : List Int) (P : Int → Bool) : f75 p (fun y => some (P y)) = some (p.any P) := by
  unfold f75 f86
  rw [toNat_len]
  rcases rng_ex0 (g := f86_b0 p fun y => some (P y)) (n := p.length) (s := ()) (fun i _ => ∀ j, (hj : j < p.length) → j < i → P p[j] = false) (fun r : Int => 0 ≤ r ∧ ∃ x ∈ p, P x = true) (fun i s hi hs => by
    unfold f86_b0
    rw [ix_nat hi]
    simp only [Option.bind_some]
    cases hP : P p[i] with
    | true => right; exact ⟨i, rfl, by omega, p[i], by simp, hP⟩
    | false =>
      left
      refine ⟨(), rfl, fun j hj hji => ?_⟩
      by_cases e : j = i
      · subst e; exact hP
      · exact hs j hj (by omega)) (by intro j _ h; omega) with ⟨s', h1, h2⟩ | ⟨r, h1, h2, x, hx, hP⟩
  · rw [h1]
    simp only [Option.bind_some]
    congr 1
    have : p.any P = false := by
      rw [List.any_eq_false]
      intro x hx
      obtain ⟨j, hj, rfl⟩ := List.getElem_of_mem hx
      simp [h2 j hj hj]
    rw [this]; decide
  · rw [h1]
    simp only [Option.bind_some]
    congr 1
    have : p.any P = true := List.any_eq_true.2 ⟨x, hx, hP⟩
    rw [this]; simp [h2]
theorem f45_eq (a b : List Int) : f45 a b = some (decide (a.length = b.length) && decide (1 ≤ a.length) && decide (a.length ≤ 16) && !a.any (fun x => decide (x < 0)) && !b.any (fun x => decide (x < 0))) := by
  unfold f45
  have e : ∀ p : List Int, f75 p (fun y1 => f79 y1) = some (p.any fun x => decide (x < 0)) := fun p => f75_any p _
  simp only [e, Option.isSome_some, Bool.or_true, cond_true, Option.getD_some]
  have e1 : decide ((a.length : Int) = (b.length : Int)) = decide (a.length = b.length) := decide_eq_decide.2 (by omega)
  have e2 : decide (1 ≤ (a.length : Int)) = decide (1 ≤ a.length) := decide_eq_decide.2 (by omega)
  have e3 : decide ((a.length : Int) ≤ 16) = decide (a.length ≤ 16) := decide_eq_decide.2 (by omega)
  rw [e1, e2, e3]
abbrev neg (x : Int) : Bool := decide (x < 0)
theorem f47_in (x : List Int) : rng (f47_b1 x) x.length 0 () = some (if x.any neg then .inr () else .inl ()) := by
  rcases rng_ex0 (g := f47_b1 x) (n := x.length) (s := ()) (fun i _ => ∀ j, (hj : j < x.length) → j < i → neg x[j] = false) (fun r : Unit => ∃ y ∈ x, neg y = true) (fun i s hi hs => by
    unfold f47_b1
    rw [ix_nat hi]
    simp only [Option.bind_some]
    cases hP : neg x[i] with
    | true => right; exact ⟨(), by simp [hP], x[i], by simp, hP⟩
    | false =>
      left
      refine ⟨(), by simp [hP], fun j hj hji => ?_⟩
      by_cases e : j = i
      · subst e; exact hP
      · exact hs j hj (by omega)) (by intro j _ h; omega) with ⟨s', h1, h2⟩ | ⟨r, h1, y, hy, hP⟩
  · rw [h1]
    have : x.any neg = false := by
      rw [List.any_eq_false]
      intro y hy
      obtain ⟨j, hj, rfl⟩ := List.getElem_of_mem hy
      simp [h2 j hj hj]
    rw [if_neg (by rw [this]; simp)]
  · rw [h1, if_pos (List.any_eq_true.2 ⟨y, hy, hP⟩)]
theorem f47_two (a b : List Int) : f47 (a.length : Int) [a, b] = some (!a.any neg && (decide ((b.length : Int) = a.length) && !b.any neg)) := by
  unfold f47
  have e0 : ∀ x : List Int, rng (f47_b1 x) (Int.toNat (x.length : Int)) 0 () = some (if x.any neg then .inr () else .inl ()) := fun x => by rw [toNat_len]; exact f47_in x
  have g0 : f47_b0 (a.length : Int) [a, b] 0 () = some (if a.any neg then .inr () else .inl ()) := by
    unfold f47_b0
    have : ix [a, b] 0 = some a := rfl
    rw [this]
    simp only [Option.bind_some]
    rw [e0 a]
    cases a.any neg <;> simp
  have g1 : f47_b0 (a.length : Int) [a, b] 1 () = some (if decide ((b.length : Int) = a.length) && !b.any neg then .inl () else .inr ()) := by
    unfold f47_b0
    have : ix [a, b] 1 = some b := rfl
    rw [this]
    simp only [Option.bind_some]
    rw [e0 b]
    cases decide ((b.length : Int) = a.length) <;> cases b.any neg <;> simp
  have hl : Int.toNat (List.length [a, b] : Int) = 2 := rfl
  rw [hl]
  simp only [rng, g0]
  cases a.any neg
  · simp only [Option.bind_some, Int.zero_add, Bool.false_eq_true, if_false, g1]
    cases decide ((b.length : Int) = a.length) <;> cases b.any neg <;> simp
  · simp
/-- What both ask of two clocks. -/
def okC (a b : List Int) : Bool := decide (a.length = b.length) && decide (1 ≤ a.length) && decide (a.length ≤ 16) && !a.any neg && !b.any neg
theorem ask_eq (a b : List Int) : (decide (1 ≤ (a.length : Int)) && decide ((a.length : Int) ≤ 16) && (!a.any neg && (decide ((b.length : Int) = a.length) && !b.any neg))) = okC a b := by
  unfold okC
  have e1 : decide (1 ≤ (a.length : Int)) = decide (1 ≤ a.length) := decide_eq_decide.2 (by omega)
  have e2 : decide ((a.length : Int) ≤ 16) = decide (a.length ≤ 16) := decide_eq_decide.2 (by omega)
  have e3 : decide ((b.length : Int) = a.length) = decide (a.length = b.length) := decide_eq_decide.2 (by omega)
  rw [e1, e2, e3]
  cases decide (1 ≤ a.length) <;> cases decide (a.length ≤ 16) <;> cases a.any neg <;> cases decide (a.length = b.length) <;> cases b.any neg <;> rfl
theorem f9_b (a b : List Int) : f9_b0 a b = f10_b0 a b := rfl
theorem f45_ok (a b : List Int) : f45 a b = some (okC a b) := f45_eq a b
theorem f46_ok (a : List Int) : f46 a = some (decide (1 ≤ (a.length : Int)) && decide ((a.length : Int) ≤ 16)) := rfl
theorem f9_bad {a b : List Int} (h : okC a b = false) : f9 a b = some (0, 1) := by
  unfold f9; rw [f45_ok, h]; rfl
theorem f10_eq (a b : List Int) : f10 a b = f9 a b := by
  have h := ask_eq a b
  cases hk : okC a b with
  | false =>
    rw [f9_bad hk]
    rw [hk] at h
    unfold f10
    rw [f46_ok, f47_two]
    generalize (decide (1 ≤ (a.length : Int)) && decide ((a.length : Int) ≤ 16)) = p at *
    generalize (!a.any neg && (decide ((b.length : Int) = a.length) && !b.any neg)) = q at *
    cases p <;> cases q <;> first | rfl | exact absurd h (by decide)
  | true =>
    rw [hk] at h
    unfold f10 f9
    rw [f46_ok, f47_two, f45_ok, hk, ← f9_b]
    generalize (decide (1 ≤ (a.length : Int)) && decide ((a.length : Int) ≤ 16)) = p at *
    generalize (!a.any neg && (decide ((b.length : Int) = a.length) && !b.any neg)) = q at *
    cases p <;> cases q <;> first | rfl | exact absurd h (by decide)
end Go.Ab

set_option linter.unusedVariables false
set_option linter.unusedSimpArgs false
namespace Go.Ab
theorem f13_refl (a : List Int) : f13 a a = some true := by
  unfold f13
  rw [toNat_len]
  obtain ⟨s', h1, _⟩ := rng_inv (g := f13_b0 a a) (n := a.length) (s := ()) (fun _ _ => True) (fun i s hi _ => ⟨(), by
    unfold f13_b0
    rw [ix_nat hi]
    simp, trivial⟩) trivial
  simp [h1]
def mx (a b : List Int) : List Int := List.zipWith max a b
theorem mx_len {a b : List Int} (h : a.length = b.length) : (mx a b).length = a.length := by simp [mx, List.length_zipWith]; omega
theorem mx_take {a b : List Int} {i : Nat} (h : a.length = b.length) (hi : i < a.length) : (mx a b).take (i + 1) = (mx a b).take i ++ [max (a[i]) (b[i]'(by omega))] := by
  rw [List.take_add_one]
  congr 1
  have : (mx a b)[i]? = some (max (a[i]) (b[i]'(by omega))) := by
    unfold mx
    rw [List.getElem?_zipWith]
    simp [hi, show i < b.length by omega]
  rw [this]; rfl
theorem f12_loop {a b : List Int} (h : a.length = b.length) (h16 : a.length ≤ 16) : rng (f12_b0 a b) a.length 0 [] = some (.inl (mx a b)) := by
  obtain ⟨s', h1, h2⟩ := rng_inv (g := f12_b0 a b) (n := a.length) (s := ([] : List Int)) (fun i s => s = (mx a b).take i) (fun i s hi hs => by
    have hib : i < b.length := by omega
    have hsl : s.length = i := by rw [hs, List.length_take, mx_len h]; omega
    refine ⟨s ++ [max (a[i]) (b[i]'hib)], ?_, ?_⟩
    · unfold f12_b0
      rw [ix_nat hi, ix_nat hib]
      simp only [Option.bind_some]
      have : apOk 8 (s.length + [max (a[i]) (b[i]'hib)].length) = true := by
        simp only [apOk, List.length_singleton, hsl, Nat.ble_eq]
        have h47 : cap47 = 140737488355328 := rfl
        omega
      rw [this]; rfl
    · rw [hs, mx_take h hi]) (by simp)
  rw [h1, h2, List.take_of_length_le (by rw [mx_len h]; omega)]
theorem f48_ok {a b : List Int} (h : a.length = b.length) (h16 : a.length ≤ 16) : f48 a b = some (mx a b) := by
  have e : f68 a = some a := by
    unfold f68
    have : apOk 8 (([] : List Int).length + a.length) = true := by
      simp only [apOk, List.length_nil, Nat.ble_eq]
      have h47 : cap47 = 140737488355328 := rfl
      omega
    rw [this]; rfl
  unfold f48
  rw [e]
  simp only [Option.bind_some, toNat_len]
  obtain ⟨s', h1, h2⟩ := rng_inv (g := f48_b0 b) (n := a.length) (s := a) (fun i s => s = (mx a b).take i ++ a.drop i) (fun i s hi hs => by
    have hml := mx_len h
    have hib : i < b.length := by omega
    have hsl : s.length = a.length := by rw [hs, List.length_append, List.length_take, List.length_drop, hml]; omega
    have hsi : s[i]'(by omega) = a[i] := by
      have : s[i]? = some a[i] := by
        rw [hs, List.getElem?_append_right (by rw [List.length_take, hml]; omega), List.length_take, hml, Nat.min_eq_left (by omega), Nat.sub_self, List.getElem?_drop]
        simp [hi]
      rw [List.getElem?_eq_getElem (by omega)] at this
      exact Option.some.inj this
    refine ⟨s.set i (max (a[i]) (b[i]'hib)), ?_, ?_⟩
    · unfold f48_b0
      rw [ix_nat (show i < s.length by omega), ix_nat hib, hsi]
      simp
    · rw [hs, mx_take h hi, List.set_append_right _ _ (by rw [List.length_take, hml]; omega), List.length_take, hml, Nat.min_eq_left (by omega), Nat.sub_self, List.append_assoc]
      congr 1
      rw [List.drop_eq_getElem_cons hi]
      rfl) (by simp)
  rw [h1, h2]
  simp only [Option.bind_some]
  rw [List.take_of_length_le (by rw [mx_len h]; omega), List.drop_eq_nil_of_le (Nat.le_refl _), List.append_nil]
theorem okC_len {a b : List Int} (h : okC a b = true) : a.length = b.length ∧ a.length ≤ 16 := by
  simp only [okC, Bool.and_eq_true, decide_eq_true_eq] at h
  exact ⟨h.1.1.1.1, h.1.1.2⟩
theorem f11_eq (a b : List Int) : f11 a b = some (if okC a b then (mx a b, 0) else ([], 1)) := by
  unfold f11
  rw [f45_ok]
  cases hk : okC a b with
  | false => rfl
  | true =>
    obtain ⟨h1, h2⟩ := okC_len hk
    simp [f48_ok h1 h2]
theorem f12_eq (a b : List Int) : f12 a b = some (if okC a b then (mx a b, 0) else ([], 1)) := by
  have h := ask_eq a b
  unfold f12
  rw [f46_ok, f47_two]
  cases hk : okC a b with
  | false =>
    rw [hk] at h
    generalize (decide (1 ≤ (a.length : Int)) && decide ((a.length : Int) ≤ 16)) = p at *
    generalize (!a.any neg && (decide ((b.length : Int) = a.length) && !b.any neg)) = q at *
    cases p <;> cases q <;> first | rfl | exact absurd h (by decide)
  | true =>
    obtain ⟨h1, h2⟩ := okC_len hk
    rw [hk] at h
    rw [toNat_len, f12_loop h1 h2]
    generalize (decide (1 ≤ (a.length : Int)) && decide ((a.length : Int) ≤ 16)) = p at *
    generalize (!a.any neg && (decide ((b.length : Int) = a.length) && !b.any neg)) = q at *
    cases p <;> cases q <;> first | rfl | exact absurd h (by decide)
theorem f9_some (a b : List Int) : ∃ r, f9 a b = some r := by
  cases hk : okC a b with
  | false => exact ⟨_, f9_bad hk⟩
  | true =>
    obtain ⟨h1, h2⟩ := okC_len hk
    unfold f9
    rw [f45_ok, hk, toNat_len]
    obtain ⟨⟨s1, s2⟩, g1, _⟩ := rng_inv (g := f9_b0 a b) (n := a.length) (s := (false, false)) (fun _ _ => True) (fun i s hi _ => by
      obtain ⟨s5, s6⟩ := s
      have hib : i < b.length := by omega
      refine ⟨(s5 || decide (a[i] < b[i]), s6 || decide (b[i] < a[i])), ?_, trivial⟩
      unfold f9_b0
      rw [ix_nat hi, ix_nat hib]
      simp only [Option.isSome_some, Bool.or_true, cond_true, Option.getD_some]) trivial
    simp only [g1, Option.bind_some, Bool.not_true, cond_false]
    cases s1 <;> cases s2 <;> exact ⟨_, rfl⟩
/-- CauseNumbers returns true. -/
theorem f3_t (a b : List Int) : f3 a b = some true := by
  unfold f3
  rw [f8_t, f10_eq, f11_eq, f12_eq]
  obtain ⟨r, hr⟩ := f9_some a b
  rw [hr]
  cases (decide (50 < (a.length : Int)) || decide (50 < (b.length : Int)))
  · simp only [cond_false, Option.bind_some, f13_refl, Option.isSome_some, Bool.or_true, cond_true, Option.getD_some, decide_true, Bool.and_true]
  · rfl
end Go.Ab

set_option linter.unusedVariables false
namespace Go.Ab

/-! layer 29: what is before what, over lists of events alone -/
abbrev Act := Int × Int × Int × Int × Str
def nd (l : List Act) (i : Nat) : Int := (l.getD i default).1
def kd (l : List Act) (i : Nat) : Int := (l.getD i default).2.1
def ms (l : List Act) (i : Nat) : Int := (l.getD i default).2.2.1
def cl (l : List Act) (i : Nat) : Int := (l.getD i default).2.2.2.1

/-- An event is directly before another one. -/
def Dir (l : List Act) (a b : Nat) : Prop := (kd l a = 2 ∧ kd l b = 3 ∧ ms l a = ms l b) ∨ (a < b ∧ nd l a = nd l b ∧ ∀ x, a < x → x < b → nd l x ≠ nd l a)
/-- An event is before another one. -/
inductive Pst (l : List Act) : Nat → Nat → Prop
  | dir {a b : Nat} : a < b → Dir l a b → Pst l a b
  | step {a b c : Nat} : a < b → Dir l a b → Pst l c a → Pst l c b
theorem Pst.lt {l : List Act} {a b : Nat} (h : Pst l a b) : a < b := by
  induction h with
  | dir h _ => exact h
  | step h _ _ ih => omega
theorem Pst.trans {l : List Act} {a b c : Nat} (h : Pst l a b) (k : Pst l b c) : Pst l a c := by
  induction k with
  | dir h1 h2 => exact .step h1 h2 h
  | step h1 h2 _ ih => exact .step h1 h2 (ih h)
theorem pst_iff {l : List Act} {c b : Nat} : Pst l c b ↔ ∃ a, a < b ∧ Dir l a b ∧ (c = a ∨ Pst l c a) := by
  constructor
  · intro h
    cases h with
    | dir h1 h2 => exact ⟨c, h1, h2, .inl rfl⟩
    | step h1 h2 h3 => exact ⟨_, h1, h2, .inr h3⟩
  · rintro ⟨a, h1, h2, rfl | h3⟩
    · exact .dir h1 h2
    · exact .step h1 h2 h3
/-- Events of a node are one before the other. -/
theorem pst_node {l : List Act} : ∀ (d i j : Nat), j - i = d → i < j → nd l i = nd l j → Pst l i j := by
  intro d
  induction d using Nat.strongRecOn with
  | _ d ih =>
    intro i j hd hij hn
    by_cases hx : ∃ x, i < x ∧ x < j ∧ nd l x = nd l i
    · obtain ⟨x, h1, h2, h3⟩ := hx
      have a := ih (x - i) (by omega) i x rfl h1 h3.symm
      have b := ih (j - x) (by omega) x j rfl h2 (h3.trans hn)
      exact a.trans b
    · exact .dir hij (.inr ⟨hij, hn, fun x h1 h2 h3 => hx ⟨x, h1, h2, h3⟩⟩)
theorem pst_same {l : List Act} {i j : Nat} (h : i < j) (hn : nd l i = nd l j) : Pst l i j := pst_node _ i j rfl h hn

/-- How many of the first events are of a node. -/
def cnt (l : List Act) (p : Int) : Nat → Nat
  | 0 => 0
  | k + 1 => cnt l p k + if nd l k = p then 1 else 0
theorem cnt_mono {l : List Act} {p : Int} {a b : Nat} (h : a ≤ b) : cnt l p a ≤ cnt l p b := by
  induction b with
  | zero => rw [Nat.le_zero.1 h]; exact Nat.le_refl _
  | succ b ih =>
    rcases Nat.lt_or_ge a (b + 1) with h1 | h1
    · exact Nat.le_trans (ih (by omega)) (by simp only [cnt]; omega)
    · rw [show a = b + 1 by omega]; exact Nat.le_refl _
theorem cnt_le {l : List Act} {p : Int} {a : Nat} : cnt l p a ≤ a := by
  induction a with
  | zero => exact Nat.le_refl _
  | succ a ih => simp only [cnt]; split <;> omega
/-- The number of an event among those of its node, from 1 on. -/
def idx (l : List Act) (j : Nat) : Nat := cnt l (nd l j) (j + 1)
theorem idx_eq {l : List Act} {j : Nat} : idx l j = cnt l (nd l j) j + 1 := by simp [idx, cnt]
theorem idx_pos {l : List Act} {j : Nat} : 1 ≤ idx l j := by rw [idx_eq]; omega
theorem idx_lt {l : List Act} {i j : Nat} (h : i < j) (hn : nd l i = nd l j) : idx l i < idx l j := by
  rw [idx_eq (j := j)]
  have : idx l i ≤ cnt l (nd l j) j := by rw [← hn]; exact cnt_mono (by omega)
  omega
theorem idx_inj {l : List Act} {i j : Nat} (hn : nd l i = nd l j) (h : idx l i = idx l j) : i = j := by
  rcases Nat.lt_trichotomy i j with h1 | h1 | h1
  · have := idx_lt h1 hn; omega
  · exact h1
  · have := idx_lt h1 hn.symm; omega
theorem idx_lt_iff {l : List Act} {i j : Nat} (hn : nd l i = nd l j) : idx l i < idx l j ↔ i < j := by
  constructor
  · intro h
    rcases Nat.lt_trichotomy i j with h1 | h1 | h1
    · exact h1
    · subst h1; omega
    · have := idx_lt h1 hn.symm; omega
  · exact fun h => idx_lt h hn
theorem idx_tot {l : List Act} {j N : Nat} (h : j < N) : idx l j ≤ cnt l (nd l j) N := cnt_mono h
/-- Every number is an event's. -/
theorem idx_ex {l : List Act} {p : Int} {m : Nat} : ∀ {N : Nat}, 1 ≤ m → m ≤ cnt l p N → ∃ j, j < N ∧ nd l j = p ∧ idx l j = m := by
  intro N
  induction N with
  | zero => intro h1 h2; simp only [cnt] at h2; omega
  | succ N ih =>
    intro h1 h2
    by_cases h : m ≤ cnt l p N
    · obtain ⟨j, a, b, c⟩ := ih h1 h
      exact ⟨j, by omega, b, c⟩
    · simp only [cnt] at h2
      split at h2
      · rename_i hn
        refine ⟨N, by omega, hn, ?_⟩
        rw [idx_eq, hn]; omega
      · omega

/-- A list is an event's clock. -/
structure IsClock (n : Nat) (l : List Act) (b : Nat) (c : List Int) : Prop where
  len : c.length = n
  rg : ∀ p, p < n → 0 ≤ c.getD p 0 ∧ c.getD p 0 ≤ cnt l p l.length
  iff : ∀ j, j < l.length → ((j = b ∨ Pst l j b) ↔ (idx l j : Int) ≤ c.getD (nd l j).toNat 0)
theorem IsClock.uniq {n : Nat} {l : List Act} {b : Nat} {c d : List Int} (h : IsClock n l b c) (k : IsClock n l b d) : c = d := by
  have key : ∀ {c d : List Int}, IsClock n l b c → IsClock n l b d → ∀ p, p < n → c.getD p 0 ≤ d.getD p 0 := by
    intro c d h k p hp
    have h1 := h.rg p hp
    have h2 := k.rg p hp
    rcases Int.lt_or_le 0 (c.getD p 0) with h3 | h3
    · obtain ⟨j, h4, h5, h6⟩ := idx_ex (l := l) (p := (p : Int)) (m := (c.getD p 0).toNat) (N := l.length) (by omega) (by omega)
      have h7 := (h.iff j h4).2 (by rw [h5, h6, Int.toNat_natCast]; omega)
      have h8 := (k.iff j h4).1 h7
      rw [h5, h6, Int.toNat_natCast] at h8
      omega
    · omega
  refine ext_getD 0 (h.len.trans k.len.symm) fun p hp => ?_
  rw [h.len] at hp
  exact Int.le_antisymm (key h k p hp) (key k h p hp)
/-- An event's own number in its clock. -/
theorem IsClock.self {n : Nat} {l : List Act} {b : Nat} {c : List Int} (h : IsClock n l b c) (hb : b < l.length) (hn : 0 ≤ nd l b ∧ nd l b < n) : c.getD (nd l b).toNat 0 = idx l b := by
  have h1 := (h.iff b hb).1 (.inl rfl)
  have h2 := h.rg (nd l b).toNat (by omega)
  rw [show (((nd l b).toNat : Nat) : Int) = nd l b by omega] at h2
  rcases Int.lt_or_le (idx l b : Int) (c.getD (nd l b).toNat 0) with h3 | h3
  · obtain ⟨j, h4, h5, h6⟩ := idx_ex (l := l) (p := nd l b) (m := (c.getD (nd l b).toNat 0).toNat) (N := l.length) (by omega) (by omega)
    have h7 := (h.iff j h4).2 (by rw [h5, h6]; omega)
    rcases h7 with h7 | h7
    · subst h7; omega
    · have := idx_lt h7.lt h5; omega
  · omega
/-- What is before what, by the clocks. -/
theorem IsClock.before {n : Nat} {l : List Act} {a b : Nat} {c d : List Int} (h : IsClock n l a c) (k : IsClock n l b d) (ha : a < l.length) (hn : 0 ≤ nd l a ∧ nd l a < n) : (a = b ∨ Pst l a b) ↔ c.getD (nd l a).toNat 0 ≤ d.getD (nd l a).toNat 0 := by
  rw [h.self ha hn]; exact k.iff a ha
/-- Clocks go up along what is before what. -/
theorem IsClock.le {n : Nat} {l : List Act} {a b : Nat} {c d : List Int} (h : IsClock n l a c) (k : IsClock n l b d) (hab : Pst l a b) {p : Nat} (hp : p < n) : c.getD p 0 ≤ d.getD p 0 := by
  have h1 := h.rg p hp
  have h2 := k.rg p hp
  rcases Int.lt_or_le 0 (c.getD p 0) with h3 | h3
  · obtain ⟨j, h4, h5, h6⟩ := idx_ex (l := l) (p := (p : Int)) (m := (c.getD p 0).toNat) (N := l.length) (by omega) (by omega)
    have h7 := (h.iff j h4).2 (by rw [h5, h6, Int.toNat_natCast]; omega)
    have h8 : j = b ∨ Pst l j b := by
      rcases h7 with rfl | h7
      · exact .inr hab
      · exact .inr (h7.trans hab)
    have h9 := (k.iff j h4).1 h8
    rw [h5, h6, Int.toNat_natCast] at h9
    omega
  · omega

/-- The clock of an event out of those directly before it. -/
theorem isClock_step {n : Nat} {l : List Act} {b : Nat} {m c : List Int} (hb : b < l.length) (hn : ∀ i, i < l.length → 0 ≤ nd l i ∧ nd l i < n) (hlen : m.length = n)
    (hm0 : ∀ p, p < n → 0 ≤ m.getD p 0)
    (hge : ∀ k ck, k < b → Dir l k b → IsClock n l k ck → ∀ p, p < n → ck.getD p 0 ≤ m.getD p 0)
    (hle : ∀ p, p < n → 0 < m.getD p 0 → ∃ k ck, k < b ∧ Dir l k b ∧ IsClock n l k ck ∧ m.getD p 0 = ck.getD p 0)
    (hck : ∀ k, k < b → Dir l k b → ∃ ck, IsClock n l k ck)
    (hc : c = m.set (nd l b).toNat (m.getD (nd l b).toNat 0 + 1)) : IsClock n l b c := by
  have hnb := hn b hb
  have hset : ∀ p, c.getD p 0 = if (nd l b).toNat = p then m.getD (nd l b).toNat 0 + 1 else m.getD p 0 := fun p => by
    rw [hc]; exact getD_set (by omega)
  -- what is before the event, by 'm'
  have hpm : ∀ j, j < l.length → (Pst l j b ↔ (idx l j : Int) ≤ m.getD (nd l j).toNat 0) := by
    intro j hj
    have hnj := hn j hj
    constructor
    · intro h
      obtain ⟨a, h1, h2, h3⟩ := pst_iff.1 h
      obtain ⟨ck, h4⟩ := hck a h1 h2
      exact Int.le_trans ((h4.iff j hj).1 h3) (hge a ck h1 h2 h4 _ (by omega))
    · intro h
      have := idx_pos (l := l) (j := j)
      obtain ⟨k, ck, h1, h2, h3, h4⟩ := hle (nd l j).toNat (by omega) (by omega)
      rw [h4] at h
      exact pst_iff.2 ⟨k, h1, h2, (h3.iff j hj).2 h⟩
  -- the event's own number
  have hself : m.getD (nd l b).toNat 0 = cnt l (nd l b) b := by
    apply Int.le_antisymm
    · rcases Int.lt_or_le 0 (m.getD (nd l b).toNat 0) with h3 | h3
      · obtain ⟨k, ck, h1, h2, h4, h5⟩ := hle (nd l b).toNat (by omega) h3
        have h6 := h4.rg (nd l b).toNat (by omega)
        rw [show (((nd l b).toNat : Nat) : Int) = nd l b by omega] at h6
        obtain ⟨j, h7, h8, h9⟩ := idx_ex (l := l) (p := nd l b) (m := (m.getD (nd l b).toNat 0).toNat) (N := l.length) (by omega) (by omega)
        have h10 := (hpm j h7).2 (by rw [h8, h9]; omega)
        have h11 := idx_lt h10.lt h8
        rw [idx_eq (j := b)] at h11
        omega
      · omega
    · by_cases hz : cnt l (nd l b) b = 0
      · rw [hz]; exact hm0 _ (by omega)
      · obtain ⟨j, h7, h8, h9⟩ := idx_ex (l := l) (p := nd l b) (m := cnt l (nd l b) b) (N := b) (by omega) (Nat.le_refl _)
        have := (hpm j (by omega)).1 (pst_same h7 h8)
        rw [h8, h9] at this; exact this
  refine ⟨by rw [hc]; simp [hlen], fun p hp => ?_, fun j hj => ?_⟩
  · rw [hset]
    split
    · rename_i e
      rw [hself]
      have := idx_tot (l := l) hb
      rw [idx_eq] at this
      subst e
      rw [show (((nd l b).toNat : Nat) : Int) = nd l b by omega]
      omega
    · refine ⟨hm0 p hp, ?_⟩
      rcases Int.lt_or_le 0 (m.getD p 0) with h3 | h3
      · obtain ⟨k, ck, h1, h2, h4, h5⟩ := hle p hp h3
        rw [h5]; exact (h4.rg p hp).2
      · omega
  · have hnj := hn j hj
    rw [hset]
    split
    · rename_i e
      have e' : nd l j = nd l b := by omega
      rw [hself]
      have h1 := idx_eq (l := l) (j := b)
      constructor
      · rintro (rfl | h)
        · omega
        · have := idx_lt h.lt e'; omega
      · intro h
        rcases Nat.lt_trichotomy j b with h2 | h2 | h2
        · exact .inr (pst_same h2 e')
        · exact .inl h2
        · have := idx_lt h2 e'.symm; omega
    · rename_i e
      rw [← hpm j hj]
      constructor
      · rintro (rfl | h)
        · exact absurd rfl e
        · exact h
      · exact fun h => .inr h
end Go.Ab

set_option linter.unusedVariables false
namespace Go.Ab

/-! layer 29: which histories are right -/
def BadR (n : Int) (x : Act) : Prop := (x.1 < 0 ∨ n ≤ x.1) ∨ ((x.2.1 = 2 ∨ x.2.1 = 3) ∧ x.2.2.1 < 1) ∨ ((x.2.1 = 4 ∨ x.2.1 = 5) ∧ x.2.2.2.1 < 1)
def Flds (x : Act) : Prop := (((1 ≤ x.2.1 ∧ x.2.1 ≤ 5) ∧ ((x.2.1 = 2 ∨ x.2.1 = 3) ∨ x.2.2.1 = 0)) ∧ ((x.2.1 = 4 ∨ x.2.1 = 5) ∨ x.2.2.2.1 = 0)) ∧ (x.2.2.2.2.length : Int) ≤ 32
def HasS (l : List Act) (i : Nat) (m : Int) : Prop := ∃ j, j < i ∧ kd l j = 2 ∧ ms l j = m
def HasC (l : List Act) (k : Int) (i : Nat) (m : Int) : Prop := ∃ j, j < i ∧ kd l j = k ∧ cl l j = m
def Dup (l : List Act) (i : Nat) : Prop := ((kd l i = 2 ∧ HasS l i (ms l i)) ∨ (kd l i = 4 ∧ HasC l 4 i (cl l i))) ∨ (kd l i = 5 ∧ HasC l 5 i (cl l i))
def Nope (l : List Act) (i : Nat) : Prop := (kd l i = 3 ∧ ¬ HasS l i (ms l i)) ∨ (kd l i = 5 ∧ ¬ HasC l 4 i (cl l i))
def Away (l : List Act) (i : Nat) : Prop := kd l i = 5 ∧ ∃ j, j < i ∧ kd l j = 4 ∧ cl l j = cl l i ∧ nd l j ≠ nd l i
open Classical in
/-- What is wrong with an event. -/
noncomputable def code (n : Int) (l : List Act) (i : Nat) : Int :=
  if BadR n (l.getD i default) then 7 else if ¬ Flds (l.getD i default) then 10 else if Dup l i then 6 else if Nope l i then 8 else if Away l i then 9 else 0

/-- What the checker knows ahead of an event. -/
structure WInv (n : Int) (l : List Act) (i : Nat) (s : List (Int × Bool)) (b c : List (Int × Int)) : Prop where
  ok : ∀ j, j < i → code n l j = 0
  sent : ∀ m, (mget s m).getD false = true ↔ HasS l i m
  begun : ∀ m, (mget b m).isSome = true ↔ HasC l 4 i m
  node : ∀ j, j < i → kd l j = 4 → mget b (cl l j) = some (nd l j)
  over : ∀ m, (mget c m).isSome = true ↔ HasC l 5 i m

theorem f80_t (x : Act) : Tot (f80 x) fun r => (r = true ↔ Flds x) := by
  refine tot_some ?_
  simp only [Bool.and_eq_true, Bool.or_eq_true, decide_eq_true_eq, Flds]
theorem hasS_succ {l : List Act} {i : Nat} {m : Int} : HasS l (i + 1) m ↔ HasS l i m ∨ (kd l i = 2 ∧ ms l i = m) := by
  constructor
  · rintro ⟨j, h1, h2, h3⟩
    rcases Nat.lt_or_ge j i with h | h
    · exact .inl ⟨j, h, h2, h3⟩
    · rw [show j = i by omega] at h2 h3; exact .inr ⟨h2, h3⟩
  · rintro (⟨j, h1, h2, h3⟩ | ⟨h2, h3⟩)
    · exact ⟨j, by omega, h2, h3⟩
    · exact ⟨i, by omega, h2, h3⟩
theorem hasC_succ {l : List Act} {k : Int} {i : Nat} {m : Int} : HasC l k (i + 1) m ↔ HasC l k i m ∨ (kd l i = k ∧ cl l i = m) := by
  constructor
  · rintro ⟨j, h1, h2, h3⟩
    rcases Nat.lt_or_ge j i with h | h
    · exact .inl ⟨j, h, h2, h3⟩
    · rw [show j = i by omega] at h2 h3; exact .inr ⟨h2, h3⟩
  · rintro (⟨j, h1, h2, h3⟩ | ⟨h2, h3⟩)
    · exact ⟨j, by omega, h2, h3⟩
    · exact ⟨i, by omega, h2, h3⟩

theorem f49_t {n : Int} {l : List Act} {i : Nat} {s : List (Int × Bool)} {b c : List (Int × Int)} (H : WInv n l i s b c) :
    Tot (f49 n s b c (l.getD i default)) fun r => r.1 = code n l i ∧ (r.1 = 0 → WInv n l (i + 1) r.2.1 r.2.2.1 r.2.2.2) := by
  unfold f49
  have hb7 : ∀ {p : Prop}, ((7 : Int) = 0 → p) := fun h => absurd h (by decide)
  refine tot_if (fun h1 => ?_) (fun h1 => ?_)
  · simp only [Bool.or_eq_true, decide_eq_true_eq] at h1
    refine tot_some ⟨?_, hb7⟩
    rw [code, if_pos (.inl h1)]
  simp only [Bool.or_eq_false_iff, decide_eq_false_iff_not] at h1
  refine tot_if (fun h2 => ?_) (fun h2 => ?_)
  · simp only [Bool.or_eq_true, Bool.and_eq_true, decide_eq_true_eq] at h2
    refine tot_some ⟨?_, hb7⟩
    rw [code, if_pos (.inr h2)]
  have hbad : ¬ BadR n (l.getD i default) := by
    have h2' := Bool.eq_false_iff.1 h2
    simp only [ne_eq, Bool.or_eq_true, Bool.and_eq_true, decide_eq_true_eq] at h2'
    rintro (h | h)
    · rcases h with h | h
      · exact h1.1 h
      · exact h1.2 h
    · exact h2' h
  refine (f80_t _).bind fun x6 h6 => ?_
  refine tot_if (fun h3 => ?_) (fun h3 => ?_)
  · refine tot_some ⟨?_, fun h => absurd h (show ¬ (10 : Int) = 0 by decide)⟩
    have : ¬ Flds (l.getD i default) := fun h => by rw [h6.2 h] at h3; simp at h3
    rw [code, if_neg hbad, if_pos this]
  have hf : Flds (l.getD i default) := h6.1 (by simpa using h3)
  have hkd : ∀ k : Int, (decide ((l.getD i default).2.1 = k)) = decide (kd l i = k) := fun _ => rfl
  refine tot_if (fun h4 => ?_) (fun h4 => ?_)
  · refine tot_some ⟨?_, fun h => absurd h (show ¬ (6 : Int) = 0 by decide)⟩
    simp only [Bool.or_eq_true, Bool.and_eq_true, decide_eq_true_eq, H.sent, H.begun, H.over] at h4
    rw [code, if_neg hbad, if_neg (fun h => h hf), if_pos (show Dup l i from h4)]
  have hdup : ¬ Dup l i := by
    have h4' := Bool.eq_false_iff.1 h4
    simp only [ne_eq, Bool.or_eq_true, Bool.and_eq_true, decide_eq_true_eq, H.sent, H.begun, H.over] at h4'
    exact h4'
  have hn1 : ((mget s (l.getD i default).2.2.1).getD false) = false ↔ ¬ HasS l i (ms l i) := by rw [← H.sent]; simp [ms]
  have hn2 : ((mget b (l.getD i default).2.2.2.1).isSome) = false ↔ ¬ HasC l 4 i (cl l i) := by rw [← H.begun]; simp [cl]
  refine tot_if (fun h5 => ?_) (fun h5 => ?_)
  · refine tot_some ⟨?_, fun h => absurd h (show ¬ (8 : Int) = 0 by decide)⟩
    simp only [Bool.or_eq_true, Bool.and_eq_true, decide_eq_true_eq, Bool.not_eq_true', hn1, hn2] at h5
    rw [code, if_neg hbad, if_neg (fun h => h hf), if_neg hdup, if_pos (show Nope l i from h5)]
  have hnope : ¬ Nope l i := by
    have h5' := Bool.eq_false_iff.1 h5
    simp only [ne_eq, Bool.or_eq_true, Bool.and_eq_true, decide_eq_true_eq, Bool.not_eq_true', hn1, hn2] at h5'
    exact h5'
  have haway : Away l i ↔ kd l i = 5 ∧ (mget b (cl l i)).getD 0 ≠ nd l i := by
    constructor
    · rintro ⟨h, j, a1, a2, a3, a4⟩
      refine ⟨h, ?_⟩
      rw [← a3, H.node j a1 a2]; exact a4
    · rintro ⟨h, a⟩
      refine ⟨h, ?_⟩
      have : HasC l 4 i (cl l i) := Classical.byContradiction fun hc => hnope (.inr ⟨h, hc⟩)
      obtain ⟨j, a1, a2, a3⟩ := this
      refine ⟨j, a1, a2, a3, ?_⟩
      rw [← a3, H.node j a1 a2] at a; exact a
  refine tot_if (fun h7 => ?_) (fun h7 => ?_)
  · refine tot_some ⟨?_, fun h => absurd h (show ¬ (9 : Int) = 0 by decide)⟩
    simp only [Bool.and_eq_true, decide_eq_true_eq, Bool.not_eq_true', decide_eq_false_iff_not] at h7
    rw [code, if_neg hbad, if_neg (fun h => h hf), if_neg hdup, if_neg hnope, if_pos (haway.2 h7)]
  have hcode : code n l i = 0 := by
    have h7' := Bool.eq_false_iff.1 h7
    simp only [ne_eq, Bool.and_eq_true, decide_eq_true_eq, Bool.not_eq_true', decide_eq_false_iff_not] at h7'
    rw [code, if_neg hbad, if_neg (fun h => h hf), if_neg hdup, if_neg hnope, if_neg (fun h => h7' (haway.1 h))]
  have hok : ∀ j, j < i + 1 → code n l j = 0 := fun j hj => by
    rcases Nat.lt_or_ge j i with h | h
    · exact H.ok j h
    · rw [show j = i by omega]; exact hcode
  -- the maps behind the event
  have fin : ∀ {s' : List (Int × Bool)} {b' c' : List (Int × Int)}, WInv n l (i + 1) s' b' c' → Tot (some ((0 : Int), s', b', c')) fun r => r.1 = code n l i ∧ (r.1 = 0 → WInv n l (i + 1) r.2.1 r.2.2.1 r.2.2.2) := fun h => tot_some ⟨hcode.symm, fun _ => h⟩
  cases e2 : decide ((l.getD i default).2.1 = 2) with
  | true =>
    have e2' : kd l i = 2 := of_decide_eq_true e2
    refine fin ⟨hok, fun m => ?_, fun m => ?_, fun j hj hk => ?_, fun m => ?_⟩
    · rw [mget_mset, hasS_succ]
      by_cases e : m = (l.getD i default).2.2.1
      · rw [if_pos e]; simp [e2', e, ms]
      · rw [if_neg e, H.sent]
        constructor
        · exact .inl
        · rintro (h | h)
          · exact h
          · exact absurd h.2.symm e
    · rw [H.begun, hasC_succ]
      exact ⟨.inl, fun h => h.elim id fun h => absurd (e2'.symm.trans h.1) (by decide)⟩
    · rcases Nat.lt_or_ge j i with h | h
      · exact H.node j h hk
      · rw [show j = i by omega, e2'] at hk; exact absurd hk (by decide)
    · rw [H.over, hasC_succ]
      exact ⟨.inl, fun h => h.elim id fun h => absurd (e2'.symm.trans h.1) (by decide)⟩
  | false =>
    have e2' : kd l i ≠ 2 := of_decide_eq_false e2
    have hs : ∀ m, (mget s m).getD false = true ↔ HasS l (i + 1) m := fun m => by
      rw [H.sent, hasS_succ]
      exact ⟨.inl, fun h => h.elim id fun h => absurd h.1 e2'⟩
    cases e4 : decide ((l.getD i default).2.1 = 4) with
    | true =>
      have e4' : kd l i = 4 := of_decide_eq_true e4
      have hnb : ¬ HasC l 4 i (cl l i) := fun h => hdup (.inl (.inr ⟨e4', h⟩))
      refine fin ⟨hok, hs, fun m => ?_, fun j hj hk => ?_, fun m => ?_⟩
      · rw [mget_mset, hasC_succ]
        by_cases e : m = (l.getD i default).2.2.2.1
        · rw [if_pos e]; simp [e4', e, cl]
        · rw [if_neg e, H.begun]
          constructor
          · exact .inl
          · rintro (h | h)
            · exact h
            · exact absurd h.2.symm e
      · rw [mget_mset]
        rw [show (l.getD i default).2.2.2.1 = cl l i from rfl]
        rcases Nat.lt_or_ge j i with h | h
        · rw [if_neg (fun e => hnb ⟨j, h, hk, e⟩)]; exact H.node j h hk
        · rw [show j = i by omega]; rw [if_pos rfl]; rfl
      · rw [H.over, hasC_succ]
        exact ⟨.inl, fun h => h.elim id fun h => absurd (e4'.symm.trans h.1) (by decide)⟩
    | false =>
      have e4' : kd l i ≠ 4 := of_decide_eq_false e4
      have hb : ∀ m, (mget b m).isSome = true ↔ HasC l 4 (i + 1) m := fun m => by
        rw [H.begun, hasC_succ]
        exact ⟨.inl, fun h => h.elim id fun h => absurd h.1 e4'⟩
      have hn : ∀ j, j < i + 1 → kd l j = 4 → mget b (cl l j) = some (nd l j) := fun j hj hk => by
        rcases Nat.lt_or_ge j i with h | h
        · exact H.node j h hk
        · rw [show j = i by omega] at hk; exact absurd hk e4'
      cases e5 : decide ((l.getD i default).2.1 = 5) with
      | true =>
        have e5' : kd l i = 5 := of_decide_eq_true e5
        refine fin ⟨hok, hs, hb, hn, fun m => ?_⟩
        rw [mget_mset, hasC_succ]
        by_cases e : m = (l.getD i default).2.2.2.1
        · rw [if_pos e]; simp [e5', e, cl]
        · rw [if_neg e, H.over]
          constructor
          · exact .inl
          · rintro (h | h)
            · exact h
            · exact absurd h.2.symm e
      | false =>
        have e5' : kd l i ≠ 5 := of_decide_eq_false e5
        refine fin ⟨hok, hs, hb, hn, fun m => ?_⟩
        rw [H.over, hasC_succ]
        exact ⟨.inl, fun h => h.elim id fun h => absurd h.1 e5'⟩

/-- What Wrong tells. -/
def WrongIs (n : Int) (l : List Act) (r : Int × Int) : Prop :=
  ((n < 1 ∨ 16 < n) ∧ r = (0, 7)) ∨ (¬ (n < 1 ∨ 16 < n) ∧ ((r = (-1, 0) ∧ ∀ i, i < l.length → i ≠ 1000 ∧ code n l i = 0) ∨
    ∃ i : Nat, i < l.length ∧ (∀ j, j < i → j ≠ 1000 ∧ code n l j = 0) ∧ ((i = 1000 ∧ r = (1000, 4)) ∨ (i ≠ 1000 ∧ code n l i ≠ 0 ∧ r = (↑i, code n l i)))))
theorem WrongIs.uniq {n : Int} {l : List Act} {r q : Int × Int} (h : WrongIs n l r) (k : WrongIs n l q) : r = q := by
  rcases h with ⟨h1, rfl⟩ | ⟨h1, h⟩
  · rcases k with ⟨k1, rfl⟩ | ⟨k1, k⟩
    · rfl
    · exact absurd h1 k1
  · rcases k with ⟨k1, rfl⟩ | ⟨k1, k⟩
    · exact absurd k1 h1
    · have bad : ∀ {i : Nat}, (∀ j, j < l.length → j ≠ 1000 ∧ code n l j = 0) → i < l.length → ((i = 1000 ∧ True) ∨ (i ≠ 1000 ∧ code n l i ≠ 0 ∧ True)) → False := fun h hi hx => by
        rcases hx with hx | hx
        · exact (h _ hi).1 hx.1
        · exact hx.2.1 (h _ hi).2
      rcases h with ⟨rfl, h⟩ | ⟨i, h2, h3, h4⟩
      · rcases k with ⟨rfl, k⟩ | ⟨i, k2, k3, k4⟩
        · rfl
        · exact (bad h k2 (k4.imp (fun x => ⟨x.1, trivial⟩) fun x => ⟨x.1, x.2.1, trivial⟩)).elim
      · rcases k with ⟨rfl, k⟩ | ⟨j, k2, k3, k4⟩
        · exact (bad k h2 (h4.imp (fun x => ⟨x.1, trivial⟩) fun x => ⟨x.1, x.2.1, trivial⟩)).elim
        · have e : i = j := by
            rcases Nat.lt_trichotomy i j with c | c | c
            · have := k3 i c
              rcases h4 with h4 | h4
              · exact absurd h4.1 this.1
              · exact absurd this.2 h4.2.1
            · exact c
            · have := h3 j c
              rcases k4 with k4 | k4
              · exact absurd k4.1 this.1
              · exact absurd this.2 k4.2.1
          subst e
          rcases h4 with ⟨_, rfl⟩ | ⟨a, _, rfl⟩
          · rcases k4 with ⟨_, rfl⟩ | ⟨b, _, rfl⟩
            · rfl
            · exact absurd (by assumption) b
          · rcases k4 with ⟨_, rfl⟩ | ⟨b, _, rfl⟩
            · exact absurd (by assumption) a
            · rfl
/-- A history that is right. -/
def Ok (n : Int) (l : List Act) : Prop := ¬ (n < 1 ∨ 16 < n) ∧ ∀ i, i < l.length → i ≠ 1000 ∧ code n l i = 0
theorem code_ne {n : Int} {l : List Act} {i : Nat} : code n l i = 0 ∨ code n l i ≠ 0 := Classical.em _
theorem WrongIs.ok {n : Int} {l : List Act} {r : Int × Int} (h : WrongIs n l r) : r.2 = 0 ↔ Ok n l := by
  rcases h with ⟨h1, rfl⟩ | ⟨h1, ⟨rfl, h⟩ | ⟨i, h2, h3, h4⟩⟩
  · exact ⟨fun h => absurd h (by decide), fun h => absurd h1 h.1⟩
  · exact ⟨fun _ => ⟨h1, h⟩, fun _ => rfl⟩
  · constructor
    · rcases h4 with ⟨_, rfl⟩ | ⟨_, h5, rfl⟩
      · exact fun h => absurd h (by decide)
      · exact fun h => absurd h h5
    · intro h
      rcases h4 with ⟨h5, rfl⟩ | ⟨_, h5, rfl⟩
      · exact absurd h5 (h.2 _ h2).1
      · exact (h.2 _ h2).2

theorem f15_t (n : Int) (l : List Act) : Tot (f15 n l) (WrongIs n l) := by
  unfold f15
  refine tot_if (fun h => ?_) (fun h => ?_)
  · simp only [Bool.or_eq_true, decide_eq_true_eq] at h
    exact tot_some (.inl ⟨h, rfl⟩)
  simp only [Bool.or_eq_false_iff, decide_eq_false_iff_not] at h
  have h' : ¬ (n < 1 ∨ 16 < n) := by omega
  rw [toNat_len]
  refine (tot_rngx (fun i s => (∀ j, j < i → j ≠ 1000) ∧ WInv n l i s.1 s.2.1 s.2.2) (WrongIs n l) ⟨fun j hj => absurd hj (by omega), ⟨fun j hj => absurd hj (by omega), fun m => ?_, fun m => ?_, fun j hj => absurd hj (by omega), fun m => ?_⟩⟩ fun i s hi H => ?_).bind fun o ho => ?_
  · constructor
    · intro h; simp [mget] at h
    · rintro ⟨j, h, _⟩; omega
  · constructor
    · intro h; simp [mget] at h
    · rintro ⟨j, h, _⟩; omega
  · constructor
    · intro h; simp [mget] at h
    · rintro ⟨j, h, _⟩; omega
  · obtain ⟨H0, H⟩ := H
    obtain ⟨s4, s5, s6⟩ := s
    unfold f15_b0
    refine tot_ix hi ?_
    refine tot_if (fun h1 => ?_) (fun h1 => ?_)
    · have e : i = 1000 := by have := of_decide_eq_true h1; omega
      refine tot_some (.inr ⟨_, rfl, .inr ⟨h', .inr ⟨i, hi, fun j hj => ⟨H0 j hj, H.ok j hj⟩, .inl ⟨e, by rw [e]; rfl⟩⟩⟩⟩)
    · have e : i ≠ 1000 := by have := of_decide_eq_false h1; omega
      refine (f49_t H).bind fun r hr => ?_
      refine tot_if (fun h2 => ?_) (fun h2 => ?_)
      · simp only [Bool.not_eq_true', decide_eq_false_iff_not] at h2
        refine tot_some (.inr ⟨_, rfl, .inr ⟨h', .inr ⟨i, hi, fun j hj => ⟨H0 j hj, H.ok j hj⟩, .inr ⟨e, by rw [← hr.1]; exact h2, by rw [hr.1]⟩⟩⟩⟩)
      · simp only [Bool.not_eq_false', decide_eq_true_eq] at h2
        refine tot_some (.inl ⟨_, rfl, fun j hj => ?_, hr.2 h2⟩)
        rcases Nat.lt_or_ge j i with h | h
        · exact H0 j h
        · rw [show j = i by omega]; exact e
  · rcases ho with ⟨⟨s4, s5, s6⟩, rfl, H0, H⟩ | ⟨⟨s11, s12⟩, rfl, h⟩
    · exact tot_some (.inr ⟨h', .inl ⟨rfl, fun i hi => ⟨H0 i hi, H.ok i hi⟩⟩⟩)
    · exact tot_some h
theorem f17_t (n : Int) (l : List Act) : Tot (f17 n l) fun r => (r = true ↔ Ok n l) := by
  unfold f17
  refine (f15_t n l).bind fun r hr => tot_some ?_
  rw [decide_eq_true_eq]; exact hr.ok
end Go.Ab

set_option linter.unusedVariables false
namespace Go.Ab

/-! layer 29: the reference's Wrong -/
/-- Numbers are the machine's. -/
def RA (l : List Act) : Prop := ∀ i, i < l.length → R64 (ms l i) ∧ R64 (cl l i)
theorem code_zero {n : Int} {l : List Act} {i : Nat} (h : code n l i = 0) : ¬ BadR n (l.getD i default) ∧ Flds (l.getD i default) ∧ ¬ Dup l i ∧ ¬ Nope l i ∧ ¬ Away l i := by
  unfold code at h
  split at h
  · exact absurd h (by decide)
  · rename_i h1
    split at h
    · exact absurd h (by decide)
    · rename_i h2
      split at h
      · exact absurd h (by decide)
      · rename_i h3
        split at h
        · exact absurd h (by decide)
        · rename_i h4
          split at h
          · exact absurd h (by decide)
          · rename_i h5
            exact ⟨h1, Classical.byContradiction h2, h3, h4, h5⟩
theorem tk0 {α : Type} (l : List α) (i : Nat) : (l.take (Int.toNat (i : Int))).drop (Int.toNat 0) = l.take i := by simp
def num (l : List Act) (j : Nat) : Int := w64 (ms l j + cl l j)
theorem f51_t (l : List Act) (k q : Int) : Tot (f51 l k q) fun r => (r = -1 ∧ ∀ j, j < l.length → ¬ (kd l j = k ∧ num l j = q)) ∨ ∃ j : Nat, j < l.length ∧ r = (j : Int) ∧ kd l j = k ∧ num l j = q ∧ ∀ x, x < j → ¬ (kd l x = k ∧ num l x = q) := by
  unfold f51
  rw [toNat_len]
  refine (tot_rngx (fun i s => ∀ j, j < i → ¬ (kd l j = k ∧ num l j = q)) (fun r => ∃ j : Nat, j < l.length ∧ r = (j : Int) ∧ kd l j = k ∧ num l j = q ∧ ∀ x, x < j → ¬ (kd l x = k ∧ num l x = q)) (fun j hj => absurd hj (by omega)) fun i s hi H => ?_).bind fun o ho => ?_
  · unfold f51_b0
    refine tot_ix hi ?_
    refine tot_if (fun h => ?_) (fun h => ?_)
    · simp only [Bool.and_eq_true, decide_eq_true_eq] at h
      exact tot_some (.inr ⟨_, rfl, i, hi, rfl, h.1, h.2, H⟩)
    · have h' := Bool.eq_false_iff.1 h
      simp only [ne_eq, Bool.and_eq_true, decide_eq_true_eq] at h'
      refine tot_some (.inl ⟨_, rfl, fun j hj => ?_⟩)
      rcases Nat.lt_or_ge j i with h | h
      · exact H j h
      · rw [show j = i by omega]; exact h'
  · rcases ho with ⟨⟨⟩, rfl, H⟩ | ⟨r, rfl, h⟩
    · exact tot_some (.inl ⟨rfl, H⟩)
    · exact tot_some (.inr h)
theorem nd_take {l : List Act} {i j : Nat} (h : j < i) : nd (l.take i) j = nd l j := by unfold nd; rw [getD_take h]
theorem kd_take {l : List Act} {i j : Nat} (h : j < i) : kd (l.take i) j = kd l j := by unfold kd; rw [getD_take h]
theorem num_take {l : List Act} {i j : Nat} (h : j < i) : num (l.take i) j = num l j := by unfold num ms cl; rw [getD_take h]
theorem num_fl {l : List Act} {j : Nat} (hR : RA l) (hj : j < l.length) (h : Flds (l.getD j default)) : num l j = if kd l j = 2 ∨ kd l j = 3 then ms l j else cl l j := by
  obtain ⟨h1, h2⟩ := hR j hj
  obtain ⟨⟨⟨h3, h4⟩, h5⟩, h6⟩ := h
  unfold num
  have h4' : (kd l j = 2 ∨ kd l j = 3) ∨ ms l j = 0 := h4
  have h5' : (kd l j = 4 ∨ kd l j = 5) ∨ cl l j = 0 := h5
  split
  · rename_i h7
    have : cl l j = 0 := h5'.resolve_left (by omega)
    rw [this, Int.add_zero, w64_id h1]
  · rename_i h7
    rw [h4'.resolve_left h7, Int.zero_add, w64_id h2]
/-- The first event of a kind with a number, ahead of an event. -/
theorem find_t {n : Int} {l : List Act} {i : Nat} (hR : RA l) (hi : i ≤ l.length) (H : ∀ j, j < i → code n l j = 0) (k q : Int) :
    Tot (f51 ((l.take (Int.toNat (i : Int))).drop (Int.toNat 0)) k q) fun r => ((r = -1 ∧ ∀ j, j < i → ¬ (kd l j = k ∧ num l j = q)) ∨ ∃ j : Nat, j < i ∧ r = (j : Int) ∧ kd l j = k ∧ num l j = q ∧ ∀ x, x < j → ¬ (kd l x = k ∧ num l x = q)) := by
  rw [tk0]
  have hl : (l.take i).length = i := by rw [List.length_take]; omega
  refine (f51_t _ _ _).mono fun r hr => ?_
  rw [hl] at hr
  rcases hr with ⟨h1, h2⟩ | ⟨j, h1, h2, h3, h4, h5⟩
  · refine .inl ⟨h1, fun j hj => ?_⟩
    have := h2 j hj
    rwa [kd_take hj, num_take hj] at this
  · refine .inr ⟨j, h1, h2, ?_, ?_, fun x hx => ?_⟩
    · rwa [kd_take h1] at h3
    · rwa [num_take h1] at h4
    · have := h5 x hx
      rwa [kd_take (by omega), num_take (by omega)] at this
theorem has2 {n : Int} {l : List Act} {i : Nat} (hR : RA l) (hi : i ≤ l.length) (H : ∀ j, j < i → code n l j = 0) {m : Int} : HasS l i m ↔ ∃ j, j < i ∧ kd l j = 2 ∧ num l j = m := by
  constructor
  · rintro ⟨j, h1, h2, h3⟩
    exact ⟨j, h1, h2, by rw [num_fl hR (by omega) (code_zero (H j h1)).2.1, if_pos (.inl h2)]; exact h3⟩
  · rintro ⟨j, h1, h2, h3⟩
    rw [num_fl hR (by omega) (code_zero (H j h1)).2.1, if_pos (.inl h2)] at h3
    exact ⟨j, h1, h2, h3⟩
theorem hasKi {n : Int} {l : List Act} {i : Nat} (hR : RA l) (hi : i ≤ l.length) (H : ∀ j, j < i → code n l j = 0) {k m : Int} (hk : k = 4 ∨ k = 5) : HasC l k i m ↔ ∃ j, j < i ∧ kd l j = k ∧ num l j = m := by
  constructor
  · rintro ⟨j, h1, h2, h3⟩
    exact ⟨j, h1, h2, by rw [num_fl hR (by omega) (code_zero (H j h1)).2.1, if_neg (by omega)]; exact h3⟩
  · rintro ⟨j, h1, h2, h3⟩
    rw [num_fl hR (by omega) (code_zero (H j h1)).2.1, if_neg (by omega)] at h3
    exact ⟨j, h1, h2, h3⟩
theorem find_iff {i : Nat} {P : Nat → Prop} {r : Int} (h : (r = -1 ∧ ∀ j, j < i → ¬ P j) ∨ ∃ j : Nat, j < i ∧ r = (j : Int) ∧ P j) : (0 ≤ r ↔ ∃ j, j < i ∧ P j) ∧ (r < 0 ↔ ¬ ∃ j, j < i ∧ P j) := by
  rcases h with ⟨rfl, h⟩ | ⟨j, h1, rfl, h2⟩
  · have : ¬ ∃ j, j < i ∧ P j := fun ⟨j, a, b⟩ => h j a b
    exact ⟨⟨fun h => absurd h (by decide), fun h => absurd h this⟩, ⟨fun _ => this, fun _ => by decide⟩⟩
  · exact ⟨⟨fun _ => ⟨j, h1, h2⟩, fun _ => by omega⟩, ⟨fun h => by omega, fun h => absurd ⟨j, h1, h2⟩ h⟩⟩

theorem f50_t (x : Act) : Tot (f50 x) fun r => (r = true ↔ Flds x) := by
  refine tot_some ?_
  simp only [Bool.and_eq_true, Bool.or_eq_true, decide_eq_true_eq, Flds]

theorem f16_t (n : Int) (l : List Act) (hR : RA l) : Tot (f16 n l) (WrongIs n l) := by
  unfold f16
  refine tot_if (fun h => ?_) (fun h => ?_)
  · simp only [Bool.or_eq_true, decide_eq_true_eq] at h
    exact tot_some (.inl ⟨h, rfl⟩)
  simp only [Bool.or_eq_false_iff, decide_eq_false_iff_not] at h
  have h' : ¬ (n < 1 ∨ 16 < n) := by omega
  rw [toNat_len]
  refine (tot_rngx (fun i s => ∀ j, j < i → j ≠ 1000 ∧ code n l j = 0) (WrongIs n l) (fun j hj => absurd hj (by omega)) fun i s hi H => ?_).bind fun o ho => ?_
  · unfold f16_b0
    have Hc : ∀ j, j < i → code n l j = 0 := fun j hj => (H j hj).2
    refine Tot.bind (Q := fun o => (o = .inl () ∧ i ≠ 1000 ∧ code n l i = 0) ∨ ∃ e, o = .inr e ∧ ((i = 1000 ∧ e = 4) ∨ (i ≠ 1000 ∧ code n l i ≠ 0 ∧ e = code n l i))) ?_ fun o ho => ?_
    · refine tot_ix hi ?_
      refine tot_if (fun h1 => ?_) (fun h1 => ?_)
      · have e : i = 1000 := by have := of_decide_eq_true h1; omega
        exact tot_some (.inr ⟨_, rfl, .inl ⟨e, rfl⟩⟩)
      have e : i ≠ 1000 := by have := of_decide_eq_false h1; omega
      have bad : ∀ {k : Int}, k ≠ 0 → code n l i = k → Tot (some (.inr k) : Option (Unit ⊕ Int)) fun o => (o = .inl () ∧ i ≠ 1000 ∧ code n l i = 0) ∨ ∃ e, o = .inr e ∧ ((i = 1000 ∧ e = 4) ∨ (i ≠ 1000 ∧ code n l i ≠ 0 ∧ e = code n l i)) := fun hk hc => tot_some (.inr ⟨_, rfl, .inr ⟨e, by rw [hc]; exact hk, hc.symm⟩⟩)
      refine tot_if (fun h2 => ?_) (fun h2 => ?_)
      · simp only [Bool.or_eq_true, Bool.and_eq_true, decide_eq_true_eq] at h2
        refine bad (by decide) ?_
        rw [code, if_pos (show BadR n (l.getD i default) from or_assoc.1 h2)]
      have hbad : ¬ BadR n (l.getD i default) := by
        have h2' := Bool.eq_false_iff.1 h2
        simp only [ne_eq, Bool.or_eq_true, Bool.and_eq_true, decide_eq_true_eq] at h2'
        exact fun h => h2' (or_assoc.2 h)
      refine (f50_t _).bind fun x16 h6 => ?_
      refine tot_if (fun h3 => ?_) (fun h3 => ?_)
      · have : ¬ Flds (l.getD i default) := fun h => by rw [h6.2 h] at h3; simp at h3
        exact bad (by decide) (by rw [code, if_neg hbad, if_pos this])
      have hf : Flds (l.getD i default) := h6.1 (by simpa using h3)
      have hsl : slOk 0 (i : Int) l.length = true := slOk_t (by omega) (by omega) (by omega)
      have hnum := num_fl hR hi hf
      have hk5 : 1 ≤ kd l i ∧ kd l i ≤ 5 := hf.1.1.1
      have ekd : (l.getD i default).2.1 = kd l i := rfl
      have enum : w64 ((l.getD i default).2.2.1 + (l.getD i default).2.2.2.1) = num l i := rfl
      have ems : (l.getD i default).2.2.1 = ms l i := rfl
      have ecl : (l.getD i default).2.2.2.1 = cl l i := rfl
      obtain ⟨r1, e1, p1⟩ := find_t hR (Nat.le_of_lt hi) Hc (kd l i) (num l i)
      rw [ekd, enum, ecl, ems, hsl, e1]
      have q1 := find_iff (P := fun j => kd l j = kd l i ∧ num l j = num l i) (p1.imp id fun ⟨j, a, b, c, d, _⟩ => ⟨j, a, b, c, d⟩)
      simp only [Option.isSome_some, Bool.or_true, cond_true, Option.getD_some]
      have hdup : (kd l i ≠ 1 ∧ kd l i ≠ 3) ∧ 0 ≤ r1 ↔ Dup l i := by
        rw [q1.1]
        unfold Dup
        rw [has2 hR (Nat.le_of_lt hi) Hc, hasKi hR (Nat.le_of_lt hi) Hc (.inl rfl), hasKi hR (Nat.le_of_lt hi) Hc (.inr rfl)]
        constructor
        · rintro ⟨⟨a, b⟩, j, c, d, f⟩
          rcases (show kd l i = 2 ∨ kd l i = 4 ∨ kd l i = 5 by omega) with g | g | g
          · rw [if_pos (.inl g)] at hnum
            exact .inl (.inl ⟨g, j, c, d.trans g, f.trans hnum⟩)
          · rw [if_neg (by omega)] at hnum
            exact .inl (.inr ⟨g, j, c, d.trans g, f.trans hnum⟩)
          · rw [if_neg (by omega)] at hnum
            exact .inr ⟨g, j, c, d.trans g, f.trans hnum⟩
        · rintro ((⟨g, j, c, d, f⟩ | ⟨g, j, c, d, f⟩) | ⟨g, j, c, d, f⟩)
          · rw [if_pos (.inl g)] at hnum
            exact ⟨by omega, j, c, d.trans g.symm, f.trans hnum.symm⟩
          · rw [if_neg (by omega)] at hnum
            exact ⟨by omega, j, c, d.trans g.symm, f.trans hnum.symm⟩
          · rw [if_neg (by omega)] at hnum
            exact ⟨by omega, j, c, d.trans g.symm, f.trans hnum.symm⟩
      refine tot_if (fun h4 => ?_) (fun h4 => ?_)
      · simp only [Bool.and_eq_true, decide_eq_true_eq, Bool.not_eq_true', decide_eq_false_iff_not] at h4
        exact bad (by decide) (by rw [code, if_neg hbad, if_neg (fun h => h hf), if_pos (hdup.1 h4)])
      have hnd : ¬ Dup l i := by
        have h4' := Bool.eq_false_iff.1 h4
        simp only [ne_eq, Bool.and_eq_true, decide_eq_true_eq, Bool.not_eq_true', decide_eq_false_iff_not] at h4'
        exact fun h => h4' (hdup.2 h)
      obtain ⟨r2, e2, p2⟩ := find_t hR (Nat.le_of_lt hi) Hc 2 (ms l i)
      rw [e2]
      have q2 := find_iff (P := fun j => kd l j = 2 ∧ num l j = ms l i) (p2.imp id fun ⟨j, a, b, c, d, _⟩ => ⟨j, a, b, c, d⟩)
      simp only [Option.isSome_some, Bool.or_true, cond_true, Option.getD_some]
      rw [← has2 hR (Nat.le_of_lt hi) Hc] at q2
      refine tot_if (fun h5 => ?_) (fun h5 => ?_)
      · simp only [Bool.and_eq_true, decide_eq_true_eq] at h5
        exact bad (by decide) (by rw [code, if_neg hbad, if_neg (fun h => h hf), if_neg hnd, if_pos (.inl ⟨h5.1, q2.2.1 h5.2⟩)])
      have h5' := Bool.eq_false_iff.1 h5
      simp only [ne_eq, Bool.and_eq_true, decide_eq_true_eq] at h5'
      refine tot_if (fun h7 => ?_) (fun h7 => ?_)
      · have h7' : kd l i = 5 := of_decide_eq_true h7
        obtain ⟨r3, e3, p3⟩ := find_t hR (Nat.le_of_lt hi) Hc 4 (cl l i)
        rw [e3]
        have q3 := find_iff (P := fun j => kd l j = 4 ∧ num l j = cl l i) (p3.imp id fun ⟨j, a, b, c, d, _⟩ => ⟨j, a, b, c, d⟩)
        rw [← hasKi hR (Nat.le_of_lt hi) Hc (.inl rfl)] at q3
        simp only [Option.bind_some]
        refine tot_if (fun h8 => ?_) (fun h8 => ?_)
        · exact bad (by decide) (by rw [code, if_neg hbad, if_neg (fun h => h hf), if_neg hnd, if_pos (.inr ⟨h7', q3.2.1 (of_decide_eq_true h8)⟩)])
        have h8' := of_decide_eq_false h8
        have hno : ¬ Nope l i := by
          rintro (⟨a, b⟩ | ⟨a, b⟩)
          · exact absurd (a.symm.trans h7') (by decide)
          · exact h8' (q3.2.2 b)
        obtain ⟨j, a, rfl, c, d, _⟩ : ∃ j : Nat, j < i ∧ r3 = (j : Int) ∧ kd l j = 4 ∧ num l j = cl l i ∧ True := by
          rcases p3 with ⟨h, _⟩ | ⟨j, a, b, c, d, _⟩
          · exact absurd (by omega) h8'
          · exact ⟨j, a, b, c, d, trivial⟩
        have d' : cl l j = cl l i := by
          have := num_fl hR (show j < l.length by omega) (code_zero (Hc j a)).2.1
          rw [if_neg (by omega)] at this
          exact this.symm.trans d
        refine tot_ix (show j < l.length by omega) ?_
        have haw : Away l i ↔ nd l j ≠ nd l i := by
          constructor
          · rintro ⟨_, x, x1, x2, x3, x4⟩
            have : x = j := by
              rcases Nat.lt_trichotomy x j with y | y | y
              · exact absurd (show Dup l j from .inl (.inr ⟨c, x, y, x2, x3.trans d'.symm⟩)) (code_zero (Hc j a)).2.2.1
              · exact y
              · exact absurd (show Dup l x from .inl (.inr ⟨x2, j, y, c, d'.trans x3.symm⟩)) (code_zero (Hc x x1)).2.2.1
            rw [this] at x4; exact x4
          · exact fun h => ⟨h7', j, a, c, d', h⟩
        refine tot_if (fun h9 => ?_) (fun h9 => ?_)
        · simp only [Bool.not_eq_true', decide_eq_false_iff_not] at h9
          exact bad (by decide) (by rw [code, if_neg hbad, if_neg (fun h => h hf), if_neg hnd, if_neg hno, if_pos (haw.2 h9)])
        · simp only [Bool.not_eq_false', decide_eq_true_eq] at h9
          exact tot_some (.inl ⟨rfl, e, by rw [code, if_neg hbad, if_neg (fun h => h hf), if_neg hnd, if_neg hno, if_neg (fun h => haw.1 h h9)]⟩)
      · have h7' : kd l i ≠ 5 := of_decide_eq_false h7
        have hno : ¬ Nope l i := by
          rintro (⟨a, b⟩ | ⟨a, b⟩)
          · exact h5' ⟨a, q2.2.2 b⟩
          · exact h7' a
        exact tot_some (.inl ⟨rfl, e, by rw [code, if_neg hbad, if_neg (fun h => h hf), if_neg hnd, if_neg hno, if_neg (fun h => h7' h.1)]⟩)
    · rcases ho with ⟨rfl, h1, h2⟩ | ⟨x, rfl, hx⟩
      · refine tot_some (.inl ⟨_, rfl, fun j hj => ?_⟩)
        rcases Nat.lt_or_ge j i with h | h
        · exact H j h
        · rw [show j = i by omega]; exact ⟨h1, h2⟩
      · refine tot_some (.inr ⟨_, rfl, .inr ⟨h', .inr ⟨i, hi, H, ?_⟩⟩⟩)
        rcases hx with ⟨rfl, rfl⟩ | ⟨a, b, rfl⟩
        · exact .inl ⟨rfl, rfl⟩
        · exact .inr ⟨a, b, rfl⟩
  · rcases ho with ⟨⟨⟩, rfl, H⟩ | ⟨⟨s11, s12⟩, rfl, h⟩
    · exact tot_some (.inr ⟨h', .inl ⟨rfl, H⟩⟩)
    · exact tot_some h
theorem f18_t (n : Int) (l : List Act) (hR : RA l) : Tot (f18 n l) fun r => (r = true ↔ Ok n l) := by
  unfold f18
  refine (f16_t n l hR).bind fun r hr => tot_some ?_
  rw [decide_eq_true_eq]; exact hr.ok
theorem wrong_eq (n : Int) (l : List Act) (hR : RA l) : ∃ r, f15 n l = some r ∧ f16 n l = some r ∧ WrongIs n l r := by
  obtain ⟨r, h1, h2⟩ := f15_t n l
  obtain ⟨q, h3, h4⟩ := f16_t n l hR
  rw [h4.uniq h2] at h3
  exact ⟨r, h1, h3, h2⟩
open Classical in
theorem valid_p (n : Int) (l : List Act) : f17 n l = some (decide (Ok n l)) := by
  obtain ⟨r, h1, h2⟩ := f17_t n l
  rw [h1]; congr 1
  by_cases h : Ok n l
  · rw [h2.2 h]; simp [h]
  · have : r = false := Bool.eq_false_iff.2 fun e => h (h2.1 e)
    rw [this]; simp [h]
open Classical in
theorem valid_r (n : Int) (l : List Act) (hR : RA l) : f18 n l = some (decide (Ok n l)) := by
  obtain ⟨r, h1, h2⟩ := f18_t n l hR
  rw [h1]; congr 1
  by_cases h : Ok n l
  · rw [h2.2 h]; simp [h]
  · have : r = false := Bool.eq_false_iff.2 fun e => h (h2.1 e)
    rw [this]; simp [h]
end Go.Ab

set_option linter.unusedVariables false
namespace Go.Ab

/-! layer 29: the reference's Pasts, clocks, heights -/
theorem f56_t {l : List Act} {a b : Nat} (hN : l.length ≤ 1000) (ha : a < l.length) (hb : b < l.length) : Tot (f56 l a b) fun r => (r = true ↔ Dir l a b) := by
  unfold f56
  refine tot_ix ha ?_
  rw [ix_getD hb, ix_getD ha]
  simp only [Option.isSome_some, Bool.or_true, cond_true, Option.getD_some]
  refine tot_if (fun h => ?_) (fun h => ?_)
  · simp only [Bool.and_eq_true, decide_eq_true_eq] at h
    exact tot_some ⟨fun _ => .inl ⟨h.1.1, h.1.2, h.2⟩, fun _ => rfl⟩
  have h1 : ¬ (kd l a = 2 ∧ kd l b = 3 ∧ ms l a = ms l b) := by
    have h' := Bool.eq_false_iff.1 h
    simp only [ne_eq, Bool.and_eq_true, decide_eq_true_eq] at h'
    exact fun c => h' ⟨⟨c.1, c.2.1⟩, c.2.2⟩
  refine tot_if (fun h2 => ?_) (fun h2 => ?_)
  · simp only [Bool.or_eq_true, decide_eq_true_eq, Bool.not_eq_true', decide_eq_false_iff_not] at h2
    refine tot_some ⟨fun h => absurd h (by decide), ?_⟩
    rintro (c | ⟨c, d, _⟩)
    · exact absurd c h1
    · rcases h2 with h2 | h2
      · omega
      · exact absurd d h2
  simp only [Bool.or_eq_false_iff, decide_eq_false_iff_not, Bool.not_eq_false', decide_eq_true_eq] at h2
  obtain ⟨h2, h3⟩ := h2
  have hab : a < b := by omega
  have ew : w64 ((a : Int) + 1) = ((a + 1 : Nat) : Int) := by rw [w64_id ⟨by omega, by omega⟩]; omega
  rw [ew]
  refine tot_need (slOk_t (by omega) (by omega) (by omega)) ?_
  have el : ((l.take (Int.toNat (b : Int))).drop (Int.toNat ((a + 1 : Nat) : Int))).length = b - (a + 1) := by
    rw [Int.toNat_natCast, Int.toNat_natCast, List.length_drop, List.length_take]; omega
  rw [toNat_len, el]
  refine (tot_rngx (fun i s => ∀ x, x < i → nd l (a + 1 + x) ≠ nd l a) (fun r => ¬ Dir l a b) (fun x hx => absurd hx (by omega)) fun i s hi H => ?_).bind fun o ho => ?_
  · unfold f56_b0
    rw [ew]
    refine tot_ix (by rw [el]; exact hi) (tot_ix ha ?_)
    have e1 : (((l.take (Int.toNat (b : Int))).drop (Int.toNat ((a + 1 : Nat) : Int))).getD i default).1 = nd l (a + 1 + i) := by
      rw [getD_drop, Int.toNat_natCast, Int.toNat_natCast, getD_take (by omega)]; rfl
    rw [e1]
    refine tot_if (fun h => ?_) (fun h => ?_)
    · have h' : nd l (a + 1 + i) = nd l a := of_decide_eq_true h
      refine tot_some (.inr ⟨_, rfl, ?_⟩)
      rintro (c | ⟨_, _, c⟩)
      · exact h1 c
      · exact c _ (by omega) (by omega) h'
    · refine tot_some (.inl ⟨_, rfl, fun x hx => ?_⟩)
      rcases Nat.lt_or_ge x i with c | c
      · exact H x c
      · rw [show x = i by omega]; exact of_decide_eq_false h
  · rcases ho with ⟨⟨⟩, rfl, H⟩ | ⟨⟨⟩, rfl, h⟩
    · refine tot_some ⟨fun _ => .inr ⟨hab, h3, fun x x1 x2 => ?_⟩, fun _ => rfl⟩
      have := H (x - (a + 1)) (by omega)
      rwa [show a + 1 + (x - (a + 1)) = x by omega] at this
    · exact tot_some ⟨fun h => absurd h (by decide), fun c => absurd c h⟩

/-- A row tells what is before an event. -/
def GRow (l : List Act) (b : Nat) (r : List Bool) : Prop := r.length = l.length ∧ ∀ c, c < l.length → (r.getD c default = true ↔ Pst l c b)
def GMat (l : List Act) (m : List (List Bool)) : Prop := m.length = l.length ∧ ∀ b, b < l.length → GRow l b (m.getD b default)

theorem f23_t {l : List Act} (hN : l.length ≤ 1000) : Tot (f23 l) (GMat l) := by
  unfold f23
  refine tot_need (mkOk_t (by omega) (by omega)) ?_
  rw [toNat_len]
  refine (tot_rng (fun i s => s.length = l.length ∧ ∀ b, b < i → GRow l b (s.getD b default)) ⟨by simp, fun b hb => absurd hb (by omega)⟩ fun i s hi H => ?_).bind fun o ho => ?_
  · obtain ⟨H1, H2⟩ := H
    unfold f23_b0
    refine tot_need (mkOk_t (by omega) (by omega)) ?_
    refine tot_ix (by omega) ?_
    refine tot_need (decide_eq_true (by omega)) ?_
    rw [Int.toNat_natCast, toNat_len]
    refine (tot_rng (fun j s => s.length = l.length ∧ (∀ b, b < i → GRow l b (s.getD b default)) ∧ (s.getD i default).length = l.length ∧ ∀ c, c < l.length → ((s.getD i default).getD c default = true ↔ ∃ a, a < j ∧ Dir l a i ∧ (c = a ∨ Pst l c a))) ⟨by simp [H1], fun b hb => ?_, ?_, fun c hc => ?_⟩ fun j s hj H => ?_).bind fun o ho => ?_
    · rw [getD_set (by omega), if_neg (by omega)]; exact H2 b hb
    · rw [getD_set (by omega), if_pos rfl]; simp
    · rw [getD_set (by omega), if_pos rfl, getD_rep hc]
      constructor
      · intro h; exact absurd h (by decide)
      · rintro ⟨a, h, _⟩; omega
    · obtain ⟨K1, K2, K3, K4⟩ := H
      unfold f23_b1
      refine Tot.bind (Q := fun o => ∃ s', o = .inl s' ∧ (s'.length = l.length ∧ (∀ b, b < i → GRow l b (s'.getD b default)) ∧ (s'.getD i default).length = l.length ∧ ∀ c, c < l.length → ((s'.getD i default).getD c default = true ↔ ∃ a, a < j + 1 ∧ Dir l a i ∧ (c = a ∨ Pst l c a)))) ?_ fun o ho => ?_
      · refine (f56_t hN (by omega) hi).bind fun r hr => ?_
        refine tot_if (fun h => ?_) (fun h => ?_)
        · refine tot_some ⟨_, rfl, K1, K2, K3, fun c hc => ?_⟩
          rw [K4 c hc]
          have hd : ¬ Dir l j i := fun d => by rw [hr.2 d] at h; simp at h
          constructor
          · rintro ⟨a, h1, h2⟩; exact ⟨a, by omega, h2⟩
          · rintro ⟨a, h1, h2⟩
            rcases Nat.lt_or_ge a j with h3 | h3
            · exact ⟨a, h3, h2⟩
            · rw [show a = j by omega] at h2; exact absurd h2.1 hd
        · have hd : Dir l j i := hr.1 (by simpa using h)
          refine tot_ix (by omega) (tot_ix (by omega) ?_)
          refine tot_need (decide_eq_true (by omega)) ?_
          rw [Int.toNat_natCast, Int.toNat_natCast]
          refine (tot_rng (fun k s => s.length = l.length ∧ (∀ b, b < i → GRow l b (s.getD b default)) ∧ (s.getD i default).length = l.length ∧ ∀ c, c < l.length → ((s.getD i default).getD c default = true ↔ (∃ a, a < j ∧ Dir l a i ∧ (c = a ∨ Pst l c a)) ∨ c = j ∨ (c < k ∧ Pst l c j))) ⟨by simp [K1], fun b hb => ?_, ?_, fun c hc => ?_⟩ fun k s hk H => ?_).bind fun o ho => ?_
          · rw [getD_set (by omega), if_neg (by omega)]; exact K2 b hb
          · rw [getD_set (by omega), if_pos rfl]; simpa using K3
          · rw [getD_set (by omega), if_pos rfl, getD_set (by omega)]
            split
            · rename_i e; simp [e]
            · rename_i e
              rw [K4 c hc]
              constructor
              · exact .inl
              · rintro (h | h | ⟨h, _⟩)
                · exact h
                · exact absurd h.symm e
                · omega
          · obtain ⟨L1, L2, L3, L4⟩ := H
            unfold f23_b2
            refine tot_ix (by omega) (tot_ix (by omega) ?_)
            have hrow := L2 j hj
            rw [ix_getD (show j < s.length by omega)]
            simp only [Option.isSome_some, Bool.or_true, cond_true, Option.getD_some]
            rw [ix_getD (show k < (s.getD j default).length by rw [hrow.1]; omega)]
            simp only [Option.isSome_some, Bool.or_true, cond_true, Option.getD_some]
            rw [Int.toNat_natCast, Int.toNat_natCast]
            refine tot_some ⟨_, rfl, by simp [L1], fun b hb => ?_, ?_, fun c hc => ?_⟩
            · rw [getD_set (by omega), if_neg (by omega)]; exact L2 b hb
            · rw [getD_set (by omega), if_pos rfl]; simpa using L3
            · rw [getD_set (by omega), if_pos rfl, getD_set (by omega)]
              split
              · rename_i e
                subst e
                rw [Bool.or_eq_true, L4 k hc, hrow.2 k hc]
                constructor
                · rintro ((h | h | ⟨h, _⟩) | h)
                  · exact .inl h
                  · exact .inr (.inl h)
                  · omega
                  · exact .inr (.inr ⟨by omega, h⟩)
                · rintro (h | h | ⟨_, h⟩)
                  · exact .inl (.inl h)
                  · exact .inl (.inr (.inl h))
                  · exact .inr h
              · rename_i e
                rw [L4 c hc]
                constructor
                · rintro (h | h | ⟨h, h'⟩)
                  · exact .inl h
                  · exact .inr (.inl h)
                  · exact .inr (.inr ⟨by omega, h'⟩)
                · rintro (h | h | ⟨h, h'⟩)
                  · exact .inl h
                  · exact .inr (.inl h)
                  · exact .inr (.inr ⟨by omega, h'⟩)
          · obtain ⟨s', rfl, L1, L2, L3, L4⟩ := ho
            refine tot_some ⟨_, rfl, L1, L2, L3, fun c hc => ?_⟩
            rw [L4 c hc]
            constructor
            · rintro (⟨a, h1, h2⟩ | h | ⟨_, h⟩)
              · exact ⟨a, by omega, h2⟩
              · exact ⟨j, by omega, hd, .inl h⟩
              · exact ⟨j, by omega, hd, .inr h⟩
            · rintro ⟨a, h1, h2, h3⟩
              rcases Nat.lt_or_ge a j with h4 | h4
              · exact .inl ⟨a, h4, h2, h3⟩
              · rw [show a = j by omega] at h3
                rcases h3 with h3 | h3
                · exact .inr (.inl h3)
                · exact .inr (.inr ⟨h3.lt, h3⟩)
      · obtain ⟨s', rfl, h⟩ := ho
        exact tot_some ⟨_, rfl, h⟩
    · obtain ⟨s', rfl, K1, K2, K3, K4⟩ := ho
      refine tot_some ⟨_, rfl, K1, fun b hb => ?_⟩
      rcases Nat.lt_or_ge b i with h | h
      · exact K2 b h
      · rw [show b = i by omega]
        refine ⟨K3, fun c hc => ?_⟩
        rw [K4 c hc, pst_iff]
  · obtain ⟨s', rfl, h⟩ := ho
    exact tot_some h

/-! clocks -/
theorem f53_nil (n : Int) (l : List Act) (hR : RA l) : Tot (f53 n l []) fun r => (r = 0 ∧ Ok n l) ∨ (r = 1 ∧ ¬ Ok n l) := by
  unfold f53
  refine (f18_t n l hR).bind fun r hr => ?_
  refine tot_if (fun h => ?_) (fun h => ?_)
  · exact tot_some (.inr ⟨rfl, fun k => by rw [hr.2 k] at h; simp at h⟩)
  · exact tot_some (.inl ⟨rfl, hr.1 (by simpa using h)⟩)
/-- What a right history is. -/
theorem Ok.n {n : Int} {l : List Act} (h : Ok n l) : 1 ≤ n ∧ n ≤ 16 := by have := h.1; omega
theorem Ok.nd {n : Int} {l : List Act} (h : Ok n l) : ∀ i, i < l.length → 0 ≤ nd l i ∧ nd l i < n := fun i hi => by
  have := (code_zero (h.2 i hi).2).1
  unfold BadR at this
  simp only [not_or, Int.not_lt, Int.not_le] at this
  exact this.1
theorem Ok.len {n : Int} {l : List Act} (h : Ok n l) : l.length ≤ 1000 := by
  rcases Nat.lt_or_ge 1000 l.length with c | c
  · exact absurd rfl (h.2 1000 c).1
  · exact c
/-- Clocks of all events. -/
def GClk (n : Int) (l : List Act) (m : List (List Int)) : Prop := m.length = l.length ∧ ∀ b, b < l.length → IsClock n.toNat l b (m.getD b default)
theorem GClk.uniq {n : Int} {l : List Act} {m m' : List (List Int)} (h : GClk n l m) (k : GClk n l m') : m = m' :=
  ext_getD default (h.1.trans k.1.symm) fun j hj => (h.2 j (by rw [← h.1]; exact hj)).uniq (k.2 j (by rw [← h.1]; exact hj))
end Go.Ab

set_option linter.unusedVariables false
namespace Go.Ab

/-! counting -/
open Classical in
/-- How many of the first numbers have a property. -/
noncomputable def cntP (P : Nat → Prop) : Nat → Nat
  | 0 => 0
  | k + 1 => cntP P k + if P k then 1 else 0
theorem cntP_le {P Q : Nat → Prop} : ∀ {k : Nat}, (∀ a, a < k → P a → Q a) → cntP P k ≤ cntP Q k := by
  intro k
  induction k with
  | zero => intro _; exact Nat.le_refl _
  | succ k ih =>
    intro h
    have := ih fun a ha => h a (by omega)
    simp only [cntP]
    by_cases hp : P k
    · rw [if_pos hp, if_pos (h k (by omega) hp)]; omega
    · rw [if_neg hp]; omega
theorem cntP_mono {P : Nat → Prop} {a b : Nat} (h : a ≤ b) : cntP P a ≤ cntP P b := by
  induction b with
  | zero => rw [Nat.le_zero.1 h]; exact Nat.le_refl _
  | succ b ih =>
    rcases Nat.lt_or_ge a (b + 1) with h1 | h1
    · exact Nat.le_trans (ih (by omega)) (by simp only [cntP]; omega)
    · rw [show a = b + 1 by omega]; exact Nat.le_refl _
theorem cntP_stop {P : Nat → Prop} {k : Nat} : ∀ {n : Nat}, k ≤ n → (∀ a, k ≤ a → a < n → ¬ P a) → cntP P n = cntP P k := by
  intro n
  induction n with
  | zero => intro h _; rw [Nat.le_zero.1 h]
  | succ n ih =>
    intro h hp
    rcases Nat.lt_or_ge n k with h1 | h1
    · rw [show k = n + 1 by omega]
    · simp only [cntP]
      rw [if_neg (hp n h1 (by omega)), ih h1 fun a x y => hp a x (by omega)]; omega
theorem cntP_len {P : Nat → Prop} {k : Nat} : cntP P k ≤ k := by
  induction k with
  | zero => exact Nat.le_refl _
  | succ k ih => simp only [cntP]; split <;> omega
theorem cnt_cntP {l : List Act} {p : Int} {k : Nat} : cnt l p k = cntP (fun a => nd l a = p) k := by
  induction k with
  | zero => rfl
  | succ k ih =>
    simp only [cnt, cntP, ih]
    by_cases h : nd l k = p
    · rw [if_pos h, if_pos h]
    · rw [if_neg h, if_neg h]
/-- Of a node: the event and what is before it. -/
def Dn (l : List Act) (b : Nat) (p : Int) (a : Nat) : Prop := nd l a = p ∧ (a = b ∨ Pst l a b)
theorem dn_cnt {l : List Act} {b : Nat} {p : Int} {k : Nat} : cntP (Dn l b p) k = cntP (fun a => Pst l a b ∧ nd l a = p) k + if b < k ∧ nd l b = p then 1 else 0 := by
  induction k with
  | zero => simp [cntP]
  | succ k ih =>
    simp only [cntP, ih]
    by_cases hb : b = k
    · subst hb
      have h0 : ¬ Pst l b b := fun h => by have := h.lt; omega
      have e1 : (Dn l b p b) ↔ nd l b = p := ⟨fun h => h.1, fun h => ⟨h, .inl rfl⟩⟩
      by_cases hp : nd l b = p
      · rw [if_pos (e1.2 hp), if_neg (fun h : Pst l b b ∧ _ => h0 h.1), if_neg (by omega), if_pos ⟨by omega, hp⟩]
      · rw [if_neg (fun h => hp (e1.1 h)), if_neg (fun h : Pst l b b ∧ _ => h0 h.1), if_neg (by omega), if_neg (fun h => hp h.2)]
    · have e1 : (Dn l b p k) ↔ (Pst l k b ∧ nd l k = p) := ⟨fun h => ⟨h.2.resolve_left (fun e => hb e.symm), h.1⟩, fun h => ⟨h.2, .inr h.1⟩⟩
      have e2 : (b < k + 1 ∧ nd l b = p) ↔ (b < k ∧ nd l b = p) := by constructor <;> rintro ⟨h1, h2⟩ <;> exact ⟨by omega, h2⟩
      by_cases hd : Dn l b p k
      · rw [if_pos hd, if_pos (e1.1 hd)]
        by_cases h2 : b < k ∧ nd l b = p
        · rw [if_pos h2, if_pos (e2.2 h2)]
        · rw [if_neg h2, if_neg (fun h => h2 (e2.1 h))]
      · rw [if_neg hd, if_neg (fun h => hd (e1.2 h))]
        by_cases h2 : b < k ∧ nd l b = p
        · rw [if_pos h2, if_pos (e2.2 h2)]
        · rw [if_neg h2, if_neg (fun h => h2 (e2.1 h))]
/-- Counts are a clock. -/
theorem isClock_cnt {n : Nat} {l : List Act} {b : Nat} {c : List Int} (hl : c.length = n) (hn : ∀ i, i < l.length → 0 ≤ nd l i ∧ nd l i < n) (h : ∀ p, p < n → c.getD p 0 = cntP (Dn l b p) l.length) : IsClock n l b c := by
  refine ⟨hl, fun p hp => ?_, fun j hj => ?_⟩
  · rw [h p hp]
    have : cntP (Dn l b p) l.length ≤ cnt l p l.length := by rw [cnt_cntP]; exact cntP_le fun a _ h => h.1
    omega
  · have hnj := hn j hj
    rw [h _ (by omega), show (((nd l j).toNat : Nat) : Int) = nd l j by omega]
    constructor
    · intro hj'
      have h1 : cnt l (nd l j) (j + 1) ≤ cntP (Dn l b (nd l j)) (j + 1) := by
        rw [cnt_cntP]
        refine cntP_le fun a ha hna => ⟨hna, ?_⟩
        rcases Nat.lt_or_ge a j with h2 | h2
        · have := pst_same h2 hna
          rcases hj' with rfl | hj'
          · exact .inr this
          · exact .inr (this.trans hj')
        · rw [show a = j by omega]; exact hj'
      have h2 := cntP_mono (P := Dn l b (nd l j)) (show j + 1 ≤ l.length by omega)
      unfold idx; omega
    · intro hle
      refine Classical.byContradiction fun hj' => ?_
      have h1 : cntP (Dn l b (nd l j)) l.length = cntP (Dn l b (nd l j)) j := by
        refine cntP_stop (by omega) fun a h1 h2 h3 => hj' ?_
        rcases Nat.lt_or_ge j a with h4 | h4
        · have := pst_same h4 h3.1.symm
          rcases h3.2 with rfl | h5
          · exact .inr this
          · exact .inr (this.trans h5)
        · rw [show j = a by omega]; exact h3.2
      have h2 : cntP (Dn l b (nd l j)) j ≤ cnt l (nd l j) j := by rw [cnt_cntP]; exact cntP_le fun a _ h => h.1
      rw [idx_eq] at hle
      omega

theorem f20_t {n : Int} {l : List Act} (hR : RA l) : Tot (f20 n l) fun r => (¬ Ok n l ∧ r = ([], 1)) ∨ (Ok n l ∧ r.2 = 0 ∧ GClk n l r.1) := by
  unfold f20
  refine (f53_nil n l hR).bind fun x hx => ?_
  rcases hx with ⟨rfl, hok⟩ | ⟨rfl, hok⟩
  rotate_left
  · exact tot_some (.inl ⟨hok, rfl⟩)
  have hN := hok.len
  obtain ⟨n1, n2⟩ := hok.n
  have hnd := hok.nd
  refine (show Tot _ _ from ?_)
  simp only [decide_true, Bool.not_true, cond_false]
  refine (f23_t hN).bind fun m hm => ?_
  refine tot_need (mkOk_t (by omega) (by omega)) ?_
  rw [toNat_len]
  refine (tot_rng (fun i s => s.length = l.length ∧ ∀ b, b < i → IsClock n.toNat l b (s.getD b default)) ⟨by simp, fun b hb => absurd hb (by omega)⟩ fun i s hi H => ?_).bind fun o ho => ?_
  · obtain ⟨H1, H2⟩ := H
    have hni := hnd i hi
    unfold f20_b0
    refine tot_need (mkOk_t (by omega) (by omega)) ?_
    refine tot_ix (by omega) (tot_ix (by simp; omega) (tot_ix (by omega) ?_))
    rw [Int.toNat_natCast, getD_set (by omega), if_pos rfl]
    refine tot_ixz hni.1 (by rw [List.length_replicate]; exact (by have := hni.2; unfold nd at this; omega)) ?_
    refine tot_ix (by rw [hm.1]; omega) ?_
    obtain ⟨g1, g2⟩ := hm.2 i hi
    rw [toNat_len, g1]
    refine (tot_rng (fun k s => s.length = l.length ∧ (∀ b, b < i → IsClock n.toNat l b (s.getD b default)) ∧ (s.getD i default).length = n.toNat ∧ ∀ p, p < n.toNat → (s.getD i default).getD p 0 = ((cntP (fun a => Pst l a i ∧ nd l a = p) k : Nat) : Int) + (if nd l i = p then 1 else 0)) ⟨by simp [H1], fun b hb => ?_, ?_, fun p hp => ?_⟩ fun k s hk H => ?_).bind fun o ho => ?_
    · rw [getD_set (by simp; omega), if_neg (by omega), getD_set (by omega), if_neg (by omega)]; exact H2 b hb
    · rw [getD_set (by simp; omega), if_pos rfl]; simp
    · have e : (l.getD i default).1 = nd l i := rfl
      rw [getD_set (by simp; omega), if_pos rfl, e, getD_set (by rw [List.length_replicate]; omega)]
      simp only [cntP]
      split
      · rename_i e; rw [if_pos (by omega)]; rfl
      · rename_i e; rw [if_neg (by omega), getD_rep hp]; rfl
    · obtain ⟨K1, K2, K3, K4⟩ := H
      unfold f20_b1
      refine Tot.bind (Q := fun o => ∃ s', o = .inl s' ∧ (s'.length = l.length ∧ (∀ b, b < i → IsClock n.toNat l b (s'.getD b default)) ∧ (s'.getD i default).length = n.toNat ∧ ∀ p, p < n.toNat → (s'.getD i default).getD p 0 = ((cntP (fun a => Pst l a i ∧ nd l a = p) (k + 1) : Nat) : Int) + (if nd l i = p then 1 else 0))) ?_ fun o ho => ?_
      · refine tot_ix (by omega) ?_
        have hnk := hnd k hk
        refine tot_if (fun h => ?_) (fun h => ?_)
        · have hp := (g2 k hk).1 h
          refine tot_ix (by omega) (tot_ix hk (tot_ixz hnk.1 (by rw [K3]; have := hnk.2; unfold nd at this; omega) ?_))
          have e : (l.getD k default).1 = nd l k := rfl
          rw [e, Int.toNat_natCast]
          have hv := K4 (nd l k).toNat (by omega)
          have hc := cntP_len (P := fun a => Pst l a i ∧ nd l a = ((nd l k).toNat : Nat)) (k := k)
          have hw : w64 ((s.getD i default).getD (nd l k).toNat default + 1) = (s.getD i default).getD (nd l k).toNat 0 + 1 := by
            rw [w64_id]; rfl
            show R64 ((s.getD i default).getD (nd l k).toNat 0 + 1)
            rw [hv]
            constructor
            · split <;> omega
            · split <;> omega
          rw [hw]
          refine tot_some ⟨_, rfl, by simp [K1], fun b hb => ?_, ?_, fun p hpn => ?_⟩
          · rw [getD_set (by omega), if_neg (by omega)]; exact K2 b hb
          · rw [getD_set (by omega), if_pos rfl]; simpa using K3
          · rw [getD_set (by omega), if_pos rfl, getD_set (by rw [K3]; omega)]
            simp only [cntP]
            by_cases e : (nd l k).toNat = p
            · rw [if_pos e, if_pos ⟨hp, by omega⟩, hv, e]; omega
            · rw [if_neg e, if_neg (fun h => e (by omega)), K4 p hpn]; omega
        · refine tot_some ⟨_, rfl, K1, K2, K3, fun p hpn => ?_⟩
          simp only [cntP]
          rw [if_neg (fun c => by rw [(g2 k hk).2 c.1] at h; cases h), K4 p hpn]; omega
      · obtain ⟨s', rfl, h⟩ := ho
        exact tot_some ⟨_, rfl, h⟩
    · obtain ⟨s', rfl, K1, K2, K3, K4⟩ := ho
      refine tot_some ⟨_, rfl, K1, fun b hb => ?_⟩
      rcases Nat.lt_or_ge b i with h | h
      · exact K2 b h
      · rw [show b = i by omega]
        refine isClock_cnt K3 (fun x hx => by have := hnd x hx; omega) fun p hp => ?_
        rw [K4 p hp, dn_cnt]
        by_cases e : nd l i = p
        · rw [if_pos e, if_pos ⟨hi, e⟩]; omega
        · rw [if_neg e, if_neg (fun h => e h.2)]; omega
  · obtain ⟨s', rfl, h1, h2⟩ := ho
    exact tot_some (.inr ⟨hok, rfl, h1, h2⟩)
end Go.Ab

set_option linter.unusedVariables false
namespace Go.Ab

/-! layer 29: what is directly before, as the program goes -/
theorem compI_two (a b : Int) : compI [a, b] = if b = a then [a] else [a, b] := by
  unfold compI
  have e : List.range [a, b].length = [0, 1] := rfl
  rw [e]
  by_cases h : b = a
  · subst h; simp
  · simp [h]
theorem srt2 {s : List Int} (h : s.length ≤ 2) : ∃ x r, f73 s = some x ∧ f83 x = some r ∧ (∀ k, k ∈ r ↔ k ∈ s) ∧ r.Pairwise (· < ·) := by
  match s, h with
  | [], _ => exact ⟨[], [], rfl, rfl, fun k => Iff.rfl, List.Pairwise.nil⟩
  | [a], _ => exact ⟨[a], [a], rfl, rfl, fun k => Iff.rfl, by simp⟩
  | [a, b], _ =>
    have key : ∀ {c d : Int}, c ≤ d → f83 [c, d] = some (if d = c then [c] else [c, d]) := fun _ => by rw [← compI_two]; rfl
    have e : f73 [a, b] = some (bif decide (a ≤ b) then [a, b] else [b, a]) := rfl
    by_cases hab : a ≤ b
    · refine ⟨[a, b], _, by rw [e]; simp [hab], key hab, fun k => ?_, ?_⟩
      · split
        · rename_i h; subst h; simp
        · rfl
      · split
        · simp
        · simp; omega
    · refine ⟨[b, a], _, by rw [e]; simp [hab], key (by omega), fun k => ?_, ?_⟩
      · split
        · rename_i h; subst h; simp
        · simp [or_comm]
      · split
        · simp
        · simp; omega
/-- What is directly before an event. -/
def Bef (l : List Act) (i : Nat) (b : List Int) : Prop := (∀ k : Int, k ∈ b ↔ ∃ a : Nat, k = a ∧ a < i ∧ Dir l a i) ∧ b.Pairwise (· < ·)
def LastOf (l : List Act) (i : Nat) (p : Int) (v : Int) : Prop := (v = 0 ∧ ∀ j, j < i → nd l j ≠ p) ∨ ∃ j : Nat, j < i ∧ nd l j = p ∧ v = (j : Int) + 1 ∧ ∀ x, j < x → x < i → nd l x ≠ p
theorem f82_t {n : Int} {l : List Act} (hok : Ok n l) {σ : Type} {q : σ → (Int × List Int) → Option σ} {s0 : σ} (Inv : Nat → σ → Prop) (h0 : Inv 0 s0)
    (h : ∀ i s b, i < l.length → Bef l i b → Inv i s → Tot (q s ((i : Int), b)) (Inv (i + 1))) : Tot (f82 q s0 n l) (Inv l.length) := by
  have hN := hok.len
  obtain ⟨n1, n2⟩ := hok.n
  have hnd := hok.nd
  unfold f82
  refine tot_need (mkOk_t (by omega) (by omega)) ?_
  rw [toNat_len]
  refine (tot_rngx (fun i s => Inv i s.1 ∧ s.2.1.length = n.toNat ∧ (∀ p, p < n.toNat → LastOf l i p (s.2.1.getD p 0)) ∧ ∀ j : Nat, j < i → kd l j = 2 → mget s.2.2 (ms l j) = some (j : Int)) (fun r => False) ⟨h0, by simp, fun p hp => ?_, fun j hj => absurd hj (by omega)⟩ fun i s hi H => ?_).bind fun o ho => ?_
  · refine .inl ⟨?_, fun j hj => absurd hj (by omega)⟩
    rw [getD_rep hp]
  · obtain ⟨H1, H2, H3, H4⟩ := H
    obtain ⟨s5, s6, s7⟩ := s
    simp only at H1 H2 H3 H4
    have hni := hnd i hi
    have enx : (l.getD i default).1 = nd l i := rfl
    have ekx : (l.getD i default).2.1 = kd l i := rfl
    have emx : (l.getD i default).2.2.1 = ms l i := rfl
    obtain ⟨c1, c2, c3, c4, c5⟩ := code_zero (hok.2 i hi).2
    unfold f82_b0
    refine tot_ix hi ?_
    rw [enx, ekx, emx]
    have hlast := H3 (nd l i).toNat (by omega)
    rw [show (((nd l i).toNat : Nat) : Int) = nd l i by omega] at hlast
    -- the event of the same node
    refine Tot.bind (Q := fun o => ∃ s', o = .inl s' ∧ s'.length ≤ 1 ∧ ∀ k : Int, k ∈ s' ↔ ∃ a : Nat, k = a ∧ (a < i ∧ nd l a = nd l i ∧ ∀ x, a < x → x < i → nd l x ≠ nd l a)) ?_ fun o ho => ?_
    · refine tot_ixz hni.1 (by omega) ?_
      rcases hlast with ⟨hv, hl⟩ | ⟨j, hj1, hj2, hv, hl⟩
      · refine tot_if (fun h => ?_) (fun h => ?_)
        · exact absurd (of_decide_eq_true h) (by show ¬ 0 < s6.getD (nd l i).toNat 0; omega)
        · refine tot_some ⟨_, rfl, by simp, fun k => ?_⟩
          constructor
          · intro h; simp at h
          · rintro ⟨a, _, a1, a2, _⟩; exact absurd a2 (hl a a1)
      · refine tot_if (fun h => ?_) (fun h => ?_)
        · have hv' : s6.getD (nd l i).toNat default = (j : Int) + 1 := hv
          rw [hv', w64_id ⟨by omega, by omega⟩, show (j : Int) + 1 - 1 = j by omega]
          refine tot_need (apOk_t (by simp)) (tot_some ⟨_, rfl, by simp, fun k => ?_⟩)
          rw [List.mem_singleton]
          constructor
          · rintro rfl; exact ⟨j, rfl, hj1, hj2, fun x x1 x2 => by rw [hj2]; exact hl x x1 x2⟩
          · rintro ⟨a, rfl, a1, a2, a3⟩
            rcases Nat.lt_trichotomy a j with c | c | c
            · exact absurd (hj2.trans a2.symm) (a3 j c hj1)
            · rw [c]
            · exact absurd a2 (hl a c a1)
        · exact absurd (of_decide_eq_false h) (by show ¬ ¬ 0 < s6.getD (nd l i).toNat 0; omega)
    obtain ⟨s18, rfl, hl18, h18⟩ := ho
    -- what was sent
    refine Tot.bind (Q := fun o => ∃ s', o = .inl s' ∧ s'.length ≤ 2 ∧ ∀ k : Int, k ∈ s' ↔ ∃ a : Nat, k = a ∧ a < i ∧ Dir l a i) ?_ fun o ho => ?_
    · refine tot_if (fun h => ?_) (fun h => ?_)
      · have hk3 : kd l i = 3 := of_decide_eq_true h
        obtain ⟨j, j1, j2, j3⟩ : HasS l i (ms l i) := Classical.byContradiction fun hc => c4 (.inl ⟨hk3, hc⟩)
        have hg := H4 j j1 j2
        rw [j3] at hg
        rw [hg]
        refine tot_need (apOk_t (by simp; omega)) (tot_some ⟨_, rfl, by simp; omega, fun k => ?_⟩)
        rw [List.mem_append, h18, List.mem_singleton, Option.getD_some]
        constructor
        · rintro (⟨a, rfl, a1, a2, a3⟩ | rfl)
          · exact ⟨a, rfl, a1, .inr ⟨a1, a2, a3⟩⟩
          · exact ⟨j, rfl, j1, .inl ⟨j2, hk3, j3⟩⟩
        · rintro ⟨a, rfl, a1, ⟨a2, _, a3⟩ | a2⟩
          · right
            have e1 := H4 a a1 a2
            rw [a3, hg] at e1
            exact (Option.some.inj e1).symm
          · exact .inl ⟨a, rfl, a2⟩
      · refine tot_some ⟨_, rfl, by omega, fun k => ?_⟩
        rw [h18]
        constructor
        · rintro ⟨a, rfl, a1, a2, a3⟩; exact ⟨a, rfl, a1, .inr ⟨a1, a2, a3⟩⟩
        · rintro ⟨a, rfl, a1, ⟨_, a2, _⟩ | a2⟩
          · exact absurd a2 (of_decide_eq_false h)
          · exact ⟨a, rfl, a2⟩
    obtain ⟨s25, rfl, hl25, h25⟩ := ho
    refine Tot.bind (Q := fun o => ∃ s', o = .inl s' ∧ ∀ j : Nat, j < i + 1 → kd l j = 2 → mget s' (ms l j) = some (j : Int)) ?_ fun o ho => ?_
    · refine tot_if (fun h => ?_) (fun h => ?_)
      · have hk2 : kd l i = 2 := of_decide_eq_true h
        refine tot_some ⟨_, rfl, fun j hj hk => ?_⟩
        rw [mget_mset]
        rcases Nat.lt_or_ge j i with c | c
        · rw [if_neg (fun e => c3 (.inl (.inl ⟨hk2, j, c, hk, e⟩)))]; exact H4 j c hk
        · rw [show j = i by omega, if_pos rfl]
      · refine tot_some ⟨_, rfl, fun j hj hk => ?_⟩
        rcases Nat.lt_or_ge j i with c | c
        · exact H4 j c hk
        · rw [show j = i by omega] at hk; exact absurd hk (of_decide_eq_false h)
    obtain ⟨s30, rfl, h30⟩ := ho
    refine tot_ixz hni.1 (by omega) ?_
    obtain ⟨x, r, e1, e2, e3, e4⟩ := srt2 hl25
    rw [e1]
    simp only [Option.bind_some]
    rw [e2]
    simp only [Option.bind_some]
    refine (h i s5 r hi ⟨fun k => (e3 k).trans (h25 k), e4⟩ H1).bind fun s5' h5 => ?_
    rw [w64_id ⟨by omega, by omega⟩]
    refine tot_if (fun h => absurd h (by decide)) fun _ => tot_some (.inl ⟨_, rfl, h5, by simpa using H2, fun p hp => ?_, h30⟩)
    show LastOf l (i + 1) p ((s6.set (nd l i).toNat ((i : Int) + 1)).getD p 0)
    rw [getD_set (by omega)]
    split
    · rename_i e
      exact .inr ⟨i, by omega, by omega, rfl, fun x x1 x2 => by omega⟩
    · rename_i e
      rcases H3 p hp with ⟨k1, k2⟩ | ⟨j, k1, k2, k3, k4⟩
      · refine .inl ⟨k1, fun j hj => ?_⟩
        rcases Nat.lt_or_ge j i with c | c
        · exact k2 j c
        · rw [show j = i by omega]; omega
      · refine .inr ⟨j, by omega, k2, k3, fun x x1 x2 => ?_⟩
        rcases Nat.lt_or_ge x i with c | c
        · exact k4 x x1 c
        · rw [show x = i by omega]; omega
  · rcases ho with ⟨⟨s5, s6, s7⟩, rfl, H, _⟩ | ⟨r, rfl, h⟩
    · exact tot_some H
    · exact h.elim
end Go.Ab

set_option linter.unusedVariables false
namespace Go.Ab

/-! layer 29: the program's clocks and heights -/
theorem getD_mx {a b : List Int} {p : Nat} (h : a.length = b.length) (hp : p < a.length) : (mx a b).getD p 0 = max (a.getD p 0) (b.getD p 0) := by
  unfold mx
  rw [List.getD_eq_getElem?_getD, List.getD_eq_getElem?_getD, List.getD_eq_getElem?_getD, List.getElem?_zipWith, List.getElem?_eq_getElem hp, List.getElem?_eq_getElem (show p < b.length by omega)]
  rfl
theorem ap8 {a b : Nat} (h : a ≤ 1000) (hb : b ≤ 1000) : apOk 8 (a + b) = true := apOk_t (by omega)
theorem ap24 {a b : Nat} (h : a ≤ 1000) (hb : b ≤ 1000) : apOk 24 (a + b) = true := apOk_t (by omega)
theorem f52_t {n : Int} {l : List Act} (hok : Ok n l) : Tot (f52 n l) (GClk n l) := by
  have hN := hok.len
  obtain ⟨n1, n2⟩ := hok.n
  have hnd := hok.nd
  unfold f52 f62
  simp only [Option.bind_some]
  refine (f82_t hok (fun i s => s.length = i ∧ ∀ b, b < i → IsClock n.toNat l b (s.getD b default)) ⟨rfl, fun b hb => absurd hb (by omega)⟩ fun i s bf hi hbf H => ?_).bind fun s h => ?_
  · obtain ⟨H1, H2⟩ := H
    have hni := hnd i hi
    unfold f52_b0
    simp only
    refine tot_need (mkOk_t (by omega) (by omega)) ?_
    rw [toNat_len]
    refine (tot_rng (fun k c => c.length = n.toNat ∧ ∀ p, p < n.toNat → 0 ≤ c.getD p 0 ∧ (∀ x, x < k → (s.getD (bf.getD x default).toNat default).getD p 0 ≤ c.getD p 0) ∧ (0 < c.getD p 0 → ∃ x, x < k ∧ c.getD p 0 = (s.getD (bf.getD x default).toNat default).getD p 0)) ⟨by simp, fun p hp => ?_⟩ fun k c hk H => ?_).bind fun o ho => ?_
    · rw [getD_rep hp]
      exact ⟨Int.le_refl _, fun x hx => absurd hx (by omega), fun h => absurd h (by decide)⟩
    · obtain ⟨K1, K2⟩ := H
      unfold f52_b1
      obtain ⟨a, ea, a1, a2⟩ := (hbf.1 (bf.getD k default)).1 (getD_mem hk)
      refine tot_ix hk ?_
      rw [ea]
      refine tot_ix (by omega) ?_
      have hca := H2 a a1
      rw [f48_ok (by rw [K1, hca.len]) (by omega)]
      have hml := mx_len (show c.length = (s.getD a default).length by rw [K1, hca.len])
      refine tot_some ⟨_, rfl, by rw [hml, K1], fun p hp => ?_⟩
      rw [getD_mx (by rw [K1, hca.len]) (by omega)]
      obtain ⟨q1, q2, q3⟩ := K2 p hp
      refine ⟨by omega, fun x hx => ?_, fun hpos => ?_⟩
      · rcases Nat.lt_or_ge x k with h | h
        · have := q2 x h; omega
        · rw [show x = k by omega, ea, Int.toNat_natCast]; omega
      · rcases Int.le_total (c.getD p 0) ((s.getD a default).getD p 0) with h | h
        · exact ⟨k, by omega, by rw [ea, Int.toNat_natCast]; omega⟩
        · rw [Int.max_eq_left h] at hpos ⊢
          obtain ⟨x, x1, x2⟩ := q3 hpos
          exact ⟨x, by omega, x2⟩
    · obtain ⟨c, rfl, K1, K2⟩ := ho
      refine tot_ix hi ?_
      have enx : (l.getD i default).1 = nd l i := rfl
      rw [enx]
      refine tot_ixz hni.1 (by omega) ?_
      have hstep : IsClock n.toNat l i (c.set (nd l i).toNat (c.getD (nd l i).toNat 0 + 1)) := by
        refine isClock_step hi (fun x hx => by have := hnd x hx; omega) K1 (fun p hp => (K2 p hp).1) (fun k ck hk hd hck p hp => ?_) (fun p hp hpos => ?_) (fun k hk hd => ⟨_, H2 k hk⟩) rfl
        · obtain ⟨x, hx, e⟩ := mem_getD default ((hbf.1 (k : Int)).2 ⟨k, rfl, hk, hd⟩)
          have := (K2 p hp).2.1 x hx
          rw [e, Int.toNat_natCast] at this
          rwa [hck.uniq (H2 k hk)]
        · obtain ⟨x, hx, e⟩ := (K2 p hp).2.2 hpos
          obtain ⟨a, ea, a1, a2⟩ := (hbf.1 (bf.getD x default)).1 (getD_mem hx)
          rw [ea, Int.toNat_natCast] at e
          exact ⟨a, _, a1, a2, H2 a a1, e⟩
      have hw : w64 (c.getD (nd l i).toNat default + 1) = c.getD (nd l i).toNat 0 + 1 := by
        have h1 := hstep.rg (nd l i).toNat (by omega)
        rw [getD_set (by omega), if_pos rfl] at h1
        have h2 := cnt_le (l := l) (p := ((nd l i).toNat : Nat)) (a := l.length)
        exact w64_id (by constructor <;> show _ ≤ _ <;> (have : c.getD (nd l i).toNat default = c.getD (nd l i).toNat 0 := rfl) <;> omega)
      rw [hw]
      refine tot_need (ap24 (by omega) (by simp)) (tot_some ⟨by simp [H1], fun b hb => ?_⟩)
      rw [getD_app]
      split
      · exact H2 b (by omega)
      · rw [show b = i by omega, H1, Nat.sub_self]; exact hstep
  · exact tot_some h
theorem f19_t {n : Int} {l : List Act} : Tot (f19 n l) fun r => (¬ Ok n l ∧ r = ([], 1)) ∨ (Ok n l ∧ r.2 = 0 ∧ GClk n l r.1) := by
  unfold f19
  refine (f17_t n l).bind fun x hx => ?_
  refine tot_if (fun h => ?_) (fun h => ?_)
  · exact tot_some (.inl ⟨fun k => by rw [hx.2 k] at h; simp at h, rfl⟩)
  · have hok : Ok n l := hx.1 (by simpa using h)
    exact (f52_t hok).bind fun m hm => tot_some (.inr ⟨hok, rfl, hm⟩)

/-! heights -/
structure GHgt (l : List Act) (h : List Int) : Prop where
  len : h.length = l.length
  rg : ∀ b, b < l.length → 1 ≤ h.getD b default ∧ h.getD b default ≤ (b : Int) + 1
  up : ∀ a b, b < l.length → Pst l a b → h.getD a default + 1 ≤ h.getD b default
  at' : ∀ b, b < l.length → h.getD b default = 1 ∨ ∃ a, Pst l a b ∧ h.getD b default = h.getD a default + 1
theorem GHgt.uniq {l : List Act} {h k : List Int} (H : GHgt l h) (K : GHgt l k) : h = k := by
  refine ext_getD default (H.len.trans K.len.symm) fun j hj => ?_
  rw [H.len] at hj
  induction j using Nat.strongRecOn with
  | _ j ih =>
    apply Int.le_antisymm
    · rcases H.at' j hj with h1 | ⟨a, h1, h2⟩
      · rw [h1]; exact (K.rg j hj).1
      · rw [h2, ih a h1.lt (by have := h1.lt; omega)]; exact K.up a j hj h1
    · rcases K.at' j hj with h1 | ⟨a, h1, h2⟩
      · rw [h1]; exact (H.rg j hj).1
      · rw [h2, ← ih a h1.lt (by have := h1.lt; omega)]; exact H.up a j hj h1

theorem f54_t {n : Int} {l : List Act} (hok : Ok n l) : Tot (f54 n l) (GHgt l) := by
  have hN := hok.len
  unfold f54 f62
  simp only [Option.bind_some]
  refine (f82_t hok (fun i s => s.length = i ∧ (∀ b, b < i → 1 ≤ s.getD b default ∧ s.getD b default ≤ (b : Int) + 1) ∧ (∀ a b, b < i → Dir l a b → a < b → s.getD a default + 1 ≤ s.getD b default) ∧ ∀ b, b < i → s.getD b default = 1 ∨ ∃ a, a < b ∧ Dir l a b ∧ s.getD b default = s.getD a default + 1) ⟨rfl, fun b hb => absurd hb (by omega), fun a b hb => absurd hb (by omega), fun b hb => absurd hb (by omega)⟩ fun i s bf hi hbf H => ?_).bind fun s h => ?_
  · obtain ⟨H1, H2, H3, H4⟩ := H
    unfold f54_b0
    simp only
    rw [toNat_len]
    refine (tot_rng (fun k (v : Int) => 0 ≤ v ∧ v ≤ (i : Int) ∧ (∀ x, x < k → s.getD (bf.getD x default).toNat default ≤ v) ∧ (v = 0 ∨ ∃ x, x < k ∧ v = s.getD (bf.getD x default).toNat default)) ⟨Int.le_refl _, by omega, fun x hx => absurd hx (by omega), .inl rfl⟩ fun k v hk H => ?_).bind fun o ho => ?_
    · obtain ⟨K1, K2, K3, K4⟩ := H
      unfold f54_b1
      obtain ⟨a, ea, a1, a2⟩ := (hbf.1 (bf.getD k default)).1 (getD_mem hk)
      refine tot_ix hk ?_
      rw [ea]
      refine tot_ix (by omega) ?_
      have ha := H2 a a1
      refine tot_some ⟨_, rfl, by omega, by omega, fun x hx => ?_, ?_⟩
      · rcases Nat.lt_or_ge x k with h | h
        · have := K3 x h; omega
        · rw [show x = k by omega, ea, Int.toNat_natCast]; omega
      · rcases Int.le_total v (s.getD a default) with h | h
        · exact .inr ⟨k, by omega, by rw [ea, Int.toNat_natCast]; omega⟩
        · rw [Int.max_eq_left h]
          rcases K4 with h0 | ⟨x, x1, x2⟩
          · exact .inl h0
          · exact .inr ⟨x, by omega, x2⟩
    · obtain ⟨v, rfl, K1, K2, K3, K4⟩ := ho
      simp only
      rw [w64_id ⟨by omega, by omega⟩]
      refine tot_need (ap8 (by omega) (by simp)) (tot_some ⟨by simp [H1], fun b hb => ?_, fun a b hb hd hab => ?_, fun b hb => ?_⟩)
      · rw [getD_app]
        split
        · exact H2 b (by omega)
        · rw [show b = i by omega, H1, Nat.sub_self]
          show 1 ≤ v + 1 ∧ v + 1 ≤ (i : Int) + 1
          omega
      · rw [getD_app, getD_app, if_pos (by omega)]
        split
        · exact H3 a b (by omega) hd hab
        · have e : b = i := by omega
          subst e
          rw [H1, Nat.sub_self]
          obtain ⟨x, x1, x2⟩ := mem_getD default ((hbf.1 (a : Int)).2 ⟨a, rfl, hab, hd⟩)
          have := K3 x x1
          rw [x2, Int.toNat_natCast] at this
          show _ ≤ v + 1
          omega
      · rw [getD_app]
        split
        · rcases H4 b (by omega) with h | ⟨a, a1, a2, a3⟩
          · exact .inl h
          · refine .inr ⟨a, a1, a2, ?_⟩
            rw [getD_app, if_pos (by omega)]; exact a3
        · have e : b = i := by omega
          subst e
          rw [H1, Nat.sub_self]
          rcases K4 with h | ⟨x, x1, x2⟩
          · left; show v + 1 = 1; omega
          · obtain ⟨a, ea, a1, a2⟩ := (hbf.1 (bf.getD x default)).1 (getD_mem x1)
            rw [ea, Int.toNat_natCast] at x2
            refine .inr ⟨a, a1, a2, ?_⟩
            rw [getD_app, if_pos (by omega)]
            show v + 1 = _
            omega
  · obtain ⟨h1, h2, h3, h4⟩ := h
    refine tot_some ⟨h1, h2, fun a b hb hp => ?_, fun b hb => ?_⟩
    · induction hp with
      | dir x y => exact h3 _ _ hb y x
      | step x y _ ih =>
        have := ih (by omega)
        have := h3 _ _ hb y x
        omega
    · rcases h4 b hb with h | ⟨a, a1, a2, a3⟩
      · exact .inl h
      · exact .inr ⟨a, .dir a1 a2, a3⟩
theorem f21_t {n : Int} {l : List Act} : Tot (f21 n l) fun r => (¬ Ok n l ∧ r = ([], 1)) ∨ (Ok n l ∧ r.2 = 0 ∧ GHgt l r.1) := by
  unfold f21
  refine (f17_t n l).bind fun x hx => ?_
  refine tot_if (fun h => ?_) (fun h => ?_)
  · exact tot_some (.inl ⟨fun k => by rw [hx.2 k] at h; simp at h, rfl⟩)
  · have hok : Ok n l := hx.1 (by simpa using h)
    exact (f54_t hok).bind fun m hm => tot_some (.inr ⟨hok, rfl, hm⟩)

theorem f55_t {l : List Act} (hN : l.length ≤ 1000) : Tot (f55 l) (GHgt l) := by
  unfold f55
  refine (f23_t hN).bind fun m hm => ?_
  refine tot_need (mkOk_t (by omega) (by omega)) ?_
  rw [toNat_len]
  refine (tot_rng (fun i s => s.length = l.length ∧ (∀ b, b < i → 1 ≤ s.getD b default ∧ s.getD b default ≤ (b : Int) + 1) ∧ (∀ a b, b < i → Pst l a b → s.getD a default + 1 ≤ s.getD b default) ∧ ∀ b, b < i → s.getD b default = 1 ∨ ∃ a, Pst l a b ∧ s.getD b default = s.getD a default + 1) ⟨by simp, fun b hb => absurd hb (by omega), fun a b hb => absurd hb (by omega), fun b hb => absurd hb (by omega)⟩ fun i s hi H => ?_).bind fun o ho => ?_
  · obtain ⟨H1, H2, H3, H4⟩ := H
    unfold f55_b0
    refine tot_ix (by omega) (tot_ix (by rw [hm.1]; omega) ?_)
    obtain ⟨g1, g2⟩ := hm.2 i hi
    rw [toNat_len, g1, Int.toNat_natCast]
    refine (tot_rng (fun k t => t.length = l.length ∧ (∀ b, b < l.length → b ≠ i → t.getD b default = s.getD b default) ∧ 1 ≤ t.getD i default ∧ t.getD i default ≤ (i : Int) + 1 ∧ (∀ x, x < k → Pst l x i → s.getD x default + 1 ≤ t.getD i default) ∧ (t.getD i default = 1 ∨ ∃ x, Pst l x i ∧ t.getD i default = s.getD x default + 1)) ⟨by simp [H1], fun b hb hne => ?_, ?_, ?_, fun x hx => absurd hx (by omega), ?_⟩ fun k t hk H => ?_).bind fun o ho => ?_
    · rw [getD_set (by omega), if_neg (by omega)]
    · rw [getD_set (by omega), if_pos rfl]; exact Int.le_refl _
    · rw [getD_set (by omega), if_pos rfl]; omega
    · rw [getD_set (by omega), if_pos rfl]; exact .inl rfl
    · obtain ⟨K1, K2, K3, K4, K5, K6⟩ := H
      unfold f55_b1
      refine Tot.bind (Q := fun o => ∃ t', o = .inl t' ∧ t'.length = l.length ∧ (∀ b, b < l.length → b ≠ i → t'.getD b default = s.getD b default) ∧ 1 ≤ t'.getD i default ∧ t'.getD i default ≤ (i : Int) + 1 ∧ (∀ x, x < k + 1 → Pst l x i → s.getD x default + 1 ≤ t'.getD i default) ∧ (t'.getD i default = 1 ∨ ∃ x, Pst l x i ∧ t'.getD i default = s.getD x default + 1)) ?_ fun o ho => ?_
      · refine tot_ix (by omega) ?_
        refine tot_if (fun h => ?_) (fun h => ?_)
        · have hp := (g2 k hk).1 h
          have hki := hp.lt
          refine tot_ix (by omega) (tot_ix (by omega) ?_)
          rw [Int.toNat_natCast, K2 k hk (by omega)]
          have hsk := H2 k hki
          rw [w64_id ⟨by omega, by omega⟩]
          refine tot_some ⟨_, rfl, by simp [K1], fun b hb hne => ?_, ?_, ?_, fun x hx hpx => ?_, ?_⟩
          · rw [getD_set (by omega), if_neg (by omega)]; exact K2 b hb hne
          · rw [getD_set (by omega), if_pos rfl]; omega
          · rw [getD_set (by omega), if_pos rfl]; omega
          · rw [getD_set (by omega), if_pos rfl]
            rcases Nat.lt_or_ge x k with c | c
            · have := K5 x c hpx; omega
            · rw [show x = k by omega]; omega
          · rw [getD_set (by omega), if_pos rfl]
            rcases Int.le_total (t.getD i default) (s.getD k default + 1) with c | c
            · exact .inr ⟨k, hp, by omega⟩
            · rw [Int.max_eq_left c]; exact K6
        · refine tot_some ⟨_, rfl, K1, K2, K3, K4, fun x hx hpx => ?_, K6⟩
          rcases Nat.lt_or_ge x k with c | c
          · exact K5 x c hpx
          · rw [show x = k by omega] at hpx; rw [(g2 k hk).2 hpx] at h; cases h
      · obtain ⟨t', rfl, h⟩ := ho
        exact tot_some ⟨_, rfl, h⟩
    · obtain ⟨t, rfl, K1, K2, K3, K4, K5, K6⟩ := ho
      refine tot_some ⟨_, rfl, K1, fun b hb => ?_, fun a b hb hp => ?_, fun b hb => ?_⟩
      · rcases Nat.lt_or_ge b i with c | c
        · rw [K2 b (by omega) (by omega)]; exact H2 b c
        · rw [show b = i by omega]; exact ⟨K3, K4⟩
      · have := hp.lt
        rw [K2 a (by omega) (by omega)]
        rcases Nat.lt_or_ge b i with c | c
        · rw [K2 b (by omega) (by omega)]; exact H3 a b c hp
        · rw [show b = i by omega] at hp ⊢
          exact K5 a (by have := hp.lt; omega) hp
      · rcases Nat.lt_or_ge b i with c | c
        · rw [K2 b (by omega) (by omega)]
          rcases H4 b c with h | ⟨a, a1, a2⟩
          · exact .inl h
          · have := a1.lt
            exact .inr ⟨a, a1, by rw [K2 a (by omega) (by omega)]; exact a2⟩
        · rw [show b = i by omega]
          rcases K6 with h | ⟨a, a1, a2⟩
          · exact .inl h
          · have := a1.lt
            exact .inr ⟨a, a1, by rw [K2 a (by omega) (by omega)]; exact a2⟩
  · obtain ⟨s, rfl, h1, h2, h3, h4⟩ := ho
    exact tot_some ⟨h1, h2, h3, h4⟩
theorem f22_t {n : Int} {l : List Act} (hR : RA l) : Tot (f22 n l) fun r => (¬ Ok n l ∧ r = ([], 1)) ∨ (Ok n l ∧ r.2 = 0 ∧ GHgt l r.1) := by
  unfold f22
  refine (f53_nil n l hR).bind fun x hx => ?_
  rcases hx with ⟨rfl, hok⟩ | ⟨rfl, hok⟩
  · exact (f55_t hok.len).bind fun m hm => tot_some (.inr ⟨hok, rfl, hm⟩)
  · exact tot_some (.inl ⟨hok, rfl⟩)
end Go.Ab

set_option linter.unusedVariables false
namespace Go.Ab

/-! layer 29: the law CauseClocks -/
theorem f9_t {a b : List Int} (h : okC a b = true) : Tot (f9 a b) fun r => r.2 = 0 ∧ ∃ less more : Bool, (less = true ↔ ∃ p, p < a.length ∧ a.getD p 0 < b.getD p 0) ∧ (more = true ↔ ∃ p, p < a.length ∧ b.getD p 0 < a.getD p 0) ∧ r.1 = (if less && more then 2 else if less then -1 else if more then 1 else 0) := by
  obtain ⟨h1, h2⟩ := okC_len h
  unfold f9
  rw [f45_ok, h, toNat_len]
  simp only [Option.bind_some, Bool.not_true, cond_false]
  refine (tot_rng (fun k (s : Bool × Bool) => (s.1 = true ↔ ∃ p, p < k ∧ a.getD p 0 < b.getD p 0) ∧ (s.2 = true ↔ ∃ p, p < k ∧ b.getD p 0 < a.getD p 0)) ⟨?_, ?_⟩ fun k s hk H => ?_).bind fun o ho => ?_
  · constructor
    · intro h; cases h
    · rintro ⟨p, hp, _⟩; omega
  · constructor
    · intro h; cases h
    · rintro ⟨p, hp, _⟩; omega
  · obtain ⟨s5, s6⟩ := s
    obtain ⟨H1, H2⟩ := H
    have step : ∀ {P : Nat → Prop}, (∃ p, p < k + 1 ∧ P p) ↔ (∃ p, p < k ∧ P p) ∨ P k := by
      intro P
      constructor
      · rintro ⟨p, p1, p2⟩
        rcases Nat.lt_or_ge p k with c | c
        · exact .inl ⟨p, c, p2⟩
        · rw [show p = k by omega] at p2; exact .inr p2
      · rintro (⟨p, p1, p2⟩ | p2)
        · exact ⟨p, by omega, p2⟩
        · exact ⟨k, by omega, p2⟩
    unfold f9_b0
    simp only
    rw [ix_getD hk, ix_getD (show k < b.length by omega)]
    simp only [Option.isSome_some, Bool.or_true, cond_true, Option.getD_some]
    refine tot_some ⟨_, rfl, ?_, ?_⟩
    · rw [Bool.or_eq_true, H1, step, decide_eq_true_eq]; rfl
    · rw [Bool.or_eq_true, H2, step, decide_eq_true_eq]; rfl
  · obtain ⟨⟨s5, s6⟩, rfl, H1, H2⟩ := ho
    have : Tot (some ((if s5 && s6 then 2 else if s5 then -1 else if s6 then 1 else 0 : Int), (0 : Int))) fun r => r.2 = 0 ∧ ∃ less more : Bool, (less = true ↔ ∃ p, p < a.length ∧ a.getD p 0 < b.getD p 0) ∧ (more = true ↔ ∃ p, p < a.length ∧ b.getD p 0 < a.getD p 0) ∧ r.1 = (if less && more then 2 else if less then -1 else if more then 1 else 0) := tot_some ⟨rfl, s5, s6, H1, H2, rfl⟩
    cases s5 <;> cases s6 <;> exact this
theorem okC_clk {n : Nat} {l : List Act} {x y : Nat} {a b : List Int} (h : IsClock n l x a) (k : IsClock n l y b) (h1 : 1 ≤ n) (h2 : n ≤ 16) : okC a b = true := by
  have neg0 : ∀ {c : List Int} {z : Nat}, IsClock n l z c → c.any neg = false := fun {c z} hc => by
    rw [List.any_eq_false]
    intro v hv
    obtain ⟨j, j1, rfl⟩ := mem_getD 0 hv
    have := (hc.rg j (by rw [← hc.len]; exact j1)).1
    simp only [neg, decide_eq_true_eq]; omega
  simp only [okC, neg0 h, neg0 k, h.len, k.len, Bool.not_false, Bool.and_true, decide_true, Bool.true_and, Bool.and_eq_true, decide_eq_true_eq]
  omega
/-- Compare of the clocks of two events. -/
theorem f9_clk {n : Int} {l : List Act} (hok : Ok n l) {m : List (List Int)} (hm : GClk n l m) {x y : Nat} (hx : x < l.length) (hy : y < l.length) :
    Tot (f9 (m.getD x default) (m.getD y default)) fun r => r.2 = 0 ∧ ((x = y ∧ r.1 = 0) ∨ (Pst l x y ∧ r.1 = -1) ∨ (Pst l y x ∧ r.1 = 1) ∨ (x ≠ y ∧ ¬ Pst l x y ∧ ¬ Pst l y x ∧ r.1 = 2)) := by
  obtain ⟨n1, n2⟩ := hok.n
  have hnd := hok.nd
  have cx := hm.2 x hx
  have cy := hm.2 y hy
  have lt : ∀ {x y : Nat}, x < l.length → y < l.length → ((∃ p, p < n.toNat ∧ (m.getD y default).getD p 0 < (m.getD x default).getD p 0) ↔ x ≠ y ∧ ¬ Pst l x y) := by
    intro x y hx hy
    have cx := hm.2 x hx
    have cy := hm.2 y hy
    have hnx := hnd x hx
    have hb := cx.before cy hx (by omega)
    constructor
    · rintro ⟨p, p1, p2⟩
      refine ⟨fun e => by subst e; omega, fun h => ?_⟩
      have := cx.le cy h p1
      omega
    · rintro ⟨h1, h2⟩
      refine ⟨(nd l x).toNat, by omega, ?_⟩
      rcases Int.lt_or_le ((m.getD y default).getD (nd l x).toNat 0) ((m.getD x default).getD (nd l x).toNat 0) with c | c
      · exact c
      · rcases hb.2 c with h | h
        · exact absurd h h1
        · exact absurd h h2
  refine (f9_t (okC_clk cx cy (by omega) (by omega))).mono fun r hr => ?_
  obtain ⟨r1, less, more, r2, r3, r4⟩ := hr
  rw [cx.len] at r2 r3
  rw [lt hy hx] at r2
  rw [lt hx hy] at r3
  refine ⟨r1, ?_⟩
  by_cases e : x = y
  · have l0 : less = false := Bool.eq_false_iff.2 fun h => (r2.1 h).1 e.symm
    have m0 : more = false := Bool.eq_false_iff.2 fun h => (r3.1 h).1 e
    rw [l0, m0] at r4
    exact .inl ⟨e, r4⟩
  by_cases h1 : Pst l x y
  · have l1 : less = true := r2.2 ⟨fun h => e h.symm, fun h => by have := h.lt; have := h1.lt; omega⟩
    have m0 : more = false := Bool.eq_false_iff.2 fun h => (r3.1 h).2 h1
    rw [l1, m0] at r4
    exact .inr (.inl ⟨h1, r4⟩)
  by_cases h2 : Pst l y x
  · have l0 : less = false := Bool.eq_false_iff.2 fun h => (r2.1 h).2 h2
    have m1 : more = true := r3.2 ⟨e, h1⟩
    rw [l0, m1] at r4
    exact .inr (.inr (.inl ⟨h2, r4⟩))
  · have l1 : less = true := r2.2 ⟨fun h => e h.symm, h2⟩
    have m1 : more = true := r3.2 ⟨e, h1⟩
    rw [l1, m1] at r4
    exact .inr (.inr (.inr ⟨e, h1, h2, r4⟩))

theorem f14_t (l : List Act) : Tot (f14 l) fun r => r = true → l.length ≤ 40 := by
  unfold f14
  rw [toNat_len]
  refine (tot_rngx (fun _ _ => True) (fun _ => True) trivial fun i s hi _ => ?_).bind fun o ho => ?_
  · unfold f14_b0
    refine tot_ix hi (tot_if (fun h => tot_some (.inr ⟨_, rfl, trivial⟩)) fun h => tot_some (.inl ⟨_, rfl, trivial⟩))
  · rcases ho with ⟨⟨⟩, rfl, _⟩ | ⟨⟨⟩, rfl, _⟩
    · exact tot_some fun h => by have := of_decide_eq_true h; omega
    · exact tot_some fun h => by cases h

/-- CauseClocks returns true. -/
theorem f4_t (n : Int) (l : List Act) (hR : RA l) : f4 n l = some true := by
  refine Tot.eq ?_
  unfold f4
  refine (f14_t l).bind fun x1 h1 => ?_
  refine tot_if (fun h => ?_) (fun h => ?_)
  · rw [f8_t]; exact tot_some rfl
  have hlen := h1 (by simpa using h)
  obtain ⟨w, e1, e2, hw⟩ := wrong_eq n l hR
  rw [e1, e2, valid_p, valid_r n l hR]
  simp only [Option.bind_some, decide_true, Bool.not_true, Bool.or_self, Option.isSome_some, Bool.or_true, cond_true, cond_false, Option.getD_some]
  obtain ⟨cp, e3, h3⟩ := f19_t (n := n) (l := l)
  obtain ⟨cr, e4, h4⟩ := f20_t (n := n) hR
  obtain ⟨hp, e5, h5⟩ := f21_t (n := n) (l := l)
  obtain ⟨hr, e6, h6⟩ := f22_t (n := n) hR
  rw [e3, e4, e5, e6]
  have ec : cp = cr := by
    rcases h3 with ⟨k, rfl⟩ | ⟨k, k1, k2⟩
    · rcases h4 with ⟨_, rfl⟩ | ⟨k', _⟩
      · rfl
      · exact absurd k' k
    · rcases h4 with ⟨k', _⟩ | ⟨_, k3, k4⟩
      · exact absurd k k'
      · exact Prod.ext (k2.uniq k4) (k1.trans k3.symm)
  have eh : hp = hr := by
    rcases h5 with ⟨k, rfl⟩ | ⟨k, k1, k2⟩
    · rcases h6 with ⟨_, rfl⟩ | ⟨k', _⟩
      · rfl
      · exact absurd k' k
    · rcases h6 with ⟨k', _⟩ | ⟨_, k3, k4⟩
      · exact absurd k k'
      · exact Prod.ext (k2.uniq k4) (k1.trans k3.symm)
  subst ec eh
  simp only [Option.bind_some, decide_true, Bool.not_true, Bool.or_self, f13_refl, Option.isSome_some, Bool.or_true, cond_true, cond_false, Option.getD_some, toNat_len]
  refine (tot_rng (fun _ _ => True) trivial fun i s hi _ => ?_).bind fun o ho => ?_
  · unfold f4_b0
    refine tot_ix hi (tot_ix hi ?_)
    rw [f13_refl]
    exact tot_some ⟨_, rfl, trivial⟩
  obtain ⟨⟨⟩, rfl, _⟩ := ho
  simp only
  refine tot_if (fun h => ?_) (fun h => ?_)
  · rw [f8_t]; exact tot_some rfl
  have c0 : cp.2 = 0 := by simpa using h
  rcases h3 with ⟨_, rfl⟩ | ⟨hok, _, hm⟩
  · exact absurd c0 (by decide)
  rcases h5 with ⟨k, _⟩ | ⟨_, _, hh⟩
  · exact absurd hok k
  refine (f23_t (by omega)).bind fun P hP => ?_
  refine (tot_rng (fun _ _ => True) trivial fun x s hx _ => ?_).bind fun o ho => ?_
  · unfold f4_b1
    rw [toNat_len]
    refine (tot_rng (fun _ _ => True) trivial fun y s hy _ => ?_).bind fun o ho => ?_
    · unfold f4_b2
      refine Tot.bind (Q := fun o => ∃ w : Int, o = .inl w ∧ ((x = y ∧ w = 0) ∨ (Pst l x y ∧ w = -1) ∨ (Pst l y x ∧ w = 1) ∨ (x ≠ y ∧ ¬ Pst l x y ∧ ¬ Pst l y x ∧ w = 2))) ?_ fun o ho => ?_
      · refine tot_if (fun h => ?_) (fun h => ?_)
        · exact tot_some ⟨_, rfl, .inl ⟨by have := of_decide_eq_true h; omega, rfl⟩⟩
        have hne : x ≠ y := fun e => of_decide_eq_false h (by rw [e])
        refine tot_ix (by rw [hP.1]; omega) ?_
        have gy := hP.2 y hy
        have gx := hP.2 x hx
        refine tot_ix (by rw [gy.1]; omega) ?_
        refine tot_if (fun h => tot_some ⟨_, rfl, .inr (.inl ⟨(gy.2 x hx).1 h, rfl⟩)⟩) (fun h => ?_)
        refine tot_ix (by rw [hP.1]; omega) (tot_ix (by rw [gx.1]; omega) ?_)
        refine tot_if (fun h' => tot_some ⟨_, rfl, .inr (.inr (.inl ⟨(gx.2 y hy).1 h', rfl⟩))⟩) (fun h' => ?_)
        exact tot_some ⟨_, rfl, .inr (.inr (.inr ⟨hne, fun c => (by rw [(gy.2 x hx).2 c] at h; cases h), fun c => (by rw [(gx.2 y hy).2 c] at h'; cases h'), rfl⟩))⟩
      · obtain ⟨w, rfl, hw⟩ := ho
        simp only
        refine tot_ix (by rw [hm.1]; omega) (tot_ix (by rw [hm.1]; omega) ?_)
        refine (f9_clk hok hm hx hy).bind fun r hr => ?_
        obtain ⟨r1, r2⟩ := hr
        have er : r.1 = w := by
          rcases r2 with ⟨a, b⟩ | ⟨a, b⟩ | ⟨a, b⟩ | ⟨a, a', a'', b⟩ <;> rcases hw with ⟨c, d⟩ | ⟨c, d⟩ | ⟨c, d⟩ | ⟨c, c', c'', d⟩ <;> (try rw [b, d])
          · have := c.lt; omega
          · have := c.lt; omega
          · exact absurd a c
          · have := a.lt; omega
          · have := a.lt; have := c.lt; omega
          · exact absurd a c'
          · have := a.lt; omega
          · have := a.lt; have := c.lt; omega
          · exact absurd a c''
          · exact absurd c a
          · exact absurd c a'
          · exact absurd c a''
        rw [ix_getD (show x < hp.1.length by rw [hh.len]; exact hx), ix_getD (show y < hp.1.length by rw [hh.len]; exact hy)]
        simp only [Option.isSome_some, Bool.or_true, cond_true, Option.getD_some, r1, er, decide_true, Bool.not_true, Bool.or_self, Bool.false_or]
        refine tot_if (fun h => ?_) (fun h => tot_some ⟨_, rfl, trivial⟩)
        simp only [Bool.and_eq_true, decide_eq_true_eq] at h
        obtain ⟨a, b⟩ := h
        rcases hw with ⟨c, d⟩ | ⟨c, d⟩ | ⟨c, d⟩ | ⟨c, c', c'', d⟩
        · omega
        · have := hh.up x y hy c; omega
        · omega
        · omega
    · obtain ⟨⟨⟩, rfl, _⟩ := ho
      exact tot_some ⟨_, rfl, trivial⟩
  · obtain ⟨⟨⟩, rfl, _⟩ := ho
    simp only
    rw [f8_t]; exact tot_some rfl
end Go.Ab

set_option linter.unusedVariables false
namespace Go.Ab

/-! layer 29: cuts -/
/-- An event is in a cut. -/
def InC (l : List Act) (c : List Int) (j : Nat) : Prop := (idx l j : Int) ≤ c.getD (nd l j).toNat 0
def CutOk (n : Int) (c : List Int) : Prop := (c.length : Int) = n ∧ ∀ p, p < c.length → 0 ≤ c.getD p 0
def CutIn (l : List Act) (c : List Int) : Prop := ∀ p : Nat, p < c.length → c.getD p 0 ≤ cnt l p l.length
def Cons (l : List Act) (c : List Int) : Prop := ∀ b, b < l.length → InC l c b → ∀ a, Pst l a b → InC l c a

/-- How many events each node has. -/
theorem count_t {n : Int} {l : List Act} (hok : Ok n l) {g : Int → List Int → Option ((List Int) ⊕ Unit)} (hg : ∀ (i : Nat) s, g i s = (ix l i).bind fun x10 => (ix s x10.1).bind fun x12 => some (.inl (s.set (Int.toNat x10.1) (w64 (x12 + 1))))) :
    Tot (rng g l.length 0 (List.replicate n.toNat 0)) fun o => ∃ s, o = .inl s ∧ s.length = n.toNat ∧ ∀ p, p < n.toNat → s.getD p 0 = cnt l p l.length := by
  have hN := hok.len
  obtain ⟨n1, n2⟩ := hok.n
  have hnd := hok.nd
  refine (tot_rng (fun i (s : List Int) => s.length = n.toNat ∧ ∀ p, p < n.toNat → s.getD p 0 = cnt l p i) ⟨by simp, fun p hp => by rw [getD_rep hp]; rfl⟩ fun i s hi H => ?_)
  obtain ⟨H1, H2⟩ := H
  have hni := hnd i hi
  rw [hg]
  refine tot_ix hi ?_
  have e : (l.getD i default).1 = nd l i := rfl
  rw [e]
  refine tot_ixz hni.1 (by omega) ?_
  have hv := H2 (nd l i).toNat (by omega)
  have hc := cnt_le (l := l) (p := ((nd l i).toNat : Nat)) (a := i)
  have hw : w64 (s.getD (nd l i).toNat default + 1) = s.getD (nd l i).toNat 0 + 1 := w64_id (by
    show R64 (s.getD (nd l i).toNat 0 + 1)
    rw [hv]; constructor <;> omega)
  rw [hw]
  refine tot_some ⟨_, rfl, by simp [H1], fun p hp => ?_⟩
  rw [getD_set (by omega)]
  simp only [cnt]
  by_cases e : (nd l i).toNat = p
  · rw [if_pos e, if_pos (by omega), hv, e]; omega
  · rw [if_neg e, if_neg (by omega), H2 p hp]; omega
theorem f85_t {n : Int} {l : List Act} (hok : Ok n l) : Tot (f85 n l) fun s => s.length = n.toNat ∧ ∀ p, p < n.toNat → s.getD p 0 = cnt l p l.length := by
  obtain ⟨n1, n2⟩ := hok.n
  unfold f85
  refine tot_need (mkOk_t (by omega) (by omega)) ?_
  rw [toNat_len]
  refine (count_t hok (fun i s => rfl)).bind fun o ho => ?_
  obtain ⟨s, rfl, h⟩ := ho
  exact tot_some h
theorem any_neg {c : List Int} : (c.any fun x => decide (x < 0)) = true ↔ ¬ ∀ p, p < c.length → 0 ≤ c.getD p 0 := by
  rw [List.any_eq_true]
  constructor
  · rintro ⟨x, hx, h⟩ hall
    obtain ⟨j, j1, rfl⟩ := mem_getD 0 hx
    have := hall j j1
    have := of_decide_eq_true h
    omega
  · intro h
    refine Classical.byContradiction fun hc => h fun p hp => ?_
    rcases Int.lt_or_le (c.getD p 0) 0 with k | k
    · exact absurd ⟨_, getD_mem hp, decide_eq_true k⟩ hc
    · exact k
/-- What is asked of a cut. -/
def CutErr (n : Int) (l : List Act) (c : List Int) (r : Int) : Prop := (¬ (Ok n l ∧ CutOk n c) ∧ r = 1) ∨ (Ok n l ∧ CutOk n c ∧ ¬ CutIn l c ∧ r = 7) ∨ (Ok n l ∧ CutOk n c ∧ CutIn l c ∧ r = 0)
theorem CutErr.uniq {n : Int} {l : List Act} {c : List Int} {r q : Int} (h : CutErr n l c r) (k : CutErr n l c q) : r = q := by
  rcases h with ⟨h1, h2⟩ | ⟨h1, h2, h3, h4⟩ | ⟨h1, h2, h3, h4⟩ <;> rcases k with ⟨k1, k2⟩ | ⟨k1, k2, k3, k4⟩ | ⟨k1, k2, k3, k4⟩
  · rw [h2, k2]
  · exact absurd ⟨k1, k2⟩ h1
  · exact absurd ⟨k1, k2⟩ h1
  · exact absurd ⟨h1, h2⟩ k1
  · rw [h4, k4]
  · exact absurd k3 h3
  · exact absurd ⟨h1, h2⟩ k1
  · exact absurd h3 k3
  · rw [h4, k4]
theorem CutErr.zero {n : Int} {l : List Act} {c : List Int} (h : CutErr n l c 0) : Ok n l ∧ CutOk n c ∧ CutIn l c := by
  rcases h with ⟨h1, h2⟩ | ⟨h1, h2, h3, h4⟩ | ⟨h1, h2, h3, h4⟩
  · exact absurd h2 (by decide)
  · exact absurd h4 (by decide)
  · exact ⟨h1, h2, h3⟩
theorem f63_t (n : Int) (l : List Act) (c : List Int) : Tot (f63 n l c) (CutErr n l c) := by
  unfold f63
  rw [valid_p]
  have hq : f75 c (fun y1 => f84 y1) = some (c.any fun x => decide (x < 0)) := f75_any c _
  rw [hq]
  simp only [Option.bind_some, Option.isSome_some, Bool.or_true, cond_true, Option.getD_some]
  by_cases hok : Ok n l
  rotate_left
  · refine tot_if (fun h => tot_some (.inl ⟨fun h => hok h.1, rfl⟩)) (fun h => ?_)
    simp [hok] at h
  refine tot_if (fun h => ?_) (fun h => ?_)
  · refine tot_some (.inl ⟨?_, rfl⟩)
    rintro ⟨_, c1, c2⟩
    simp only [hok, decide_true, Bool.not_true, Bool.false_or, Bool.or_eq_true, Bool.not_eq_true', decide_eq_false_iff_not] at h
    rcases h with h | h
    · exact h c1
    · exact any_neg.1 h c2
  have hcut : CutOk n c := by
    simp only [hok, decide_true, Bool.not_true, Bool.false_or, Bool.or_eq_false_iff, Bool.not_eq_false', decide_eq_true_eq] at h
    refine ⟨h.1, Classical.byContradiction fun hc => ?_⟩
    have := any_neg.2 hc
    rw [h.2] at this; cases this
  refine (f85_t hok).bind fun s hs => ?_
  have hn : n.toNat = c.length := by have := hcut.1; omega
  rw [toNat_len, hs.1, hn]
  refine (tot_rngx (fun i _ => ∀ p : Nat, p < i → c.getD p 0 ≤ cnt l p l.length) (fun _ => ¬ CutIn l c) (fun p hp => absurd hp (by omega)) fun i _ hi H => ?_).bind fun o ho => ?_
  · unfold f63_b0
    refine tot_ix (by omega) (tot_ix hi ?_)
    have e : s.getD i default = cnt l i l.length := hs.2 i (by omega)
    rw [e]
    refine tot_if (fun h => tot_some (.inr ⟨_, rfl, fun k => ?_⟩)) (fun h => tot_some (.inl ⟨_, rfl, fun p hp => ?_⟩))
    · have h1 := k i hi
      have h2 : (cnt l i l.length : Int) < c.getD i 0 := of_decide_eq_true h
      omega
    · rcases Nat.lt_or_ge p i with k | k
      · exact H p k
      · have h2 : ¬ (cnt l i l.length : Int) < c.getD i 0 := of_decide_eq_false h
        rw [show p = i by omega]; omega
  · rcases ho with ⟨⟨⟩, rfl, h⟩ | ⟨⟨⟩, rfl, h⟩
    · exact tot_some (.inr (.inr ⟨hok, hcut, h, rfl⟩))
    · exact tot_some (.inr (.inl ⟨hok, hcut, h, rfl⟩))
theorem f47_one (n : Int) (c : List Int) : f47 n [c] = some (decide ((c.length : Int) = n) && !c.any neg) := by
  unfold f47
  have hl : Int.toNat (List.length [c] : Int) = 1 := rfl
  rw [hl]
  have e0 : rng (f47_b1 c) (Int.toNat (c.length : Int)) 0 () = some (if c.any neg then .inr () else .inl ()) := by rw [toNat_len]; exact f47_in c
  have g0 : f47_b0 n [c] 0 () = some (if decide ((c.length : Int) = n) && !c.any neg then .inl () else .inr ()) := by
    unfold f47_b0
    have : ix [c] 0 = some c := rfl
    rw [this]
    simp only [Option.bind_some]
    rw [e0]
    cases decide ((c.length : Int) = n) <;> cases c.any neg <;> simp
  simp only [rng, g0]
  cases decide ((c.length : Int) = n) <;> cases c.any neg <;> simp
theorem f65_t (n : Int) (l : List Act) (c : List Int) (hR : RA l) : Tot (f65 n l c) (CutErr n l c) := by
  unfold f65
  rw [valid_r n l hR, f47_one]
  simp only [Option.bind_some, Option.isSome_some, Bool.or_true, cond_true, Option.getD_some]
  by_cases hok : Ok n l
  rotate_left
  · refine tot_if (fun h => tot_some (.inl ⟨fun h => hok h.1, rfl⟩)) (fun h => ?_)
    simp [hok] at h
  have hcut : (decide ((c.length : Int) = n) && !c.any neg) = true ↔ CutOk n c := by
    rw [Bool.and_eq_true, decide_eq_true_eq, Bool.not_eq_true', ← Bool.not_eq_true, any_neg]
    exact ⟨fun h => ⟨h.1, Classical.byContradiction h.2⟩, fun h => ⟨h.1, fun k => k h.2⟩⟩
  refine tot_if (fun h => ?_) (fun h => ?_)
  · refine tot_some (.inl ⟨fun k => ?_, rfl⟩)
    simp only [hok, decide_true, Bool.not_true, Bool.false_or, hcut.2 k.2] at h
    cases h
  have hc : CutOk n c := by
    refine hcut.1 ?_
    simp only [hok, decide_true, Bool.not_true, Bool.false_or] at h
    simpa using h
  obtain ⟨n1, n2⟩ := hok.n
  refine tot_need (mkOk_t (by omega) (by omega)) ?_
  rw [toNat_len]
  refine (count_t hok (fun i s => rfl)).bind fun o ho => ?_
  obtain ⟨s, rfl, h1, h2⟩ := ho
  simp only
  have hn : n.toNat = c.length := by have := hc.1; omega
  rw [toNat_len]
  refine (tot_rngx (fun i _ => ∀ p : Nat, p < i → c.getD p 0 ≤ cnt l p l.length) (fun _ => ¬ CutIn l c) (fun p hp => absurd hp (by omega)) fun i _ hi H => ?_).bind fun o ho => ?_
  · unfold f65_b1
    refine tot_ix hi (tot_ix (by omega) ?_)
    have e : s.getD i default = cnt l i l.length := h2 i (by omega)
    rw [e]
    refine tot_if (fun h => tot_some (.inr ⟨_, rfl, fun k => ?_⟩)) (fun h => tot_some (.inl ⟨_, rfl, fun p hp => ?_⟩))
    · have h1 := k i hi
      have h2 : (cnt l i l.length : Int) < c.getD i 0 := of_decide_eq_true h
      omega
    · rcases Nat.lt_or_ge p i with k | k
      · exact H p k
      · have h2 : ¬ (cnt l i l.length : Int) < c.getD i 0 := of_decide_eq_false h
        rw [show p = i by omega]; omega
  · rcases ho with ⟨⟨⟩, rfl, h⟩ | ⟨⟨⟩, rfl, h⟩
    · exact tot_some (.inr (.inr ⟨hok, hc, h, rfl⟩))
    · exact tot_some (.inr (.inl ⟨hok, hc, h, rfl⟩))

/-! consistent cuts -/
theorem f69_t {n : Int} {l : List Act} (hok : Ok n l) {m : List (List Int)} (hm : GClk n l m) {c : List Int} (hc : CutOk n c) {i : Nat} (hi : i < l.length) : Tot (f69 (m.getD i default) c (nd l i)) fun r => (r = true ↔ InC l c i) := by
  have hni := hok.nd i hi
  have ci := hm.2 i hi
  have h1 := hc.1
  unfold f69
  refine tot_ixz hni.1 (by rw [ci.len]; omega) (tot_ixz hni.1 (by omega) (tot_some ?_))
  rw [decide_eq_true_eq]
  have e : (m.getD i default).getD (nd l i).toNat default = (idx l i : Int) := ci.self hi (by omega)
  rw [e]; rfl
theorem f70_t {a b : List Int} (h : a.length = b.length) : Tot (f70 a b) fun r => (r = true ↔ ∀ p, p < a.length → a.getD p 0 ≤ b.getD p 0) := by
  unfold f70
  rw [toNat_len]
  refine (tot_rngx (fun i _ => ∀ p, p < i → a.getD p 0 ≤ b.getD p 0) (fun _ => ∃ p, p < a.length ∧ b.getD p 0 < a.getD p 0) (fun p hp => absurd hp (by omega)) fun i _ hi H => ?_).bind fun o ho => ?_
  · unfold f70_b0
    refine tot_ix hi (tot_ix (by omega) ?_)
    refine tot_if (fun h => tot_some (.inr ⟨_, rfl, i, hi, of_decide_eq_true h⟩)) (fun h => tot_some (.inl ⟨_, rfl, fun p hp => ?_⟩))
    rcases Nat.lt_or_ge p i with k | k
    · exact H p k
    · have := of_decide_eq_false h
      rw [show p = i by omega]
      exact Int.not_lt.1 this
  · rcases ho with ⟨⟨⟩, rfl, h⟩ | ⟨⟨⟩, rfl, p, p1, p2⟩
    · exact tot_some ⟨fun _ => h, fun _ => rfl⟩
    · exact tot_some ⟨fun h => absurd h (by decide), fun h => by have := h p p1; omega⟩
/-- An event's clock is below a cut exactly if the event and all before it are in the cut. -/
theorem below_iff {n : Int} {l : List Act} (hok : Ok n l) {c ck : List Int} (hc : CutOk n c) {i : Nat} (ci : IsClock n.toNat l i ck) : (∀ p, p < ck.length → ck.getD p 0 ≤ c.getD p 0) ↔ ∀ j, j < l.length → (j = i ∨ Pst l j i) → InC l c j := by
  have hnd := hok.nd
  rw [ci.len]
  constructor
  · intro h j hj hp
    have hnj := hnd j hj
    exact Int.le_trans ((ci.iff j hj).1 hp) (h _ (by omega))
  · intro h p hp
    have h0 := ci.rg p hp
    have h1 := hc.1
    have h2 := hc.2 p (by omega)
    rcases Int.lt_or_le 0 (ck.getD p 0) with k | k
    · obtain ⟨j, h4, h5, h6⟩ := idx_ex (l := l) (p := (p : Int)) (m := (ck.getD p 0).toNat) (N := l.length) (by omega) (by omega)
      have h7 := h j h4 ((ci.iff j h4).2 (by rw [h5, h6, Int.toNat_natCast]; omega))
      unfold InC at h7
      rw [h5, h6, Int.toNat_natCast] at h7
      omega
    · omega
theorem f64_t {n : Int} {l : List Act} (hok : Ok n l) {m : List (List Int)} (hm : GClk n l m) {c : List Int} (hc : CutOk n c) : Tot (f64 l m c) fun r => (r = true ↔ Cons l c) := by
  unfold f64
  rw [toNat_len]
  refine (tot_rngx (fun i _ => ∀ b, b < i → InC l c b → ∀ a, Pst l a b → InC l c a) (fun _ => ¬ Cons l c) (fun p hp => absurd hp (by omega)) fun i _ hi H => ?_).bind fun o ho => ?_
  · unfold f64_b0
    have ci := hm.2 i hi
    refine tot_ix hi (tot_ix (by rw [hm.1]; exact hi) ?_)
    have e : (l.getD i default).1 = nd l i := rfl
    rw [e]
    refine (f69_t hok hm hc hi).bind fun x10 h10 => ?_
    rw [ix_getD (show i < m.length by rw [hm.1]; exact hi)]
    simp only [Option.isSome_some, Bool.or_true, cond_true, Option.getD_some]
    have h1 := hc.1
    obtain ⟨r, e2, hr⟩ := f70_t (a := m.getD i default) (b := c) (by rw [ci.len]; omega)
    rw [e2]
    rw [below_iff hok hc ci] at hr
    simp only [Option.isSome_some, Bool.or_true, cond_true, Option.getD_some]
    refine tot_if (fun h => tot_some (.inr ⟨_, rfl, fun k => ?_⟩)) (fun h => tot_some (.inl ⟨_, rfl, fun b hb hin a ha => ?_⟩))
    · simp only [Bool.and_eq_true, Bool.not_eq_true'] at h
      have hin := h10.1 h.1
      have : r = true := hr.2 fun j hj hp => by
        rcases hp with rfl | hp
        · exact hin
        · exact k i hi hin j hp
      rw [this] at h; exact absurd h.2 (by decide)
    · rcases Nat.lt_or_ge b i with k | k
      · exact H b k hin a ha
      · have eb : b = i := by omega
        subst eb
        rw [h10.2 hin, Bool.true_and, Bool.not_eq_false'] at h
        exact hr.1 h a (by have := ha.lt; omega) (.inr ha)
  · rcases ho with ⟨⟨⟩, rfl, h⟩ | ⟨⟨⟩, rfl, h⟩
    · exact tot_some ⟨fun _ => h, fun _ => rfl⟩
    · exact tot_some ⟨fun h => absurd h (by decide), fun k => absurd k h⟩
/-- Consistent. -/
theorem f32_t (n : Int) (l : List Act) (c : List Int) : Tot (f32 n l c) fun r => CutErr n l c r.2 ∧ (r.2 ≠ 0 → r.1 = false) ∧ (r.2 = 0 → (r.1 = true ↔ Cons l c)) := by
  unfold f32
  refine (f63_t n l c).bind fun x hx => ?_
  refine tot_if (fun h => ?_) (fun h => ?_)
  · simp only [Bool.not_eq_true', decide_eq_false_iff_not] at h
    exact tot_some ⟨hx, fun _ => rfl, fun k => absurd k h⟩
  · simp only [Bool.not_eq_false', decide_eq_true_eq] at h
    subst h
    obtain ⟨hok, hc, hi⟩ := hx.zero
    refine (f52_t hok).bind fun m hm => (f64_t hok hm hc).bind fun r hr => ?_
    exact tot_some ⟨hx, fun k => absurd rfl k, fun _ => hr⟩
/-- The place of each event. -/
theorem f67_t {n : Int} {l : List Act} (hok : Ok n l) : Tot (f67 n l) fun s => s.length = l.length ∧ ∀ j, j < l.length → s.getD j default = (idx l j : Int) := by
  have hN := hok.len
  obtain ⟨n1, n2⟩ := hok.n
  have hnd := hok.nd
  unfold f67
  refine tot_need (mkOk_t (by omega) (by omega)) ?_
  rw [toNat_len]
  refine (tot_rng (fun i (s : List Int × List Int) => s.1.length = n.toNat ∧ (∀ p, p < n.toNat → s.1.getD p 0 = cnt l p i) ∧ s.2.length = i ∧ ∀ j, j < i → s.2.getD j default = (idx l j : Int)) ⟨by simp, fun p hp => by rw [getD_rep hp]; rfl, rfl, fun j hj => absurd hj (by omega)⟩ fun i s hi H => ?_).bind fun o ho => ?_
  · obtain ⟨H1, H2, H3, H4⟩ := H
    obtain ⟨s4, s5⟩ := s
    simp only at H1 H2 H3 H4
    have hni := hnd i hi
    unfold f67_b0
    refine tot_ix hi ?_
    have e : (l.getD i default).1 = nd l i := rfl
    rw [e]
    refine tot_ixz hni.1 (by omega) ?_
    have hv := H2 (nd l i).toNat (by omega)
    have hc := cnt_le (l := l) (p := ((nd l i).toNat : Nat)) (a := i)
    have hw : w64 (s4.getD (nd l i).toNat default + 1) = s4.getD (nd l i).toNat 0 + 1 := w64_id (by
      show R64 (s4.getD (nd l i).toNat 0 + 1)
      rw [hv]; constructor <;> omega)
    rw [hw]
    refine tot_ixz hni.1 (by simp; omega) ?_
    rw [getD_set (by omega), if_pos rfl]
    refine tot_need (ap8 (by omega) (by simp)) (tot_some ⟨_, rfl, by simp [H1], fun p hp => ?_, by simp [H3], fun j hj => ?_⟩)
    · rw [getD_set (by omega)]
      simp only [cnt]
      by_cases e : (nd l i).toNat = p
      · rw [if_pos e, if_pos (by omega), hv, e]; omega
      · rw [if_neg e, if_neg (by omega), H2 p hp]; omega
    · rw [getD_app]
      split
      · exact H4 j (by omega)
      · rw [show j = i by omega, H3, Nat.sub_self]
        show s4.getD (nd l i).toNat 0 + 1 = _
        rw [hv, idx_eq, show (((nd l i).toNat : Nat) : Int) = nd l i by omega]; omega
  · obtain ⟨⟨s4, s5⟩, rfl, _, _, h3, h4⟩ := ho
    exact tot_some ⟨h3, h4⟩
theorem f66_t {n : Int} {l : List Act} (hok : Ok n l) {at' : List Int} (ha : at'.length = l.length ∧ ∀ j, j < l.length → at'.getD j default = (idx l j : Int)) {P : List (List Bool)} (hP : GMat l P) {c : List Int} (hc : CutOk n c) : Tot (f66 l at' P c) fun r => (r = true ↔ Cons l c) := by
  have hnd := hok.nd
  have h1 := hc.1
  unfold f66
  rw [toNat_len]
  refine (tot_rngx (fun i _ => ∀ b, b < i → InC l c b → ∀ a, Pst l a b → InC l c a) (fun _ => ¬ Cons l c) (fun p hp => absurd hp (by omega)) fun i _ hi H => ?_).bind fun o ho => ?_
  · unfold f66_b0
    have hni := hnd i hi
    have e : (l.getD i default).1 = nd l i := rfl
    refine Tot.bind (Q := fun o => (o = .inl () ∧ (InC l c i → ∀ a, Pst l a i → InC l c a)) ∨ (o = .inr () ∧ ¬ Cons l c)) ?_ fun o ho => ?_
    · refine tot_ix hi (tot_ix (by omega) ?_)
      rw [e]
      refine tot_ixz hni.1 (by omega) ?_
      rw [ha.2 i hi]
      refine tot_if (fun h => tot_some (.inl ⟨rfl, fun k => ?_⟩)) (fun h => ?_)
      · have : c.getD (nd l i).toNat 0 < (idx l i : Int) := of_decide_eq_true h
        unfold InC at k; omega
      have hin : InC l c i := Int.not_lt.1 (of_decide_eq_false h)
      obtain ⟨g1, g2⟩ := hP.2 i hi
      refine tot_ix (by rw [hP.1]; exact hi) ?_
      rw [toNat_len, g1]
      refine (tot_rngx (fun k _ => ∀ a, a < k → Pst l a i → InC l c a) (fun _ => ¬ Cons l c) (fun a hk => absurd hk (by omega)) fun k _ hk H => ?_).bind fun o ho => ?_
      · unfold f66_b1
        have hnk := hnd k hk
        have ek : (l.getD k default).1 = nd l k := rfl
        refine tot_ix (by omega) ?_
        rw [ix_getD (show k < at'.length by omega), ix_getD hk]
        simp only [Option.isSome_some, Bool.or_true, cond_true, Option.getD_some, ek]
        rw [ix_int hnk.1 (by omega), ha.2 k hk]
        simp only [Option.isSome_some, Bool.or_true, cond_true, Option.getD_some]
        refine tot_if (fun h => tot_some (.inr ⟨_, rfl, fun hcons => ?_⟩)) (fun h => tot_some (.inl ⟨_, rfl, fun a hk' hp => ?_⟩))
        · simp only [Bool.and_eq_true, decide_eq_true_eq] at h
          have h2 := hcons i hi hin k ((g2 k hk).1 h.1)
          have h3 : c.getD (nd l k).toNat 0 < (idx l k : Int) := h.2
          unfold InC at h2; omega
        · rcases Nat.lt_or_ge a k with c1 | c1
          · exact H a c1 hp
          · have ea : a = k := by omega
            subst ea
            rw [(g2 a hk).2 hp, Bool.true_and] at h
            exact Int.not_lt.1 (of_decide_eq_false h)
      · rcases ho with ⟨⟨⟩, rfl, h⟩ | ⟨⟨⟩, rfl, h⟩
        · exact tot_some (.inl ⟨rfl, fun _ a hp => h a (by have := hp.lt; omega) hp⟩)
        · exact tot_some (.inr ⟨rfl, h⟩)
    · rcases ho with ⟨rfl, h⟩ | ⟨rfl, h⟩
      · refine tot_some (.inl ⟨_, rfl, fun b hb hin a hp => ?_⟩)
        rcases Nat.lt_or_ge b i with k | k
        · exact H b k hin a hp
        · have eb : b = i := by omega
          subst eb
          exact h hin a hp
      · exact tot_some (.inr ⟨_, rfl, h⟩)
  · rcases ho with ⟨⟨⟩, rfl, h⟩ | ⟨⟨⟩, rfl, h⟩
    · exact tot_some ⟨fun _ => h, fun _ => rfl⟩
    · exact tot_some ⟨fun h => absurd h (by decide), fun k => absurd k h⟩
theorem f33_t (n : Int) (l : List Act) (c : List Int) (hR : RA l) : Tot (f33 n l c) fun r => CutErr n l c r.2 ∧ (r.2 ≠ 0 → r.1 = false) ∧ (r.2 = 0 → (r.1 = true ↔ Cons l c)) := by
  unfold f33
  refine (f65_t n l c hR).bind fun x hx => ?_
  refine tot_if (fun h => ?_) (fun h => ?_)
  · simp only [Bool.not_eq_true', decide_eq_false_iff_not] at h
    exact tot_some ⟨hx, fun _ => rfl, fun k => absurd k h⟩
  · simp only [Bool.not_eq_false', decide_eq_true_eq] at h
    subst h
    obtain ⟨hok, hc, hi⟩ := hx.zero
    refine (f67_t hok).bind fun s hs => (f23_t hok.len).bind fun P hP => (f66_t hok hs hP hc).bind fun r hr => ?_
    exact tot_some ⟨hx, fun k => absurd rfl k, fun _ => hr⟩
theorem cons_eq (n : Int) (l : List Act) (c : List Int) (hR : RA l) : ∃ r, f32 n l c = some r ∧ f33 n l c = some r ∧ CutErr n l c r.2 ∧ (r.2 ≠ 0 → r.1 = false) ∧ (r.2 = 0 → (r.1 = true ↔ Cons l c)) := by
  obtain ⟨r, h1, h2, h3, h4⟩ := f32_t n l c
  obtain ⟨q, k1, k2, k3, k4⟩ := f33_t n l c hR
  have e2 := h2.uniq k2
  have e1 : r.1 = q.1 := by
    by_cases hz : r.2 = 0
    · have a := h4 hz
      have b := k4 (by rw [← e2]; exact hz)
      cases hr : r.1 <;> cases hq : q.1
      · rfl
      · exact absurd (a.2 (b.1 hq)) (by rw [hr]; decide)
      · exact absurd (b.2 (a.1 hr)) (by rw [hq]; decide)
      · rfl
    · rw [h3 hz, k3 (by rw [← e2]; exact hz)]
  exact ⟨r, h1, by rw [k1, Prod.ext e1 e2], h2, h3, h4⟩
end Go.Ab

set_option linter.unusedVariables false
namespace Go.Ab

/-! layer 29: the least cut that has some events -/
def InR (l : List Act) (es : List Int) : Prop := ∀ x, x < es.length → 0 ≤ es.getD x default ∧ es.getD x default < l.length
def AskErr (n : Int) (l : List Act) (es : List Int) (r : Int) : Prop := (¬ Ok n l ∧ r = 1) ∨ (Ok n l ∧ ¬ InR l es ∧ r = 7) ∨ (Ok n l ∧ InR l es ∧ r = 0)
theorem AskErr.uniq {n : Int} {l : List Act} {c : List Int} {r q : Int} (h : AskErr n l c r) (k : AskErr n l c q) : r = q := by
  rcases h with ⟨h1, h2⟩ | ⟨h1, h3, h4⟩ | ⟨h1, h3, h4⟩ <;> rcases k with ⟨k1, k2⟩ | ⟨k1, k3, k4⟩ | ⟨k1, k3, k4⟩
  · rw [h2, k2]
  · exact absurd k1 h1
  · exact absurd k1 h1
  · exact absurd h1 k1
  · rw [h4, k4]
  · exact absurd k3 h3
  · exact absurd h1 k1
  · exact absurd h3 k3
  · rw [h4, k4]
theorem AskErr.zero {n : Int} {l : List Act} {c : List Int} (h : AskErr n l c 0) : Ok n l ∧ InR l c := by
  rcases h with ⟨h1, h2⟩ | ⟨h1, h3, h4⟩ | ⟨h1, h3, h4⟩
  · exact absurd h2 (by decide)
  · exact absurd h4 (by decide)
  · exact ⟨h1, h3⟩
theorem f57_t (n : Int) (l : List Act) (es : List Int) : Tot (f57 n l es) (AskErr n l es) := by
  unfold f57
  rw [valid_p]
  have hq : f75 es (fun y1 => f81 y1 l) = some (es.any fun x => decide (x < 0) || decide ((l.length : Int) ≤ x)) := f75_any es _
  rw [hq]
  simp only [Option.bind_some]
  by_cases hok : Ok n l
  rotate_left
  · refine tot_if (fun h => tot_some (.inl ⟨hok, rfl⟩)) (fun h => ?_)
    simp [hok] at h
  refine tot_if (fun h => by simp [hok] at h) (fun _ => ?_)
  refine tot_if (fun h => ?_) (fun h => ?_)
  · obtain ⟨x, hx, h⟩ := List.any_eq_true.1 h
    obtain ⟨j, j1, rfl⟩ := mem_getD default hx
    simp only [Bool.or_eq_true, decide_eq_true_eq] at h
    exact tot_some (.inr (.inl ⟨hok, fun k => by have := k j j1; omega, rfl⟩))
  · refine tot_some (.inr (.inr ⟨hok, fun x hx => ?_, rfl⟩))
    have := List.any_eq_false.1 h _ (getD_mem (d := default) hx)
    simp only [Bool.or_eq_true, decide_eq_true_eq, not_or] at this
    omega
theorem f53_t (n : Int) (l : List Act) (es : List Int) (hR : RA l) : Tot (f53 n l es) (AskErr n l es) := by
  unfold f53
  rw [valid_r n l hR]
  simp only [Option.bind_some]
  by_cases hok : Ok n l
  rotate_left
  · refine tot_if (fun h => tot_some (.inl ⟨hok, rfl⟩)) (fun h => ?_)
    simp [hok] at h
  refine tot_if (fun h => by simp [hok] at h) (fun _ => ?_)
  rw [toNat_len]
  refine (tot_rngx (fun k _ => ∀ x, x < k → 0 ≤ es.getD x default ∧ es.getD x default < l.length) (fun _ => ¬ InR l es) (fun a hk => absurd hk (by omega)) fun k _ hk H => ?_).bind fun o ho => ?_
  · unfold f53_b0
    refine tot_ix hk ?_
    refine tot_if (fun h => tot_some (.inr ⟨_, rfl, fun k' => ?_⟩)) (fun h => tot_some (.inl ⟨_, rfl, fun x hx => ?_⟩))
    · simp only [Bool.or_eq_true, decide_eq_true_eq] at h
      have := k' k hk; omega
    · simp only [Bool.or_eq_false_iff, decide_eq_false_iff_not] at h
      rcases Nat.lt_or_ge x k with c | c
      · exact H x c
      · rw [show x = k by omega]; omega
  · rcases ho with ⟨⟨⟩, rfl, h⟩ | ⟨⟨⟩, rfl, h⟩
    · exact tot_some (.inr (.inr ⟨hok, h, rfl⟩))
    · exact tot_some (.inr (.inl ⟨hok, h, rfl⟩))
/-- A list has just the events of 'R', and those of their nodes ahead of them. -/
structure LeastG (n : Nat) (l : List Act) (R : Nat → Prop) (c : List Int) : Prop where
  len : c.length = n
  pos : ∀ p, p < n → 0 ≤ c.getD p 0
  has : ∀ a, a < l.length → R a → (idx l a : Int) ≤ c.getD (nd l a).toNat 0
  of : ∀ p, p < n → c.getD p 0 = 0 ∨ ∃ a, a < l.length ∧ R a ∧ nd l a = p ∧ c.getD p 0 = idx l a
theorem LeastG.congr {n : Nat} {l : List Act} {R S : Nat → Prop} {c : List Int} (h : LeastG n l R c) (hRS : ∀ a, a < l.length → (R a ↔ S a)) : LeastG n l S c :=
  ⟨h.len, h.pos, fun a ha hs => h.has a ha ((hRS a ha).2 hs), fun p hp => (h.of p hp).imp id fun ⟨a, a1, a2, a3, a4⟩ => ⟨a, a1, (hRS a a1).1 a2, a3, a4⟩⟩
theorem LeastG.uniq {n : Nat} {l : List Act} {R : Nat → Prop} {c d : List Int} (h : LeastG n l R c) (k : LeastG n l R d) : c = d := by
  have key : ∀ {c d : List Int}, LeastG n l R c → LeastG n l R d → ∀ p, p < n → c.getD p 0 ≤ d.getD p 0 := by
    intro c d h k p hp
    rcases h.of p hp with h1 | ⟨a, a1, a2, a3, a4⟩
    · rw [h1]; exact k.pos p hp
    · have := k.has a a1 a2
      rw [a3, Int.toNat_natCast] at this
      rw [a4]; exact this
  exact ext_getD 0 (h.len.trans k.len.symm) fun p hp => Int.le_antisymm (key h k p (by rw [← h.len]; exact hp)) (key k h p (by rw [← h.len]; exact hp))
theorem LeastG.nil {n : Nat} {l : List Act} : LeastG n l (fun _ => False) (List.replicate n 0) :=
  ⟨by simp, fun p hp => by rw [getD_rep hp]; exact Int.le_refl _, fun a _ h => h.elim, fun p hp => .inl (by rw [getD_rep hp])⟩
theorem LeastG.add {n : Nat} {l : List Act} {R : Nat → Prop} {c : List Int} (h : LeastG n l R c) {b : Nat} (hb : b < l.length) (hn : 0 ≤ nd l b ∧ nd l b < n) :
    LeastG n l (fun a => R a ∨ a = b) (c.set (nd l b).toNat (max (c.getD (nd l b).toNat 0) (idx l b))) := by
  have hlt : (nd l b).toNat < c.length := by rw [h.len]; omega
  refine ⟨by simp [h.len], fun p hp => ?_, fun a ha hr => ?_, fun p hp => ?_⟩
  · rw [getD_set hlt]
    split
    · omega
    · exact h.pos p hp
  · rw [getD_set hlt]
    split
    · rename_i e
      rcases hr with hr | rfl
      · have := h.has a ha hr; rw [← e] at this; omega
      · omega
    · rename_i e
      rcases hr with hr | rfl
      · exact h.has a ha hr
      · exact absurd rfl e
  · rw [getD_set hlt]
    split
    · rename_i e
      subst e
      rcases Int.le_total (c.getD (nd l b).toNat 0) (idx l b) with k | k
      · exact .inr ⟨b, hb, .inr rfl, by omega, by omega⟩
      · rw [Int.max_eq_left k]
        rcases h.of _ hp with h1 | ⟨a, a1, a2, a3⟩
        · exact .inl h1
        · exact .inr ⟨a, a1, .inl a2, a3⟩
    · rcases h.of p hp with h1 | ⟨a, a1, a2, a3⟩
      · exact .inl h1
      · exact .inr ⟨a, a1, .inl a2, a3⟩
theorem LeastG.mx {n : Nat} {l : List Act} {R : Nat → Prop} {c d : List Int} (h : LeastG n l R c) {b : Nat} (k : IsClock n l b d) (hn : ∀ a, a < l.length → 0 ≤ nd l a ∧ nd l a < n) :
    LeastG n l (fun a => R a ∨ (a = b ∨ Pst l a b)) (mx c d) := by
  have hl : c.length = d.length := by rw [h.len, k.len]
  have hg : ∀ p, p < n → (Go.Ab.mx c d).getD p 0 = max (c.getD p 0) (d.getD p 0) := fun p hp => getD_mx hl (by rw [h.len]; exact hp)
  refine ⟨by rw [mx_len hl, h.len], fun p hp => ?_, fun a ha hr => ?_, fun p hp => ?_⟩
  · have := h.pos p hp; rw [hg p hp]; omega
  · have := hn a ha
    rw [hg _ (by omega)]
    rcases hr with hr | hr
    · have := h.has a ha hr; omega
    · have := (k.iff a ha).1 hr; omega
  · rw [hg p hp]
    have k0 := k.rg p hp
    rcases Int.le_total (d.getD p 0) (c.getD p 0) with q | q
    · rw [Int.max_eq_left q]
      rcases h.of p hp with h1 | ⟨a, a1, a2, a3⟩
      · exact .inl h1
      · exact .inr ⟨a, a1, .inl a2, a3⟩
    · rw [Int.max_eq_right q]
      rcases Int.lt_or_le 0 (d.getD p 0) with q0 | q0
      · obtain ⟨j, h4, h5, h6⟩ := idx_ex (l := l) (p := (p : Int)) (m := (d.getD p 0).toNat) (N := l.length) (by omega) (by omega)
        exact .inr ⟨j, h4, .inr ((k.iff j h4).2 (by rw [h5, h6, Int.toNat_natCast]; omega)), h5, by omega⟩
      · exact .inl (by omega)
/-- The events asked for, with what is before them. -/
def Asked (l : List Act) (es : List Int) (k : Nat) (a : Nat) : Prop := ∃ x, x < k ∧ (a = (es.getD x default).toNat ∨ Pst l a (es.getD x default).toNat)
theorem asked_succ {l : List Act} {es : List Int} {k a : Nat} : Asked l es (k + 1) a ↔ Asked l es k a ∨ (a = (es.getD k default).toNat ∨ Pst l a (es.getD k default).toNat) := by
  constructor
  · rintro ⟨x, x1, x2⟩
    rcases Nat.lt_or_ge x k with c | c
    · exact .inl ⟨x, c, x2⟩
    · rw [show x = k by omega] at x2; exact .inr x2
  · rintro (⟨x, x1, x2⟩ | x2)
    · exact ⟨x, by omega, x2⟩
    · exact ⟨k, by omega, x2⟩
def LeastR (n : Int) (l : List Act) (es : List Int) (r : List Int × Int) : Prop := AskErr n l es r.2 ∧ (r.2 ≠ 0 → r.1 = []) ∧ (r.2 = 0 → LeastG n.toNat l (Asked l es es.length) r.1)
theorem LeastR.uniq {n : Int} {l : List Act} {es : List Int} {r q : List Int × Int} (h : LeastR n l es r) (k : LeastR n l es q) : r = q := by
  have e2 := h.1.uniq k.1
  refine Prod.ext ?_ e2
  by_cases hz : r.2 = 0
  · exact (h.2.2 hz).uniq (k.2.2 (by rw [← e2]; exact hz))
  · rw [h.2.1 hz, k.2.1 (by rw [← e2]; exact hz)]
theorem f34_t (n : Int) (l : List Act) (es : List Int) : Tot (f34 n l es) (LeastR n l es) := by
  unfold f34
  refine (f57_t n l es).bind fun x hx => ?_
  refine tot_if (fun h => ?_) (fun h => ?_)
  · simp only [Bool.not_eq_true', decide_eq_false_iff_not] at h
    exact tot_some ⟨hx, fun _ => rfl, fun k => absurd k h⟩
  simp only [Bool.not_eq_false', decide_eq_true_eq] at h
  subst h
  obtain ⟨hok, hin⟩ := hx.zero
  have hnd := hok.nd
  obtain ⟨n1, n2⟩ := hok.n
  refine (f52_t hok).bind fun m hm => tot_need (mkOk_t (by omega) (by omega)) ?_
  rw [toNat_len]
  refine (tot_rng (fun k c => LeastG n.toNat l (Asked l es k) c) (LeastG.nil.congr fun a _ => ⟨False.elim, fun ⟨x, h, _⟩ => absurd h (by omega)⟩) fun k c hk H => ?_).bind fun o ho => ?_
  · unfold f34_b0
    have hr := hin k hk
    refine tot_ix hk (tot_ixz hr.1 (by rw [hm.1]; exact hr.2) ?_)
    have ck := hm.2 (es.getD k default).toNat (by omega)
    rw [f48_ok (by rw [H.len, ck.len]) (by rw [H.len]; omega)]
    exact tot_some ⟨_, rfl, (H.mx ck (fun a ha => by have := hnd a ha; omega)).congr fun a _ => asked_succ.symm⟩
  · obtain ⟨c, rfl, h⟩ := ho
    exact tot_some ⟨hx, fun k => absurd rfl k, fun _ => h⟩
theorem f35_t (n : Int) (l : List Act) (es : List Int) (hR : RA l) : Tot (f35 n l es) (LeastR n l es) := by
  unfold f35
  refine (f53_t n l es hR).bind fun x hx => ?_
  refine tot_if (fun h => ?_) (fun h => ?_)
  · simp only [Bool.not_eq_true', decide_eq_false_iff_not] at h
    exact tot_some ⟨hx, fun _ => rfl, fun k => absurd k h⟩
  simp only [Bool.not_eq_false', decide_eq_true_eq] at h
  subst h
  obtain ⟨hok, hin⟩ := hx.zero
  have hnd := hok.nd
  obtain ⟨n1, n2⟩ := hok.n
  refine (f67_t hok).bind fun at' ha => (f23_t hok.len).bind fun P hP => tot_need (mkOk_t (by omega) (by omega)) ?_
  rw [toNat_len]
  refine (tot_rng (fun k c => LeastG n.toNat l (Asked l es k) c) (LeastG.nil.congr fun a _ => ⟨False.elim, fun ⟨x, h, _⟩ => absurd h (by omega)⟩) fun k c hk H => ?_).bind fun o ho => ?_
  · unfold f35_b0
    have hr := hin k hk
    obtain ⟨b, eb⟩ : ∃ b : Nat, es.getD k default = b := ⟨(es.getD k default).toNat, by omega⟩
    refine tot_ix hk ?_
    rw [eb] at hr ⊢
    have hb : b < l.length := by omega
    have hnb := hnd b hb
    have enb : (l.getD b default).1 = nd l b := rfl
    refine tot_ix hb ?_
    rw [enb]
    refine tot_ixz hnb.1 (by rw [H.len]; omega) (tot_ix (by omega) (tot_ix (by rw [hP.1]; exact hb) ?_))
    obtain ⟨g1, g2⟩ := hP.2 b hb
    rw [toNat_len, g1, ha.2 b hb]
    refine (tot_rng (fun j c => LeastG n.toNat l (fun a => (Asked l es k a ∨ a = b) ∨ (a < j ∧ Pst l a b)) c) ((H.add hb (by omega)).congr fun a _ => ⟨.inl, fun h => h.elim id fun h => absurd h.1 (by omega)⟩) fun j c hj H => ?_).bind fun o ho => ?_
    · unfold f35_b1
      have hnj := hnd j hj
      have enj : (l.getD j default).1 = nd l j := rfl
      refine Tot.bind (Q := fun o => ∃ s', o = .inl s' ∧ LeastG n.toNat l (fun a => (Asked l es k a ∨ a = b) ∨ (a < j + 1 ∧ Pst l a b)) s') ?_ fun o ho => ?_
      · refine tot_ix (by omega) ?_
        refine tot_if (fun h => ?_) (fun h => ?_)
        · have hp := (g2 j hj).1 h
          refine tot_ix hj ?_
          rw [enj]
          refine tot_ixz hnj.1 (by rw [H.len]; omega) (tot_ix (by omega) ?_)
          rw [ha.2 j hj]
          refine tot_some ⟨_, rfl, (H.add hj (by omega)).congr fun a _ => ?_⟩
          constructor
          · rintro ((h | ⟨h1, h2⟩) | rfl)
            · exact .inl h
            · exact .inr ⟨by omega, h2⟩
            · exact .inr ⟨by omega, hp⟩
          · rintro (h | ⟨h1, h2⟩)
            · exact .inl (.inl h)
            · rcases Nat.lt_or_ge a j with c | c
              · exact .inl (.inr ⟨c, h2⟩)
              · exact .inr (by omega)
        · refine tot_some ⟨_, rfl, H.congr fun a _ => ?_⟩
          constructor
          · rintro (h | ⟨h1, h2⟩)
            · exact .inl h
            · exact .inr ⟨by omega, h2⟩
          · rintro (h1 | ⟨h1, h2⟩)
            · exact .inl h1
            · rcases Nat.lt_or_ge a j with c | c
              · exact .inr ⟨c, h2⟩
              · rw [show a = j by omega] at h2; rw [(g2 j hj).2 h2] at h; cases h
      · obtain ⟨s', rfl, h⟩ := ho
        exact tot_some ⟨_, rfl, h⟩
    · obtain ⟨c, rfl, h⟩ := ho
      refine tot_some ⟨_, rfl, h.congr fun a _ => ?_⟩
      rw [asked_succ, eb, Int.toNat_natCast]
      constructor
      · rintro ((h | h) | ⟨_, h⟩)
        · exact .inl h
        · exact .inr (.inl h)
        · exact .inr (.inr h)
      · rintro (h | h | h)
        · exact .inl (.inl h)
        · exact .inl (.inr h)
        · exact .inr ⟨by have := h.lt; omega, h⟩
  · obtain ⟨c, rfl, h⟩ := ho
    exact tot_some ⟨hx, fun k => absurd rfl k, fun _ => h⟩
/-- It is a cut, and consistent. -/
theorem LeastG.cut {n : Int} {l : List Act} (hok : Ok n l) {es : List Int} {k : Nat} {c : List Int} (h : LeastG n.toNat l (Asked l es k) c) : CutOk n c ∧ CutIn l c ∧ Cons l c := by
  obtain ⟨n1, n2⟩ := hok.n
  have hnd := hok.nd
  refine ⟨⟨by rw [h.len]; omega, fun p hp => h.pos p (by rw [← h.len]; exact hp)⟩, fun p hp => ?_, fun b hb hin a hp => ?_⟩
  · rcases h.of p (by rw [← h.len]; exact hp) with h1 | ⟨a, a1, a2, a3, a4⟩
    · rw [h1]; omega
    · rw [a4]
      have := idx_tot (l := l) a1
      rw [a3] at this; omega
  · have hnb := hnd b hb
    unfold InC at hin
    rcases h.of (nd l b).toNat (by omega) with h1 | ⟨x, x1, x2, x3, x4⟩
    · rw [h1] at hin
      have := idx_pos (l := l) (j := b); omega
    · have hnx : nd l x = nd l b := by omega
      have hbx : b = x ∨ Pst l b x := by
        rcases Nat.lt_trichotomy b x with c | c | c
        · exact .inr (pst_same c hnx.symm)
        · exact .inl c
        · have := idx_lt c hnx; omega
      have hax : Pst l a x := by
        rcases hbx with rfl | hbx
        · exact hp
        · exact hp.trans hbx
      obtain ⟨e, e1, e2⟩ := x2
      refine h.has a (by have := hp.lt; omega) ⟨e, e1, ?_⟩
      rcases e2 with e2 | e2
      · rw [e2] at hax; exact .inr hax
      · exact .inr (hax.trans e2)
end Go.Ab

set_option linter.unusedVariables false
namespace Go.Ab

/-- Rounds that come to an end. -/
theorem tot_lrun {S R : Type} {b : S → Option (S ⊕ R)} (Inv : S → Prop) (μ : S → Nat) (Q : R → Prop) (h : ∀ s, Inv s → Tot (b s) fun o => (∃ s', o = .inl s' ∧ Inv s' ∧ μ s' < μ s) ∨ ∃ r, o = .inr r ∧ Q r) : ∀ (k : Nat) (s : S), Inv s → μ s < k → Tot (lrun b k s) Q := by
  intro k
  induction k with
  | zero => intro s _ hk; omega
  | succ k ih =>
    intro s hs hk
    obtain ⟨o, h1, h2⟩ := h s hs
    simp only [lrun, h1, Option.bind_some]
    rcases h2 with ⟨s', rfl, h3, h4⟩ | ⟨r, rfl, h3⟩
    · exact ih s' h3 (by omega)
    · exact tot_some h3

/-! layer 29: the greatest consistent cut within a cut -/
def sumD (c : List Int) : Nat → Int
  | 0 => 0
  | k + 1 => sumD c k + c.getD k 0
theorem sumD_le {c d : List Int} : ∀ {k : Nat}, (∀ p, p < k → c.getD p 0 ≤ d.getD p 0) → sumD c k ≤ sumD d k := by
  intro k
  induction k with
  | zero => intro _; exact Int.le_refl _
  | succ k ih => intro h; have := ih fun p hp => h p (by omega); have := h k (by omega); simp only [sumD]; omega
theorem sumD_nonneg {c : List Int} : ∀ {k : Nat}, (∀ p, p < k → 0 ≤ c.getD p 0) → 0 ≤ sumD c k := by
  intro k
  induction k with
  | zero => intro _; exact Int.le_refl _
  | succ k ih => intro h; have := ih fun p hp => h p (by omega); have := h k (by omega); simp only [sumD]; omega
theorem sumD_set {c : List Int} {q : Nat} {v : Int} (hq : q < c.length) : ∀ {k : Nat}, sumD (c.set q v) k = sumD c k + if q < k then v - c.getD q 0 else 0 := by
  intro k
  induction k with
  | zero => simp [sumD]
  | succ k ih =>
    simp only [sumD, ih, getD_set hq]
    by_cases e : q = k
    · subst e; rw [if_pos rfl, if_neg (by omega), if_pos (by omega)]; omega
    · rw [if_neg e]
      by_cases h : q < k
      · rw [if_pos h, if_pos (by omega)]; omega
      · rw [if_neg h, if_neg (by omega)]; omega
/-- All events together. -/
def sumN (l : List Act) (N : Nat) : Nat → Nat
  | 0 => 0
  | k + 1 => sumN l N k + cnt l k N
theorem sumN_succ {l : List Act} {N : Nat} : ∀ {k : Nat}, sumN l (N + 1) k ≤ sumN l N k + if nd l N < k ∧ 0 ≤ nd l N then 1 else 0 := by
  intro k
  induction k with
  | zero => simp [sumN]
  | succ k ih =>
    simp only [sumN, cnt]
    by_cases e : nd l N = k
    · rw [if_pos e, if_pos (by omega)]
      rw [if_neg (by omega)] at ih
      omega
    · rw [if_neg e]
      by_cases h : nd l N < k ∧ 0 ≤ nd l N
      · rw [if_pos h] at ih; rw [if_pos (by omega)]; omega
      · rw [if_neg h] at ih; rw [if_neg (by omega)]; omega
theorem sumN_le {l : List Act} {k : Nat} : ∀ {N : Nat}, sumN l N k ≤ N := by
  intro N
  induction N with
  | zero =>
    have : ∀ k, sumN l 0 k = 0 := by
      intro k
      induction k with
      | zero => rfl
      | succ k ih => simp [sumN, ih, cnt]
    rw [this]; exact Nat.le_refl _
  | succ N ih =>
    have := sumN_succ (l := l) (N := N) (k := k)
    split at this <;> omega
theorem sumD_cnt {l : List Act} {c : List Int} {N : Nat} : ∀ {k : Nat}, (∀ p : Nat, p < k → c.getD p 0 ≤ cnt l p N) → sumD c k ≤ sumN l N k := by
  intro k
  induction k with
  | zero => intro _; simp [sumD, sumN]
  | succ k ih => intro h; have := ih fun p hp => h p (by omega); have := h k (by omega); simp only [sumD, sumN]; omega

/-- An event is in the cut with all that is before it. -/
def Full (l : List Act) (cut : List Int) (j : Nat) : Prop := ∀ a, (a = j ∨ Pst l a j) → InC l cut a
theorem Full.past {l : List Act} {cut : List Int} {a j : Nat} (h : Full l cut j) (hp : Pst l a j) : Full l cut a := fun b hb => h b (by
  rcases hb with rfl | hb
  · exact .inr hp
  · exact .inr (hb.trans hp))
structure GreatG (n : Nat) (l : List Act) (cut c : List Int) : Prop where
  len : c.length = n
  pos : ∀ p, p < n → 0 ≤ c.getD p 0
  le : ∀ p, p < n → c.getD p 0 ≤ cut.getD p 0
  iff : ∀ j, j < l.length → (InC l c j ↔ Full l cut j)
theorem GreatG.uniq {n : Nat} {l : List Act} {cut c d : List Int} (hcut : ∀ p : Nat, p < n → cut.getD p 0 ≤ cnt l p l.length) (h : GreatG n l cut c) (k : GreatG n l cut d) : c = d := by
  have key : ∀ {c d : List Int}, GreatG n l cut c → GreatG n l cut d → ∀ p, p < n → c.getD p 0 ≤ d.getD p 0 := by
    intro c d h k p hp
    have h1 := h.le p hp
    have h2 := hcut p hp
    have h3 := k.pos p hp
    rcases Int.lt_or_le 0 (c.getD p 0) with q | q
    · obtain ⟨j, h4, h5, h6⟩ := idx_ex (l := l) (p := (p : Int)) (m := (c.getD p 0).toNat) (N := l.length) (by omega) (by omega)
      have h7 := (k.iff j h4).2 ((h.iff j h4).1 (by unfold InC; rw [h5, h6, Int.toNat_natCast]; omega))
      unfold InC at h7
      rw [h5, h6, Int.toNat_natCast] at h7
      omega
    · omega
  exact ext_getD 0 (h.len.trans k.len.symm) fun p hp => Int.le_antisymm (key h k p (by rw [← h.len]; exact hp)) (key k h p (by rw [← h.len]; exact hp))
theorem f68_ok {c : List Int} (h : c.length ≤ 1000) : f68 c = some c := by
  unfold f68
  rw [apOk_t (by simp only [List.length_nil]; omega)]; rfl
/-- Between the greatest one and the cut. -/
structure Mid (n : Nat) (l : List Act) (cut c : List Int) : Prop where
  len : c.length = n
  pos : ∀ p, p < n → 0 ≤ c.getD p 0
  le : ∀ p, p < n → c.getD p 0 ≤ cut.getD p 0
  has : ∀ j, j < l.length → Full l cut j → InC l c j
def GreatR (n : Int) (l : List Act) (cut : List Int) (r : List Int × Int) : Prop := CutErr n l cut r.2 ∧ (r.2 ≠ 0 → r.1 = []) ∧ (r.2 = 0 → GreatG n.toNat l cut r.1)
theorem GreatR.uniq {n : Int} {l : List Act} {es : List Int} {r q : List Int × Int} (h : GreatR n l es r) (k : GreatR n l es q) : r = q := by
  have e2 := h.1.uniq k.1
  refine Prod.ext ?_ e2
  by_cases hz : r.2 = 0
  · have h1 := h.1
    rw [hz] at h1
    obtain ⟨hok, hc, hi⟩ := h1.zero
    have := hc.1
    exact (h.2.2 hz).uniq (fun p hp => hi p (by omega)) (k.2.2 (by rw [← e2]; exact hz))
  · rw [h.2.1 hz, k.2.1 (by rw [← e2]; exact hz)]
theorem f36_t (n : Int) (l : List Act) (cut : List Int) : Tot (f36 n l cut) (GreatR n l cut) := by
  unfold f36
  refine (f63_t n l cut).bind fun x hx => ?_
  refine tot_if (fun h => ?_) (fun h => ?_)
  · simp only [Bool.not_eq_true', decide_eq_false_iff_not] at h
    exact tot_some ⟨hx, fun _ => rfl, fun k => absurd k h⟩
  simp only [Bool.not_eq_false', decide_eq_true_eq] at h
  subst h
  obtain ⟨hok, hc, hi⟩ := hx.zero
  have hnd := hok.nd
  obtain ⟨n1, n2⟩ := hok.n
  have hcl := hc.1
  have hN := hok.len
  refine (f52_t hok).bind fun m hm => ?_
  rw [f68_ok (by omega)]
  simp only [Option.bind_some]
  have hmid : Mid n.toNat l cut cut := ⟨by omega, fun p hp => hc.2 p (by omega), fun p _ => Int.le_refl _, fun j hj hf => hf j (.inl rfl)⟩
  have hsum : sumD cut n.toNat ≤ l.length := by
    have := sumD_cnt (l := l) (c := cut) (N := l.length) (k := n.toNat) (fun p hp => hi p (by omega))
    have := sumN_le (l := l) (k := n.toNat) (N := l.length)
    omega
  refine (tot_lrun (fun s : Bool × List Int => Mid n.toNat l cut s.2 ∧ (s.1 = false → Cons l s.2)) (fun s => if s.1 = true then (sumD s.2 n.toNat).toNat + 1 else 0) (GreatG n.toNat l cut) (fun s hs => ?_) (l.length + 2) (true, cut) ⟨hmid, fun h => by simp at h⟩ ?_).bind fun s hs => tot_some ⟨hx, fun k => absurd rfl k, fun _ => hs⟩
  · obtain ⟨s8, s9⟩ := s
    obtain ⟨hs, hs'⟩ := hs
    simp only at hs hs'
    unfold f36_b0
    simp only
    refine tot_if (fun h => ?_) (fun h => ?_)
    · subst h
      rw [toNat_len]
      refine (tot_rng (fun i (s : Bool × List Int) => Mid n.toNat l cut s.2 ∧ (s.1 = false → s.2 = s9 ∧ ∀ b, b < i → InC l s9 b → ∀ a, Pst l a b → InC l s9 a) ∧ (s.1 = true → sumD s.2 n.toNat < sumD s9 n.toNat)) ⟨hs, fun _ => ⟨rfl, fun b hb => absurd hb (by omega)⟩, fun h => by simp at h⟩ fun i s hi' H => ?_).bind fun o ho => ?_
      · obtain ⟨s18, s20⟩ := s
        obtain ⟨H1, H2, H3⟩ := H
        simp only at H1 H2 H3
        have hni := hnd i hi'
        have eni : (l.getD i default).1 = nd l i := rfl
        have ci := hm.2 i hi'
        have hcs : CutOk n s20 := ⟨by rw [H1.len]; omega, fun p hp => H1.pos p (by rw [← H1.len]; exact hp)⟩
        unfold f36_b1
        simp only
        refine Tot.bind (Q := fun o => ∃ s', o = .inl s' ∧ Mid n.toNat l cut s'.2 ∧ (s'.1 = false → s'.2 = s9 ∧ ∀ b, b < i + 1 → InC l s9 b → ∀ a, Pst l a b → InC l s9 a) ∧ (s'.1 = true → sumD s'.2 n.toNat < sumD s9 n.toNat)) ?_ fun o ho => ?_
        · refine tot_ix hi' (tot_ix (by rw [hm.1]; exact hi') ?_)
          rw [eni]
          refine (f69_t hok hm hcs hi').bind fun x35 h35 => ?_
          rw [ix_getD (show i < m.length by rw [hm.1]; exact hi')]
          simp only [Option.isSome_some, Bool.or_true, cond_true, Option.getD_some]
          obtain ⟨r, e2, hr⟩ := f70_t (a := m.getD i default) (b := s20) (by rw [ci.len, H1.len])
          rw [e2]
          rw [below_iff hok hcs ci] at hr
          simp only [Option.isSome_some, Bool.or_true, cond_true, Option.getD_some]
          refine tot_if (fun h => ?_) (fun h => ?_)
          · simp only [Bool.and_eq_true, Bool.not_eq_true'] at h
            have hin := h35.1 h.1
            have hnb : ¬ ∀ j, j < l.length → (j = i ∨ Pst l j i) → InC l s20 j := fun k => by rw [hr.2 k] at h; exact absurd h.2 (by decide)
            refine tot_ixz hni.1 (by rw [ci.len]; omega) (tot_ixz hni.1 (by rw [H1.len]; omega) ?_)
            have e3 : (m.getD i default).getD (nd l i).toNat default = (idx l i : Int) := ci.self hi' (by omega)
            have hid := idx_tot (l := l) hi'
            have hcl2 := cnt_le (l := l) (p := nd l i) (a := l.length)
            have hip := idx_pos (l := l) (j := i)
            rw [e3, w64_id ⟨by omega, by omega⟩]
            have hlt : (nd l i).toNat < s20.length := by rw [H1.len]; omega
            have hss : sumD (s20.set (nd l i).toNat ((idx l i : Int) - 1)) n.toNat < sumD s20 n.toNat := by
              rw [sumD_set hlt, if_pos (by omega)]
              unfold InC at hin; omega
            refine tot_some ⟨_, rfl, ⟨by simp [H1.len], fun p hp => ?_, fun p hp => ?_, fun j hj hf => ?_⟩, fun h => by simp at h, fun _ => ?_⟩
            · rw [getD_set hlt]
              split
              · omega
              · exact H1.pos p hp
            · rw [getD_set hlt]
              have := H1.le p hp
              split
              · rename_i e
                rw [← e] at this
                unfold InC at hin; rw [← e]; omega
              · exact this
            · unfold InC
              rw [getD_set hlt]
              have hj' := H1.has j hj hf
              split
              · rename_i e
                have hnj := hnd j hj
                have e' : nd l j = nd l i := by omega
                rcases Nat.lt_or_ge (idx l j) (idx l i) with k | k
                · omega
                · refine absurd (fun q hq hqi => ?_) hnb
                  have hij : i = j ∨ Pst l i j := by
                    rcases Nat.lt_trichotomy i j with c | c | c
                    · exact .inr (pst_same c e'.symm)
                    · exact .inl c
                    · have := idx_lt c e'; omega
                  have hqj : q = j ∨ Pst l q j := by
                    rcases hij with rfl | hij
                    · exact hqi
                    · rcases hqi with rfl | hqi
                      · exact .inr hij
                      · exact .inr (hqi.trans hij)
                  rcases hqj with rfl | hqj
                  · exact hj'
                  · exact H1.has q hq (hf.past hqj)
              · exact hj'
            · cases e18 : s18 with
              | true =>
                have := H3 e18
                show sumD (s20.set (nd l i).toNat ((idx l i : Int) - 1)) n.toNat < sumD s9 n.toNat
                omega
              | false => rw [(H2 e18).1] at hss; rw [(H2 e18).1]; exact hss
          · refine tot_some ⟨_, rfl, H1, fun h' => ⟨(H2 h').1, fun b hb hin a ha => ?_⟩, H3⟩
            rcases Nat.lt_or_ge b i with k | k
            · exact (H2 h').2 b k hin a ha
            · have eb : b = i := by omega
              subst eb
              rw [← (H2 h').1] at hin ⊢
              rw [h35.2 hin, Bool.true_and, Bool.not_eq_false'] at h
              exact hr.1 h a (by have := ha.lt; omega) (.inr ha)
        · obtain ⟨s', rfl, h⟩ := ho
          exact tot_some ⟨_, rfl, h⟩
      · obtain ⟨⟨s18, s20⟩, rfl, H1, H2, H3⟩ := ho
        refine tot_some (.inl ⟨_, rfl, ⟨H1, fun h => ?_⟩, ?_⟩)
        · obtain ⟨e, hcons⟩ := H2 h
          simp only at e ⊢
          rw [e]
          exact hcons
        · simp only [if_true]
          have h0 := sumD_nonneg (k := n.toNat) hs.pos
          have h1 := sumD_nonneg (k := n.toNat) H1.pos
          split
          · rename_i e
            have := H3 e
            simp only at h1 this ⊢
            omega
          · omega
    · subst h
      have hcons := hs' rfl
      refine tot_some (.inr ⟨_, rfl, ⟨hs.len, hs.pos, hs.le, fun j hj => ⟨fun hin a ha => ?_, hs.has j hj⟩⟩⟩)
      have ha' : InC l s9 a := by
        rcases ha with rfl | ha
        · exact hin
        · exact hcons j hj hin a ha
      have hal : a < l.length := by
        rcases ha with rfl | ha
        · exact hj
        · have := ha.lt; omega
      have hna := hnd a hal
      exact Int.le_trans ha' (hs.le _ (by omega))
  · simp only [if_true]
    have := sumD_nonneg (k := n.toNat) hmid.pos
    omega
theorem f37_t (n : Int) (l : List Act) (cut : List Int) (hR : RA l) : Tot (f37 n l cut) (GreatR n l cut) := by
  unfold f37
  refine (f65_t n l cut hR).bind fun x hx => ?_
  refine tot_if (fun h => ?_) (fun h => ?_)
  · simp only [Bool.not_eq_true', decide_eq_false_iff_not] at h
    exact tot_some ⟨hx, fun _ => rfl, fun k => absurd k h⟩
  simp only [Bool.not_eq_false', decide_eq_true_eq] at h
  subst h
  obtain ⟨hok, hc, hi⟩ := hx.zero
  have hnd := hok.nd
  obtain ⟨n1, n2⟩ := hok.n
  have hcl := hc.1
  have hN := hok.len
  refine (f67_t hok).bind fun at' ha => (f23_t hok.len).bind fun P hP => tot_need (apOk_t (by omega)) ?_
  rw [toNat_len]
  -- what was done with the first events, and of the next one with the first that are before it
  let D : Nat → Nat → Nat → Nat → Prop := fun i k b a => Pst l a b ∧ ¬ InC l cut a ∧ (b < i ∨ (b = i ∧ a < k))
  let J : Nat → Nat → List Int → Prop := fun i k c => c.length = n.toNat ∧ (∀ p, p < n.toNat → 0 ≤ c.getD p 0 ∧ c.getD p 0 ≤ cut.getD p 0) ∧ (∀ b a, b < l.length → D i k b a → c.getD (nd l b).toNat 0 ≤ (idx l b : Int) - 1) ∧ ∀ p : Nat, p < n.toNat → c.getD p 0 = cut.getD p 0 ∨ ∃ b a, b < l.length ∧ D i k b a ∧ nd l b = p ∧ c.getD p 0 = (idx l b : Int) - 1
  have hcong : ∀ {i k i' k' : Nat} {c : List Int}, (∀ b a, D i k b a ↔ D i' k' b a) → J i k c → J i' k' c := fun hD h => ⟨h.1, h.2.1, fun b a hb hd => h.2.2.1 b a hb ((hD b a).2 hd), fun p hp => (h.2.2.2 p hp).imp id fun ⟨b, a, b1, b2, b3⟩ => ⟨b, a, b1, (hD b a).1 b2, b3⟩⟩
  refine (tot_rng (fun i c => J i 0 c) ⟨by omega, fun p hp => ⟨hc.2 p (by omega), Int.le_refl _⟩, fun b a hb hd => ?_, fun p hp => .inl rfl⟩ fun i c hi' H => ?_).bind fun o ho => ?_
  · rcases hd.2.2 with h | ⟨_, h⟩ <;> omega
  · unfold f37_b0
    have hni := hnd i hi'
    have eni : (l.getD i default).1 = nd l i := rfl
    refine tot_ix hi' (tot_ix (by rw [hP.1]; exact hi') ?_)
    obtain ⟨g1, g2⟩ := hP.2 i hi'
    rw [toNat_len, g1]
    refine (tot_rng (fun k c => J i k c) H fun k c hk H => ?_).bind fun o ho => ?_
    · obtain ⟨K1, K2, K3, K4⟩ := H
      unfold f37_b1
      have hnk := hnd k hk
      have enk : (l.getD k default).1 = nd l k := rfl
      refine Tot.bind (Q := fun o => ∃ c', o = .inl c' ∧ J i (k + 1) c') ?_ fun o ho => ?_
      · refine tot_ix (by omega) ?_
        rw [ix_getD (show k < at'.length by omega), ix_getD hk]
        simp only [Option.isSome_some, Bool.or_true, cond_true, Option.getD_some, enk]
        rw [ix_int hnk.1 (by omega), ha.2 k hk, eni]
        simp only [Option.isSome_some, Bool.or_true, cond_true, Option.getD_some]
        refine tot_if (fun h => ?_) (fun h => ?_)
        · simp only [Bool.and_eq_true, decide_eq_true_eq] at h
          have hp := (g2 k hk).1 h.1
          have hnin : ¬ InC l cut k := fun q => by
            have h2 : cut.getD (nd l k).toNat 0 < (idx l k : Int) := h.2
            unfold InC at q; omega
          refine tot_ixz hni.1 (by omega) (tot_ix (by omega) ?_)
          rw [ha.2 i hi']
          have hip := idx_pos (l := l) (j := i)
          have hid := idx_tot (l := l) hi'
          have hcl2 := cnt_le (l := l) (p := nd l i) (a := l.length)
          rw [w64_id ⟨by omega, by omega⟩]
          have hlt : (nd l i).toNat < c.length := by omega
          have hold := K2 (nd l i).toNat (by omega)
          have hdef : c.getD (nd l i).toNat default = c.getD (nd l i).toNat 0 := rfl
          rw [hdef]
          have hnew : D i (k + 1) i k := ⟨hp, hnin, .inr ⟨rfl, by omega⟩⟩
          have hmono : ∀ b a, D i k b a → D i (k + 1) b a := fun b a hd => ⟨hd.1, hd.2.1, hd.2.2.imp id fun h => ⟨h.1, by omega⟩⟩
          refine tot_some ⟨_, rfl, by simp [K1], fun p hp => ?_, fun b a hb hd => ?_, fun p hp => ?_⟩
          · rw [getD_set hlt]
            split
            · rename_i e; rw [← e]; omega
            · exact K2 p hp
          · rw [getD_set hlt]
            rcases Classical.em (D i k b a) with hd' | hd'
            · have := K3 b a hb hd'
              split
              · rename_i e; rw [← e] at this; omega
              · exact this
            · have eb : b = i := by
                rcases hd.2.2 with h | h
                · exact absurd ⟨hd.1, hd.2.1, .inl h⟩ hd'
                · exact h.1
              rw [eb, if_pos rfl]; omega
          · rw [getD_set hlt]
            split
            · rename_i e
              rcases Int.le_total (c.getD (nd l i).toNat 0) ((idx l i : Int) - 1) with q | q
              · rw [Int.min_eq_left q, e]
                exact (K4 p hp).imp id fun ⟨b, a, b1, b2, b3⟩ => ⟨b, a, b1, hmono b a b2, b3⟩
              · rw [Int.min_eq_right q]
                exact .inr ⟨i, k, hi', hnew, by omega, rfl⟩
            · exact (K4 p hp).imp id fun ⟨b, a, b1, b2, b3⟩ => ⟨b, a, b1, hmono b a b2, b3⟩
        · refine tot_some ⟨_, rfl, hcong (fun b a => ?_) ⟨K1, K2, K3, K4⟩⟩
          constructor
          · exact fun hd => ⟨hd.1, hd.2.1, hd.2.2.imp id fun h => ⟨h.1, by omega⟩⟩
          · intro hd
            refine ⟨hd.1, hd.2.1, ?_⟩
            rcases hd.2.2 with h' | ⟨h1, h2⟩
            · exact .inl h'
            · rcases Nat.lt_or_ge a k with c1 | c1
              · exact .inr ⟨h1, c1⟩
              · have ea : a = k := by omega
                subst ea
                have h3 := hd.1
                have h4 := hd.2.1
                rw [h1] at h3
                rw [(g2 a hk).2 h3, Bool.true_and] at h
                have h5 : ¬ cut.getD (nd l a).toNat 0 < (idx l a : Int) := of_decide_eq_false h
                exact absurd (Int.not_lt.1 h5) h4
      · obtain ⟨c', rfl, h⟩ := ho
        exact tot_some ⟨_, rfl, h⟩
    · obtain ⟨c', rfl, h⟩ := ho
      refine tot_some ⟨_, rfl, hcong (fun b a => ?_) h⟩
      constructor
      · intro hd
        refine ⟨hd.1, hd.2.1, ?_⟩
        rcases hd.2.2 with h' | ⟨h1, h2⟩
        · exact .inl (by omega)
        · exact .inl (by omega)
      · intro hd
        refine ⟨hd.1, hd.2.1, ?_⟩
        have := hd.1.lt
        rcases hd.2.2 with h' | ⟨h1, h2⟩
        · rcases Nat.lt_or_ge b i with c | c
          · exact .inl c
          · exact .inr ⟨by omega, by omega⟩
        · omega
  · obtain ⟨c, rfl, K1, K2, K3, K4⟩ := ho
    refine tot_some ⟨hx, fun k => absurd rfl k, fun _ => ⟨K1, fun p hp => (K2 p hp).1, fun p hp => (K2 p hp).2, fun j hj => ?_⟩⟩
    have hnj := hnd j hj
    constructor
    · intro hin a hp
      have hj' : InC l cut j := Int.le_trans hin (K2 _ (by omega)).2
      rcases hp with rfl | hp
      · exact hj'
      · refine Classical.byContradiction fun hna => ?_
        have := K3 j a hj ⟨hp, hna, .inl hj⟩
        unfold InC at hin
        simp only at hin
        omega
    · intro hf
      unfold InC
      rcases K4 (nd l j).toNat (by omega) with h | ⟨b, a, b1, b2, b3, b4⟩
      · simp only at h ⊢
        rw [h]; exact hf j (.inl rfl)
      · simp only at b4 ⊢
        rw [b4]
        have e : nd l b = nd l j := by omega
        rcases Nat.lt_or_ge (idx l j) (idx l b) with q | q
        · omega
        · exfalso
          refine b2.2.1 (hf a (.inr ?_))
          rcases Nat.lt_trichotomy b j with c1 | c1 | c1
          · exact b2.1.trans (pst_same c1 e)
          · rw [← c1]; exact b2.1
          · have := idx_lt c1 e.symm; omega
end Go.Ab

set_option linter.unusedVariables false
namespace Go.Ab

/-! slices.IndexFunc, slices.DeleteFunc -/
theorem f86_first (p : List Int) (P : Int → Bool) : Tot (f86 p fun y => some (P y)) fun r => (r = -1 ∧ ∀ j, j < p.length → P (p.getD j default) = false) ∨ ∃ j : Nat, j < p.length ∧ r = (j : Int) ∧ P (p.getD j default) = true ∧ ∀ x, x < j → P (p.getD x default) = false := by
  unfold f86
  rw [toNat_len]
  refine (tot_rngx (fun i _ => ∀ j, j < i → P (p.getD j default) = false) (fun r => ∃ j : Nat, j < p.length ∧ r = (j : Int) ∧ P (p.getD j default) = true ∧ ∀ x, x < j → P (p.getD x default) = false) (fun j hj => absurd hj (by omega)) fun i _ hi H => ?_).bind fun o ho => ?_
  · unfold f86_b0
    refine tot_ix hi ?_
    simp only [Option.bind_some]
    refine tot_if (fun h => tot_some (.inr ⟨_, rfl, i, hi, rfl, h, H⟩)) (fun h => tot_some (.inl ⟨_, rfl, fun j hj => ?_⟩))
    rcases Nat.lt_or_ge j i with k | k
    · exact H j k
    · rw [show j = i by omega]; exact h
  · rcases ho with ⟨⟨⟩, rfl, h⟩ | ⟨r, rfl, h⟩
    · exact tot_some (.inl ⟨rfl, h⟩)
    · exact tot_some (.inr h)
theorem filter_all {α : Type} {P : α → Bool} (d : α) : ∀ {x : List α}, (∀ j, j < x.length → P (x.getD j d) = true) → x.filter P = x := by
  intro x
  induction x with
  | nil => intro _; rfl
  | cons y x ih =>
    intro h
    have h0 : P y = true := h 0 (by simp)
    rw [List.filter_cons_of_pos h0, ih fun j hj => by have := h (j + 1) (by simpa using hj); simpa using this]
theorem f71_t (p : List Int) (P : Int → Bool) (hl : p.length ≤ 1000) : f71 p (fun y => some (P y)) = some (p.filter fun x => !P x) := by
  refine Tot.eq ?_
  unfold f71
  refine (f86_first p P).bind fun x2 h2 => ?_
  rcases h2 with ⟨rfl, h⟩ | ⟨j0, h1, rfl, h2, h3⟩
  · refine tot_some (filter_all default fun j hj => ?_).symm
    rw [h j hj]; rfl
  refine tot_if (fun h => by have := of_decide_eq_true h; omega) (fun _ => ?_)
  rw [w64_id ⟨by omega, by omega⟩]
  refine (tot_lrun (fun s : Int × Int × List Int => ∃ i j : Nat, s.1 = (i : Int) ∧ s.2.1 = (j : Int) ∧ i < j ∧ j ≤ p.length ∧ s.2.2.length = p.length ∧ s.2.2.take i = (p.take j).filter (fun x => !P x) ∧ ∀ x, j ≤ x → s.2.2.getD x default = p.getD x default) (fun s => (p.length - s.2.1.toNat)) (fun (r : Int × List Int) => ∃ i : Nat, r.1 = (i : Int) ∧ i ≤ p.length ∧ r.2.length = p.length ∧ r.2.take i = p.filter (fun x => !P x)) (fun s hs => ?_) _ (((j0 : Nat) : Int), (j0 : Int) + 1, p) ⟨j0, j0 + 1, rfl, by simp, by omega, by omega, rfl, ?_, fun x _ => rfl⟩ ?_).bind fun s hs => ?_
  · obtain ⟨s5, s6, s7⟩ := s
    obtain ⟨i, j, rfl, rfl, hij, hj, hl7, ht, hd⟩ := hs
    simp only at hl7 ht hd ⊢
    unfold f71_b0
    simp only
    refine tot_if (fun h => ?_) (fun h => ?_)
    · have hjl : j < p.length := by have := of_decide_eq_true h; omega
      refine Tot.bind (Q := fun o => ∃ s', o = .inl s' ∧ ∃ i' : Nat, s'.1 = (i' : Int) ∧ i' < j + 1 ∧ s'.2.length = p.length ∧ s'.2.take i' = (p.take (j + 1)).filter (fun x => !P x) ∧ ∀ x, j + 1 ≤ x → s'.2.getD x default = p.getD x default) ?_ fun o ho => ?_
      · refine tot_ix (by omega) ?_
        rw [hd j (Nat.le_refl _), take_snoc default hjl, List.filter_append, ← ht]
        simp only [Option.bind_some]
        refine tot_if (fun h => ?_) (fun h => ?_)
        · refine tot_ix (by omega) ?_
          rw [w64_id ⟨by omega, by omega⟩]
          refine tot_some ⟨_, rfl, i + 1, by simp, by omega, by simp [hl7], ?_, fun x hx => ?_⟩
          · simp only [Int.toNat_natCast]
            rw [take_snoc default (by simp; omega), getD_set (by omega), if_pos rfl, List.filter_cons_of_pos (p := fun x => !P x) h, List.filter_nil]
            congr 1
            exact List.take_set_of_le (Nat.le_refl _)
          · simp only [Int.toNat_natCast]
            rw [getD_set (by omega), if_neg (by omega)]; exact hd x (by omega)
        · refine tot_some ⟨_, rfl, i, rfl, by omega, hl7, ?_, fun x hx => hd x (by omega)⟩
          rw [List.filter_cons_of_neg (by simpa using h), List.filter_nil, List.append_nil]
      · obtain ⟨⟨s19, s20⟩, rfl, i', h1, h2, h3, h4, h5⟩ := ho
        simp only at h1 h3 h4 h5 ⊢
        rw [w64_id ⟨by omega, by omega⟩]
        refine tot_some (.inl ⟨_, rfl, ⟨i', j + 1, h1, by simp, h2, by omega, h3, h4, h5⟩, by simp only; omega⟩)
    · have hje : j = p.length := by have := of_decide_eq_false h; omega
      subst hje
      refine tot_some (.inr ⟨_, rfl, i, rfl, by omega, hl7, ?_⟩)
      simp only
      rw [ht, List.take_of_length_le (Nat.le_refl _)]
  · simp only
    rw [take_snoc default h1, List.filter_append, List.filter_cons_of_neg (by rw [h2]; decide), List.filter_nil, List.append_nil]
    refine (filter_all default fun j hj => ?_).symm
    rw [List.length_take] at hj
    rw [getD_take (by omega), h3 j (by omega)]; rfl
  · simp only; omega
  · obtain ⟨s11, s13⟩ := s
    obtain ⟨i, rfl, hi, hl13, ht⟩ := hs
    simp only at hl13 ht ⊢
    refine tot_need (slOk_t (by omega) (by omega) (by omega)) (tot_need (slOk_t (by omega) (by omega) (by simp; omega)) (tot_some ?_))
    rw [Int.toNat_natCast, ← ht, List.take_append_of_le_length (by rw [List.length_take]; omega), List.take_take, Nat.min_self]

/-! layer 29: the messages under way -/
def RecIn (l : List Act) (cut : List Int) (i : Nat) (m : Int) : Prop := ∃ k, k < i ∧ kd l k = 3 ∧ InC l cut k ∧ ms l k = m
open Classical in
noncomputable def und (l : List Act) (cut : List Int) (i r : Nat) : List Int := ((List.range i).filter fun j => decide (kd l j = 2 ∧ InC l cut j ∧ ¬ RecIn l cut r (ms l j))).map (ms l)
theorem und_len {l : List Act} {cut : List Int} {i r : Nat} : (und l cut i r).length ≤ i := by
  unfold und
  rw [List.length_map]
  exact Nat.le_trans (List.length_filter_le _ _) (by simp)
theorem recIn_succ {l : List Act} {cut : List Int} {i : Nat} {m : Int} : RecIn l cut (i + 1) m ↔ RecIn l cut i m ∨ (kd l i = 3 ∧ InC l cut i ∧ ms l i = m) := by
  constructor
  · rintro ⟨k, h1, h2⟩
    rcases Nat.lt_or_ge k i with c | c
    · exact .inl ⟨k, c, h2⟩
    · rw [show k = i by omega] at h2; exact .inr h2
  · rintro (⟨k, h1, h2⟩ | h2)
    · exact ⟨k, by omega, h2⟩
    · exact ⟨i, by omega, h2⟩
theorem und_same {l : List Act} {cut : List Int} {i r s : Nat} (h : ∀ m, RecIn l cut r m ↔ RecIn l cut s m) : und l cut i r = und l cut i s := by
  unfold und
  congr 1
  apply List.filter_congr
  intro j _
  exact decide_eq_decide.2 (by rw [h])
open Classical in
theorem und_snoc {l : List Act} {cut : List Int} {i r : Nat} : und l cut (i + 1) r = und l cut i r ++ if kd l i = 2 ∧ InC l cut i ∧ ¬ RecIn l cut r (ms l i) then [ms l i] else [] := by
  unfold und
  rw [List.range_succ, List.filter_append, List.map_append]
  congr 1
  by_cases h : kd l i = 2 ∧ InC l cut i ∧ ¬ RecIn l cut r (ms l i)
  · rw [if_pos h, List.filter_cons_of_pos (by simpa using h)]; rfl
  · rw [if_neg h, List.filter_cons_of_neg (by simpa using h)]; rfl
theorem und_del {l : List Act} {cut : List Int} {i r : Nat} (hr : kd l r = 3 ∧ InC l cut r) : und l cut i (r + 1) = (und l cut i r).filter fun x => !decide (x = ms l r) := by
  unfold und
  rw [List.filter_map, List.filter_filter]
  congr 1
  apply List.filter_congr
  intro j _
  simp only [Function.comp]
  by_cases h : ms l j = ms l r
  · have : RecIn l cut (r + 1) (ms l j) := recIn_succ.2 (.inr ⟨hr.1, hr.2, h.symm⟩)
    rw [h] at this
    simp [h, this]
  · have : RecIn l cut (r + 1) (ms l j) ↔ RecIn l cut r (ms l j) := by
      rw [recIn_succ]
      exact ⟨fun k => k.elim id fun k => absurd k.2.2.symm h, .inl⟩
    simp [h, this]
def UndR (n : Int) (l : List Act) (cut : List Int) (r : List Int × Int) : Prop := (¬ (Ok n l ∧ CutOk n cut ∧ CutIn l cut) ∧ CutErr n l cut r.2 ∧ r.1 = []) ∨ ((Ok n l ∧ CutOk n cut ∧ CutIn l cut) ∧ ((¬ Cons l cut ∧ r = ([], 9)) ∨ (Cons l cut ∧ r = (isortI (und l cut l.length l.length), 0))))
theorem UndR.uniq {n : Int} {l : List Act} {cut : List Int} {r q : List Int × Int} (h : UndR n l cut r) (k : UndR n l cut q) : r = q := by
  rcases h with ⟨h1, h2, h3⟩ | ⟨h1, ⟨h2, rfl⟩ | ⟨h2, rfl⟩⟩ <;> rcases k with ⟨k1, k2, k3⟩ | ⟨k1, ⟨k2, rfl⟩ | ⟨k2, rfl⟩⟩
  · exact Prod.ext (h3.trans k3.symm) (h2.uniq k2)
  · exact absurd k1 h1
  · exact absurd k1 h1
  · exact absurd h1 k1
  · rfl
  · exact absurd k2 h2
  · exact absurd h1 k1
  · exact absurd h2 k2
  · rfl
theorem f73_ok {x : List Int} (h : x.length ≤ 1000) : f73 x = some (isortI x) := by
  unfold f73
  have : Nat.blt x.length 4611686018427387904 = true := by simp [Nat.blt_eq]; omega
  rw [this]; rfl
theorem cutErr_ne {n : Int} {l : List Act} {c : List Int} {r : Int} (h : CutErr n l c r) (hr : r ≠ 0) : ¬ (Ok n l ∧ CutOk n c ∧ CutIn l c) := by
  rintro ⟨a, b, d⟩
  rcases h with ⟨h1, _⟩ | ⟨_, _, h3, _⟩ | ⟨_, _, _, h4⟩
  · exact h1 ⟨a, b⟩
  · exact h3 d
  · exact hr h4
theorem f38_t (n : Int) (l : List Act) (cut : List Int) : Tot (f38 n l cut) (UndR n l cut) := by
  unfold f38
  refine (f63_t n l cut).bind fun x hx => ?_
  refine tot_if (fun h => ?_) (fun h => ?_)
  · simp only [Bool.not_eq_true', decide_eq_false_iff_not] at h
    exact tot_some (.inl ⟨cutErr_ne hx h, hx, rfl⟩)
  simp only [Bool.not_eq_false', decide_eq_true_eq] at h
  subst h
  obtain ⟨hok, hc, hi⟩ := hx.zero
  have hnd := hok.nd
  have hN := hok.len
  have hcl := hc.1
  refine (f52_t hok).bind fun m hm => (f64_t hok hm hc).bind fun r hr => ?_
  refine tot_if (fun h => ?_) (fun h => ?_)
  · exact tot_some (.inr ⟨⟨hok, hc, hi⟩, .inl ⟨fun k => by rw [hr.2 k] at h; simp at h, rfl⟩⟩)
  have hcons : Cons l cut := hr.1 (by simpa using h)
  rw [toNat_len]
  refine (tot_rng (fun i s => s = und l cut i i) rfl fun i s hi' H => ?_).bind fun o ho => ?_
  · subst H
    unfold f38_b0
    have eni : (l.getD i default).1 = nd l i := rfl
    have eki : (l.getD i default).2.1 = kd l i := rfl
    have emi : (l.getD i default).2.2.1 = ms l i := rfl
    obtain ⟨c1, c2, c3, c4, c5⟩ := code_zero (hok.2 i hi').2
    have hlen := und_len (l := l) (cut := cut) (i := i) (r := i)
    refine Tot.bind (Q := fun o => ∃ s', o = .inl s' ∧ s' = und l cut (i + 1) (i + 1)) ?_ fun o ho => ?_
    · refine tot_ix hi' (tot_ix (by rw [hm.1]; exact hi') ?_)
      rw [eni, eki, emi]
      refine (f69_t hok hm hc hi').bind fun x26 h26 => ?_
      refine tot_if (fun h => ?_) (fun h => ?_)
      · have hnin : ¬ InC l cut i := fun k => by rw [h26.2 k] at h; simp at h
        refine tot_some ⟨_, rfl, ?_⟩
        rw [und_snoc, if_neg (fun k => hnin k.2.1), List.append_nil]
        exact und_same fun m => by rw [recIn_succ]; exact ⟨.inl, fun k => k.elim id fun k => absurd k.2.1 hnin⟩
      have hin : InC l cut i := h26.1 (by simpa using h)
      refine tot_if (fun h => ?_) (fun h => ?_)
      · have hk : kd l i = 2 := of_decide_eq_true h
        have hrec : ∀ m, RecIn l cut (i + 1) m ↔ RecIn l cut i m := fun m => by rw [recIn_succ]; exact ⟨fun k => k.elim id fun k => absurd (hk.symm.trans k.1) (by decide), .inl⟩
        have hno : ¬ RecIn l cut (i + 1) (ms l i) := by
          rw [hrec]
          rintro ⟨k, k1, k2, k3, k4⟩
          have hnk := (code_zero (hok.2 k (by omega)).2).2.2.2.1
          have : HasS l k (ms l k) := Classical.byContradiction fun q => hnk (.inl ⟨k2, q⟩)
          obtain ⟨j, j1, j2, j3⟩ := this
          exact c3 (.inl (.inl ⟨hk, j, by omega, j2, j3.trans k4⟩))
        refine tot_need (ap8 (by omega) (by simp)) (tot_some ⟨_, rfl, ?_⟩)
        rw [und_snoc, if_pos ⟨hk, hin, hno⟩, und_same hrec]
      · have hk2 : kd l i ≠ 2 := of_decide_eq_false h
        refine tot_if (fun h => ?_) (fun h => ?_)
        · have hk : kd l i = 3 := of_decide_eq_true h
          have e72 : (fun y1 => f72 y1 (l.getD i default)) = fun y => some (decide (y = ms l i)) := rfl
          rw [e72, f71_t _ _ (by omega)]
          refine tot_some ⟨_, rfl, ?_⟩
          rw [und_snoc, if_neg (fun k => hk2 k.1), List.append_nil, und_del ⟨hk, hin⟩]
        · have hk : kd l i ≠ 3 := of_decide_eq_false h
          refine tot_some ⟨_, rfl, ?_⟩
          rw [und_snoc, if_neg (fun k => hk2 k.1), List.append_nil]
          exact und_same fun m => by rw [recIn_succ]; exact ⟨.inl, fun k => k.elim id fun k => absurd k.1 hk⟩
    · obtain ⟨s', rfl, h⟩ := ho
      exact tot_some ⟨_, rfl, h⟩
  · obtain ⟨s, rfl, rfl⟩ := ho
    simp only
    rw [f73_ok (Nat.le_trans und_len hN)]
    exact tot_some (.inr ⟨⟨hok, hc, hi⟩, .inr ⟨hcons, rfl⟩⟩)
theorem f39_t (n : Int) (l : List Act) (cut : List Int) (hR : RA l) : Tot (f39 n l cut) (UndR n l cut) := by
  unfold f39
  refine (f65_t n l cut hR).bind fun x hx => ?_
  refine tot_if (fun h => ?_) (fun h => ?_)
  · simp only [Bool.not_eq_true', decide_eq_false_iff_not] at h
    exact tot_some (.inl ⟨cutErr_ne hx h, hx, rfl⟩)
  simp only [Bool.not_eq_false', decide_eq_true_eq] at h
  subst h
  obtain ⟨hok, hc, hi⟩ := hx.zero
  have hnd := hok.nd
  have hN := hok.len
  have hcl := hc.1
  refine (f67_t hok).bind fun at' ha => (f23_t hok.len).bind fun P hP => (f66_t hok ha hP hc).bind fun r hr => ?_
  refine tot_if (fun h => ?_) (fun h => ?_)
  · exact tot_some (.inr ⟨⟨hok, hc, hi⟩, .inl ⟨fun k => by rw [hr.2 k] at h; simp at h, rfl⟩⟩)
  have hcons : Cons l cut := hr.1 (by simpa using h)
  rw [toNat_len]
  have hin : ∀ i, i < l.length → (decide (at'.getD i default ≤ cut.getD (nd l i).toNat default) = true ↔ InC l cut i) := fun i hi => by
    rw [decide_eq_true_eq, ha.2 i hi]; rfl
  refine (tot_rng (fun i s => s = und l cut i l.length) rfl fun i s hi' H => ?_).bind fun o ho => ?_
  · subst H
    unfold f39_b0
    have hni := hnd i hi'
    have eni : (l.getD i default).1 = nd l i := rfl
    have eki : (l.getD i default).2.1 = kd l i := rfl
    have emi : (l.getD i default).2.2.1 = ms l i := rfl
    have hlen := und_len (l := l) (cut := cut) (i := i) (r := l.length)
    refine Tot.bind (Q := fun o => ∃ s', o = .inl s' ∧ s' = und l cut (i + 1) l.length) ?_ fun o ho => ?_
    · refine tot_ix hi' ?_
      rw [eni, eki, ix_getD (show i < at'.length by omega), ix_int hni.1 (by omega)]
      simp only [Option.isSome_some, Bool.or_true, cond_true, Option.getD_some]
      have hout : decide (cut.getD (nd l i).toNat default < at'.getD i default) = true ↔ ¬ InC l cut i := by
        rw [decide_eq_true_eq, ← hin i hi', decide_eq_true_eq]; omega
      refine tot_if (fun h => ?_) (fun h => ?_)
      · refine tot_some ⟨_, rfl, ?_⟩
        rw [und_snoc, if_neg, List.append_nil]
        rintro ⟨k1, k2, _⟩
        simp only [Bool.or_eq_true, Bool.not_eq_true', decide_eq_false_iff_not] at h
        rcases h with h | h
        · exact h k1
        · exact hout.1 h k2
      · simp only [Bool.or_eq_false_iff, Bool.not_eq_false', decide_eq_true_eq] at h
        obtain ⟨hk, h2⟩ := h
        have hini : InC l cut i := Classical.byContradiction fun q => by rw [hout.2 q] at h2; cases h2
        rw [toNat_len]
        refine (tot_rng (fun k (b : Bool) => (b = true ↔ RecIn l cut k (ms l i))) ⟨fun h => (by cases h), fun ⟨k, h, _⟩ => absurd h (by omega)⟩ fun k b hk' H => ?_).bind fun o ho => ?_
        · unfold f39_b1
          have hnk := hnd k hk'
          have enk : (l.getD k default).1 = nd l k := rfl
          have ekk : (l.getD k default).2.1 = kd l k := rfl
          have emk : (l.getD k default).2.2.1 = ms l k := rfl
          refine tot_ix hk' ?_
          rw [enk, ekk, emk, emi, ix_getD (show k < at'.length by omega), ix_int hnk.1 (by omega)]
          simp only [Option.isSome_some, Bool.or_true, cond_true, Option.getD_some]
          refine tot_some ⟨_, rfl, ?_⟩
          rw [Bool.or_eq_true, Bool.and_eq_true, Bool.and_eq_true, hin k hk', H, recIn_succ, decide_eq_true_eq, decide_eq_true_eq]
          constructor
          · rintro (h | ⟨⟨a, b⟩, c⟩)
            · exact .inl h
            · exact .inr ⟨a, c, b⟩
          · rintro (h | ⟨a, b, c⟩)
            · exact .inl h
            · exact .inr ⟨⟨a, c⟩, b⟩
        · obtain ⟨b, rfl, hb⟩ := ho
          simp only
          refine tot_if (fun h => ?_) (fun h => ?_)
          · refine tot_need (ap8 (by omega) (by simp)) (tot_some ⟨_, rfl, ?_⟩)
            rw [und_snoc, if_pos ⟨hk, hini, fun k => by rw [hb.2 k] at h; cases h⟩]; rfl
          · refine tot_some ⟨_, rfl, ?_⟩
            rw [und_snoc, if_neg, List.append_nil]
            rintro ⟨_, _, k⟩
            exact k (hb.1 (by simpa using h))
    · obtain ⟨s', rfl, h⟩ := ho
      exact tot_some ⟨_, rfl, h⟩
  · obtain ⟨s, rfl, rfl⟩ := ho
    simp only
    have : f74 (und l cut l.length l.length) = some (isortI (und l cut l.length l.length)) := by
      unfold f74; rw [f73_ok (Nat.le_trans und_len hN)]; rfl
    rw [this]
    exact tot_some (.inr ⟨⟨hok, hc, hi⟩, .inr ⟨hcons, rfl⟩⟩)
end Go.Ab

set_option linter.unusedVariables false
namespace Go.Ab

/-! layer 29: the law CauseCuts -/
theorem f40_t {a b : List Int} (h : a.length = b.length) (hle : ∀ p, p < a.length → a.getD p 0 ≤ b.getD p 0) : f40 a b = some true := by
  refine Tot.eq ?_
  unfold f40
  rw [toNat_len]
  refine (tot_rng (fun _ _ => True) trivial fun i _ hi _ => ?_).bind fun o ho => ?_
  · unfold f40_b0
    refine tot_ix hi (tot_ix (by omega) ?_)
    refine tot_if (fun h => ?_) (fun h => tot_some ⟨_, rfl, trivial⟩)
    have h1 := of_decide_eq_true h
    have h2 := hle i hi
    exact absurd h1 (Int.not_lt.2 h2)
  · obtain ⟨⟨⟩, rfl, _⟩ := ho
    exact tot_some rfl
theorem f32_yes {n : Int} {l : List Act} {c : List Int} (hok : Ok n l) (h1 : CutOk n c) (h2 : CutIn l c) (h3 : Cons l c) : f32 n l c = some (true, 0) := by
  obtain ⟨r, e, k1, k2, k3⟩ := f32_t n l c
  have e2 : r.2 = 0 := k1.uniq (.inr (.inr ⟨hok, h1, h2, rfl⟩))
  have e1 : r.1 = true := (k3 e2).2 h3
  rw [e]; congr 1; exact Prod.ext e1 e2
theorem f8_tt {β : Type} {f : Bool → Option β} {Q : β → Prop} (k : Tot (f true) Q) : Tot (f8.bind f) Q := by rw [f8_t]; exact k
/-- CauseCuts returns true. -/
theorem f6_t (n : Int) (l : List Act) (cut other es : List Int) (hR : RA l) : f6 n l cut other es = some true := by
  refine Tot.eq ?_
  unfold f6
  refine (f14_t l).bind fun x1 h1 => ?_
  refine tot_if (fun h => f8_tt (tot_some rfl)) (fun h => ?_)
  clear h h1
  obtain ⟨r, e1, e2, hr1, hr2, hr3⟩ := cons_eq n l cut hR
  obtain ⟨a, e3, ha⟩ := f34_t n l es
  obtain ⟨a', e4, ha'⟩ := f35_t n l es hR
  rw [ha'.uniq ha] at e4
  rw [e1, e2, e3, e4]
  simp only [Option.bind_some, decide_true, Bool.not_true, Bool.or_self, f13_refl, Option.isSome_some, Bool.or_true, cond_true, cond_false, Option.getD_some]
  obtain ⟨c, e5, hc⟩ := f36_t n l cut
  obtain ⟨c', e6, hc'⟩ := f37_t n l cut hR
  rw [hc'.uniq hc] at e6
  obtain ⟨x, e7, hx⟩ := f38_t n l cut
  obtain ⟨x', e8, hx'⟩ := f39_t n l cut hR
  rw [hx'.uniq hx] at e8
  rw [e5, e6, e7, e8]
  simp only [Option.bind_some, decide_true, Bool.not_true, Bool.or_self, f13_refl, Option.isSome_some, Bool.or_true, cond_true, cond_false, Option.getD_some]
  clear e2 e3 e4 e5 e6 e7 e8 ha' hc' hx hx'
  -- the least cut
  refine Tot.bind (Q := fun o => o = .inl ()) ?_ fun o ho => ?_
  · refine tot_if (fun h => ?_) (fun h => tot_some rfl)
    have h0 : a.2 = 0 := of_decide_eq_true h
    have hA := ha.1
    rw [h0] at hA
    obtain ⟨hok, _⟩ := hA.zero
    obtain ⟨k1, k2, k3⟩ := (ha.2.2 h0).cut hok
    rw [f32_yes hok k1 k2 k3]
    exact tot_some rfl
  subst ho
  simp only
  -- the greatest cut
  refine Tot.bind (Q := fun o => o = .inl ()) ?_ fun o ho => ?_
  · refine tot_if (fun h => ?_) (fun h => tot_some rfl)
    have h0 : c.2 = 0 := of_decide_eq_true h
    have hA := hc.1
    rw [h0] at hA
    obtain ⟨hok, hcut, hin⟩ := hA.zero
    have hG := hc.2.2 h0
    have hl := hcut.1
    obtain ⟨n1, n2⟩ := hok.n
    have hcl := hG.len
    have k1 : CutOk n c.1 := ⟨by omega, fun p hp => hG.pos p (by omega)⟩
    have k2 : CutIn l c.1 := fun p hp => by have := hG.le p (by omega); have := hin p (by omega); omega
    have k3 : Cons l c.1 := fun b hb hib q hq => (hG.iff q (by have := hq.lt; omega)).2 (((hG.iff b hb).1 hib).past hq)
    rw [f32_yes hok k1 k2 k3, f40_t (by omega) fun p hp => hG.le p (by omega)]
    simp only [Option.bind_some, decide_true, Bool.not_true, Bool.or_self, Option.isSome_some, Bool.or_true, cond_true, cond_false, Option.getD_some, Bool.not_false, Bool.true_and, Bool.false_or]
    have hsame : r.1 = true → c.1 = cut := fun hr => by
      have hz : r.2 = 0 := Classical.byContradiction fun q => by rw [hr2 q] at hr; cases hr
      have hco := (hr3 hz).1 hr
      refine hG.uniq (fun p hp => hin p (by omega)) ⟨by omega, fun p hp => hcut.2 p (by omega), fun p _ => Int.le_refl _, fun j hj => ⟨fun q b hb => ?_, fun q => q j (.inl rfl)⟩⟩
      rcases hb with rfl | hb
      · exact q
      · exact hco j hj q b hb
    cases hr : r.1 with
    | false =>
      simp only [Bool.not_false, Bool.true_or, cond_true, Bool.false_and, cond_false]
      exact tot_some rfl
    | true =>
      rw [hsame hr, f13_refl]
      simp only [Option.isSome_some, Bool.or_true, cond_true, Option.getD_some, Bool.not_true, Bool.and_false, cond_false]
      exact tot_some rfl
  subst ho
  simp only
  obtain ⟨r2, e9, q1, q2, q3⟩ := f32_t n l other
  rw [e9]
  simp only [Option.bind_some]
  refine tot_if (fun h => f8_tt (tot_some rfl)) (fun h => ?_)
  simp only [Bool.or_eq_false_iff, Bool.not_eq_false', decide_eq_true_eq] at h
  obtain ⟨⟨⟨z1, z2⟩, z3⟩, z4⟩ := h
  have k1 := hr1
  rw [z1] at k1
  obtain ⟨hok, c1, c2⟩ := k1.zero
  have k2 := q1
  rw [z2] at k2
  obtain ⟨_, d1, d2⟩ := k2.zero
  have c3 := (hr3 z1).1 z3
  have d3 := (q3 z2).1 z4
  have hnd := hok.nd
  obtain ⟨n1, n2⟩ := hok.n
  have cl := c1.1
  have dl := d1.1
  rw [toNat_len]
  refine (tot_rng (fun i (s : List Int × List Int) => s.1.length = i ∧ s.2.length = i ∧ (∀ p, p < i → s.1.getD p 0 = max (cut.getD p 0) (other.getD p 0)) ∧ ∀ p, p < i → s.2.getD p 0 = min (cut.getD p 0) (other.getD p 0)) ⟨rfl, rfl, fun p hp => absurd hp (by omega), fun p hp => absurd hp (by omega)⟩ fun i s hi H => ?_).bind fun o ho => ?_
  · obtain ⟨s49, s50⟩ := s
    obtain ⟨H1, H2, H3, H4⟩ := H
    simp only at H1 H2 H3 H4
    unfold f6_b0
    refine tot_ix hi (tot_ix (by omega) (tot_need (ap8 (by omega) (by simp)) (tot_need (ap8 (by omega) (by simp)) (tot_some ⟨_, rfl, by simp [H1], by simp [H2], fun p hp => ?_, fun p hp => ?_⟩))))
    · simp only
      rw [getD_app]
      split
      · exact H3 p (by omega)
      · rw [show p = i by omega, H1, Nat.sub_self]; rfl
    · simp only
      rw [getD_app]
      split
      · exact H4 p (by omega)
      · rw [show p = i by omega, H2, Nat.sub_self]; rfl
  · obtain ⟨⟨up, down⟩, rfl, g1, g2, g3, g4⟩ := ho
    simp only at g1 g2 g3 g4 ⊢
    have u1 : CutOk n up := ⟨by omega, fun p hp => by rw [g3 p (by omega)]; have := c1.2 p (by omega); omega⟩
    have u2 : CutIn l up := fun p hp => by rw [g3 p (by omega)]; have := c2 p (by omega); have := d2 p (by omega); omega
    have u0 : ∀ j, j < l.length → (InC l up j ↔ InC l cut j ∨ InC l other j) := fun j hj => by
      have := hnd j hj
      unfold InC
      rw [g3 _ (by omega)]; omega
    have u3 : Cons l up := fun b hb hib q hq => by
      have hql : q < l.length := by have := hq.lt; omega
      rcases (u0 b hb).1 hib with k | k
      · exact (u0 q hql).2 (.inl (c3 b hb k q hq))
      · exact (u0 q hql).2 (.inr (d3 b hb k q hq))
    have v1 : CutOk n down := ⟨by omega, fun p hp => by rw [g4 p (by omega)]; have := c1.2 p (by omega); have := d1.2 p (by omega); omega⟩
    have v2 : CutIn l down := fun p hp => by rw [g4 p (by omega)]; have := c2 p (by omega); have := d2 p (by omega); omega
    have v0 : ∀ j, j < l.length → (InC l down j ↔ InC l cut j ∧ InC l other j) := fun j hj => by
      have := hnd j hj
      unfold InC
      rw [g4 _ (by omega)]; omega
    have v3 : Cons l down := fun b hb hib q hq => by
      have hql : q < l.length := by have := hq.lt; omega
      have k := (v0 b hb).1 hib
      exact (v0 q hql).2 ⟨c3 b hb k.1 q hq, d3 b hb k.2 q hq⟩
    rw [f32_yes hok u1 u2 u3, f32_yes hok v1 v2 v3, f8_t]
    exact tot_some rfl
end Go.Ab

set_option linter.unusedVariables false
namespace Go.Ab

/-! layer 29: orders -/
/-- All that is before an event is done, and it is not. -/
def Free (l : List Act) (d : List Bool) (j : Nat) : Prop := d.getD j default = false ∧ ∀ a, Pst l a j → d.getD a default = true
open Classical in
noncomputable def rdy (l : List Act) (d : List Bool) : List Int := ((List.range l.length).filter fun j => decide (Free l d j)).map fun j : Nat => (j : Int)
/-- The turn's choice. -/
noncomputable def turn (l : List Act) (ts : List Int) (i : Nat) (d : List Bool) : Int := if i < ts.length then (ts.getD i default).tmod (rdy l d).length else 0
noncomputable def nxt (l : List Act) (ts : List Int) (i : Nat) (d : List Bool) : Int := (rdy l d).getD (turn l ts i d).toNat default
noncomputable def ordS (l : List Act) (ts : List Int) : Nat → List Bool × List Int
  | 0 => (List.replicate l.length false, [])
  | i + 1 => ((ordS l ts i).1.set (nxt l ts i (ordS l ts i).1).toNat true, (ordS l ts i).2 ++ [nxt l ts i (ordS l ts i).1])
theorem rdy_len {l : List Act} {d : List Bool} : (rdy l d).length ≤ l.length := by
  unfold rdy
  rw [List.length_map]
  exact Nat.le_trans (List.length_filter_le _ _) (by simp)
theorem rdy_mem {l : List Act} {d : List Bool} {x : Int} : x ∈ rdy l d ↔ ∃ j : Nat, j < l.length ∧ Free l d j ∧ x = j := by
  unfold rdy
  simp only [List.mem_map, List.mem_filter, List.mem_range, decide_eq_true_eq]
  constructor
  · rintro ⟨j, ⟨h1, h2⟩, rfl⟩; exact ⟨j, h1, h2, rfl⟩
  · rintro ⟨j, h1, h2, rfl⟩; exact ⟨j, ⟨h1, h2⟩, rfl⟩
theorem cntP_all {P : Nat → Prop} : ∀ {n : Nat}, cntP P n = n → ∀ a, a < n → P a := by
  intro n
  induction n with
  | zero => intro _ a ha; omega
  | succ n ih =>
    intro h a ha
    simp only [cntP] at h
    have := cntP_len (P := P) (k := n)
    by_cases hp : P n
    · rw [if_pos hp] at h
      rcases Nat.lt_or_ge a n with c | c
      · exact ih (by omega) a c
      · rw [show a = n by omega]; exact hp
    · rw [if_neg hp] at h; omega
theorem cntP_congr {P Q : Nat → Prop} {n : Nat} (h : ∀ a, a < n → (P a ↔ Q a)) : cntP P n = cntP Q n :=
  Nat.le_antisymm (cntP_le fun a ha => (h a ha).1) (cntP_le fun a ha => (h a ha).2)
theorem cntP_add {P Q : Nat → Prop} {x : Nat} (hx : ¬ P x) (hQ : ∀ a, Q a ↔ P a ∨ a = x) : ∀ {n : Nat}, cntP Q n = cntP P n + if x < n then 1 else 0 := by
  intro n
  induction n with
  | zero => simp [cntP]
  | succ n ih =>
    simp only [cntP, ih]
    by_cases e : x = n
    · subst e
      rw [if_pos ((hQ x).2 (.inr rfl)), if_neg hx, if_neg (by omega), if_pos (by omega)]
    · have : Q n ↔ P n := by rw [hQ]; exact ⟨fun h => h.resolve_right (fun k => e k.symm), .inl⟩
      by_cases hp : P n
      · rw [if_pos (this.2 hp), if_pos hp]
        by_cases h : x < n
        · rw [if_pos h, if_pos (by omega)]
        · rw [if_neg h, if_neg (by omega)]
      · rw [if_neg (fun h => hp (this.1 h)), if_neg hp]
        by_cases h : x < n
        · rw [if_pos h, if_pos (by omega)]
        · rw [if_neg h, if_neg (by omega)]

structure OInv (l : List Act) (i : Nat) (d : List Bool) (o : List Int) : Prop where
  dlen : d.length = l.length
  olen : o.length = i
  rg : ∀ k, k < i → ∃ j : Nat, j < l.length ∧ o.getD k default = j
  inj : ∀ k k', k < i → k' < i → o.getD k default = o.getD k' default → k = k'
  up : ∀ k j, k < i → Pst l j (o.getD k default).toNat → ∃ k', k' < k ∧ o.getD k' default = j
  done : ∀ j : Nat, j < l.length → (d.getD j default = true ↔ ∃ k, k < i ∧ o.getD k default = j)
  cnt : cntP (fun j => d.getD j default = true) l.length = i
/-- What is done has all that is before it. -/
theorem OInv.down {l : List Act} {i : Nat} {d : List Bool} {o : List Int} (h : OInv l i d o) {a j : Nat} (hj : j < l.length) (hd : d.getD j default = true) (hp : Pst l a j) : d.getD a default = true := by
  obtain ⟨k, k1, k2⟩ := (h.done j hj).1 hd
  obtain ⟨k', k3, k4⟩ := h.up k a k1 (by rw [k2, Int.toNat_natCast]; exact hp)
  exact (h.done a (by have := hp.lt; omega)).2 ⟨k', by omega, k4⟩
theorem OInv.ready {l : List Act} {i : Nat} {d : List Bool} {o : List Int} (h : OInv l i d o) (hi : i < l.length) : 0 < (rdy l d).length := by
  have : ∃ j, j < l.length ∧ d.getD j default = false := by
    refine Classical.byContradiction fun hc => ?_
    have hall : ∀ a, a < l.length → d.getD a default = true := fun a ha => by
      cases hd : d.getD a default with
      | true => rfl
      | false => exact absurd ⟨a, ha, hd⟩ hc
    have : cntP (fun j => d.getD j default = true) l.length = l.length := by
      have : ∀ n, n ≤ l.length → cntP (fun j => d.getD j default = true) n = n := by
        intro n
        induction n with
        | zero => intro _; rfl
        | succ n ih => intro hn; simp only [cntP]; rw [if_pos (hall n (by omega)), ih (by omega)]
      exact this _ (Nat.le_refl _)
    have := h.cnt
    omega
  obtain ⟨j, hj, hd⟩ := this
  -- the first one that is not done
  have hex : ∃ m, m < l.length ∧ d.getD m default = false ∧ ∀ a, a < m → d.getD a default = true := by
    induction j using Nat.strongRecOn with
    | _ j ih =>
      by_cases hc : ∃ a, a < j ∧ d.getD a default = false
      · obtain ⟨a, a1, a2⟩ := hc
        exact ih a a1 (by omega) a2
      · exact ⟨j, hj, hd, fun a ha => by
          cases hda : d.getD a default with
          | true => rfl
          | false => exact absurd ⟨a, ha, hda⟩ hc⟩
  obtain ⟨m, m1, m2, m3⟩ := hex
  exact List.length_pos_of_mem (rdy_mem.2 ⟨m, m1, ⟨m2, fun a ha => m3 a ha.lt⟩, rfl⟩)
theorem turn_rg {l : List Act} {ts : List Int} {i : Nat} {d : List Bool} (hts : ∀ x, x < ts.length → 0 ≤ ts.getD x default) (hr : 0 < (rdy l d).length) : 0 ≤ turn l ts i d ∧ turn l ts i d < (rdy l d).length := by
  unfold turn
  split
  · rename_i h
    have h0 := hts i h
    rw [Int.tmod_eq_emod_of_nonneg h0]
    exact ⟨Int.emod_nonneg _ (by omega), Int.emod_lt_of_pos _ (by omega)⟩
  · omega
theorem OInv.next {l : List Act} {ts : List Int} {i : Nat} {d : List Bool} {o : List Int} (hts : ∀ x, x < ts.length → 0 ≤ ts.getD x default) (h : OInv l i d o) (hi : i < l.length) :
    ∃ j : Nat, j < l.length ∧ Free l d j ∧ nxt l ts i d = j ∧ OInv l (i + 1) (d.set j true) (o ++ [(j : Int)]) := by
  have hr := h.ready hi
  have ht := turn_rg (l := l) (i := i) (d := d) hts hr
  have hm : nxt l ts i d ∈ rdy l d := getD_mem (by omega)
  obtain ⟨j, j1, j2, j3⟩ := rdy_mem.1 hm
  have hnot : ¬ ∃ k, k < i ∧ o.getD k default = (j : Int) := fun hk => by
    have := (h.done j j1).2 hk
    rw [j2.1] at this; cases this
  have hold : ∀ k, k < i → (o ++ [(j : Int)]).getD k default = o.getD k default := fun k hk => by rw [getD_app, if_pos (by rw [h.olen]; exact hk)]
  have hnew : (o ++ [(j : Int)]).getD i default = (j : Int) := by rw [getD_app, if_neg (by rw [h.olen]; omega), h.olen, Nat.sub_self]; rfl
  refine ⟨j, j1, j2, j3, ⟨by simp [h.dlen], by simp [h.olen], fun k hk => ?_, fun k k' hk hk' he => ?_, fun k x hk hp => ?_, fun x hx => ?_, ?_⟩⟩
  · rcases Nat.lt_or_ge k i with c | c
    · rw [hold k c]; exact h.rg k c
    · rw [show k = i by omega, hnew]; exact ⟨j, j1, rfl⟩
  · rcases Nat.lt_or_ge k i with c | c <;> rcases Nat.lt_or_ge k' i with c' | c'
    · rw [hold k c, hold k' c'] at he; exact h.inj k k' c c' he
    · rw [hold k c, show k' = i by omega, hnew] at he; exact absurd ⟨k, c, he⟩ hnot
    · rw [hold k' c', show k = i by omega, hnew] at he; exact absurd ⟨k', c', he.symm⟩ hnot
    · omega
  · rcases Nat.lt_or_ge k i with c | c
    · rw [hold k c] at hp
      obtain ⟨k', k1, k2⟩ := h.up k x c hp
      exact ⟨k', k1, by rw [hold k' (by omega)]; exact k2⟩
    · have ek : k = i := by omega
      subst ek
      rw [hnew, Int.toNat_natCast] at hp
      obtain ⟨k', k1, k2⟩ := (h.done x (by have := hp.lt; omega)).1 (j2.2 x hp)
      exact ⟨k', k1, by rw [hold k' k1]; exact k2⟩
  · rw [getD_set (by rw [h.dlen]; exact j1)]
    split
    · rename_i e
      subst e
      exact ⟨fun _ => ⟨i, by omega, hnew⟩, fun _ => rfl⟩
    · rename_i e
      rw [h.done x hx]
      constructor
      · rintro ⟨k, k1, k2⟩; exact ⟨k, by omega, by rw [hold k k1]; exact k2⟩
      · rintro ⟨k, k1, k2⟩
        rcases Nat.lt_or_ge k i with c | c
        · rw [hold k c] at k2; exact ⟨k, c, k2⟩
        · rw [show k = i by omega, hnew] at k2; exact absurd (by omega) e
  · rw [cntP_add (P := fun j => d.getD j default = true) (x := j) (by rw [j2.1]; decide) (fun a => by
      rw [getD_set (by rw [h.dlen]; exact j1)]
      by_cases e : j = a
      · rw [if_pos e]; simp [e]
      · rw [if_neg e]; exact ⟨.inl, fun k => k.resolve_right (fun q => e q.symm)⟩), if_pos j1, h.cnt]
theorem ordS_inv {l : List Act} {ts : List Int} (hts : ∀ x, x < ts.length → 0 ≤ ts.getD x default) : ∀ i, i ≤ l.length → OInv l i (ordS l ts i).1 (ordS l ts i).2 := by
  intro i
  induction i with
  | zero =>
    intro _
    refine ⟨by simp [ordS], rfl, fun k hk => absurd hk (by omega), fun k k' hk => absurd hk (by omega), fun k j hk => absurd hk (by omega), fun j hj => ?_, ?_⟩
    · simp only [ordS]
      rw [getD_rep hj]
      exact ⟨fun h => (by cases h), fun ⟨k, h, _⟩ => absurd h (by omega)⟩
    · have : ∀ n, n ≤ l.length → cntP (fun j => (List.replicate l.length false).getD j default = true) n = 0 := by
        intro n
        induction n with
        | zero => intro _; rfl
        | succ n ih => intro hn; simp only [cntP]; rw [if_neg (by rw [getD_rep (by omega)]; decide), ih (by omega)]
      exact this _ (Nat.le_refl _)
  | succ i ih =>
    intro hi
    obtain ⟨j, j1, j2, j3, h⟩ := (ih (by omega)).next hts (by omega)
    simp only [ordS, j3, Int.toNat_natCast]
    exact h

def OrdR (n : Int) (l : List Act) (ts : List Int) (r : List Int × Int) : Prop := (¬ Ok n l ∧ r = ([], 1)) ∨ (Ok n l ∧ (¬ (∀ x, x < ts.length → 0 ≤ ts.getD x default)) ∧ r = ([], 7)) ∨ (Ok n l ∧ (∀ x, x < ts.length → 0 ≤ ts.getD x default) ∧ r = ((ordS l ts l.length).2, 0))
theorem OrdR.uniq {n : Int} {l : List Act} {ts : List Int} {r q : List Int × Int} (h : OrdR n l ts r) (k : OrdR n l ts q) : r = q := by
  rcases h with ⟨h1, rfl⟩ | ⟨h1, h2, rfl⟩ | ⟨h1, h2, rfl⟩ <;> rcases k with ⟨k1, rfl⟩ | ⟨k1, k2, rfl⟩ | ⟨k1, k2, rfl⟩
  · rfl
  · exact absurd k1 h1
  · exact absurd k1 h1
  · exact absurd h1 k1
  · rfl
  · exact absurd k2 h2
  · exact absurd h1 k1
  · exact absurd h2 k2
  · rfl
open Classical in
theorem rdy_snoc {l : List Act} {d : List Bool} (i : Nat) : ((List.range (i + 1)).filter fun j => decide (Free l d j)).map (fun j : Nat => (j : Int)) = ((List.range i).filter fun j => decide (Free l d j)).map (fun j : Nat => (j : Int)) ++ if Free l d i then [(i : Int)] else [] := by
  rw [List.range_succ, List.filter_append, List.map_append]
  congr 1
  by_cases h : Free l d i
  · rw [if_pos h, List.filter_cons_of_pos (by simpa using h)]; rfl
  · rw [if_neg h, List.filter_cons_of_neg (by simpa using h)]; rfl
open Classical in
theorem rdyp_len {l : List Act} {d : List Bool} {i : Nat} : (((List.range i).filter fun j => decide (Free l d j)).map (fun j : Nat => (j : Int))).length ≤ i := by
  rw [List.length_map]
  exact Nat.le_trans (List.length_filter_le _ _) (by simp)

theorem f41_t (n : Int) (l : List Act) (ts : List Int) : Tot (f41 n l ts) (OrdR n l ts) := by
  unfold f41
  rw [valid_p]
  simp only [Option.bind_some]
  by_cases hok : Ok n l
  rotate_left
  · refine tot_if (fun h => tot_some (.inl ⟨hok, rfl⟩)) (fun h => ?_)
    simp [hok] at h
  refine tot_if (fun h => by simp [hok] at h) (fun _ => ?_)
  have hq : f75 ts (fun y1 => f76 y1) = some (ts.any fun x => decide (x < 0)) := f75_any ts _
  rw [hq]
  simp only [Option.bind_some]
  refine tot_if (fun h => tot_some (.inr (.inl ⟨hok, any_neg.1 h, rfl⟩))) (fun h => ?_)
  have hts : ∀ x, x < ts.length → 0 ≤ ts.getD x default := Classical.byContradiction fun k => by rw [any_neg.2 k] at h; cases h
  have hN := hok.len
  rw [show f62 n l = some () from rfl]
  simp only [Option.bind_some]
  -- what each event waits for
  refine (f82_t hok (fun i s => s.length = i ∧ ∀ b, b < i → Bef l b (s.getD b default)) ⟨rfl, fun b hb => absurd hb (by omega)⟩ fun i s bf hi hbf H => ?_).bind fun nd' hn => ?_
  · unfold f41_b0
    simp only
    refine tot_need (ap24 (by omega) (by simp)) (tot_some ⟨by simp [H.1], fun b hb => ?_⟩)
    rw [getD_app]
    split
    · exact H.2 b (by omega)
    · rw [show b = i by omega, H.1, Nat.sub_self]; exact hbf
  refine tot_need (mkOk_t (by omega) (by omega)) ?_
  rw [toNat_len]
  refine (tot_lrun (fun s : List Int × List Bool => s.1.length ≤ l.length ∧ s = ((ordS l ts s.1.length).2, (ordS l ts s.1.length).1)) (fun s => l.length - s.1.length) (fun r => r = (ordS l ts l.length).2) (fun s hs => ?_) (l.length + 2) _ ⟨Nat.zero_le _, rfl⟩ (by simp only [List.length_nil]; omega)).bind fun r hr => tot_some (.inr (.inr ⟨hok, hts, by rw [hr]⟩))
  obtain ⟨s21, s22⟩ := s
  obtain ⟨hle, hs⟩ := hs
  simp only at hle hs
  generalize hi : s21.length = i at hle hs
  obtain ⟨rfl, rfl⟩ := Prod.mk.inj hs
  have HI := ordS_inv (l := l) hts i hle
  unfold f41_b1
  simp only
  rw [HI.olen]
  refine tot_if (fun h => ?_) (fun h => ?_)
  · have hil : i < l.length := by have := of_decide_eq_true h; omega
    obtain ⟨j, j1, j2, j3, j4⟩ := HI.next (ts := ts) hts hil
    have hrd := HI.ready hil
    have htr := turn_rg (l := l) (i := i) (d := (ordS l ts i).1) hts hrd
    refine Tot.bind (Q := fun o => o = .inl (rdy l (ordS l ts i).1)) ?_ fun o ho => ?_
    · rw [toNat_len]
      refine (tot_rng (fun k s => s = ((List.range k).filter fun j => @decide (Free l (ordS l ts i).1 j) (Classical.propDecidable _)).map (fun j : Nat => (j : Int))) rfl fun k s hk H => ?_).mono fun o ho => ?_
      · subst H
        unfold f41_b2
        obtain ⟨b1, b2⟩ := hn.2 k hk
        refine Tot.bind (Q := fun o => ∃ s', o = .inl s' ∧ s' = ((List.range (k + 1)).filter fun j => @decide (Free l (ordS l ts i).1 j) (Classical.propDecidable _)).map (fun j : Nat => (j : Int))) ?_ fun o ho => ?_
        · refine tot_ix (by rw [HI.dlen]; exact hk) ?_
          rw [ix_getD (show k < nd'.length by rw [hn.1]; exact hk)]
          simp only [Option.isSome_some, Bool.or_true, cond_true, Option.getD_some]
          have e75 : f75 (nd'.getD k default) (fun y1 => f77 y1 (ordS l ts i).1) = some ((nd'.getD k default).any fun x => !(ordS l ts i).1.getD x.toNat default) := by
            rw [← f75_any]
            unfold f75 f86
            have eb : ∀ (p : List Int), (∀ x ∈ p, 0 ≤ x ∧ x < (ordS l ts i).1.length) → ∀ (m z : Nat) (s : Unit), z + m = p.length → rng (f86_b0 p fun y1 => f77 y1 (ordS l ts i).1) m (z : Int) s = rng (f86_b0 p fun y => some (!(ordS l ts i).1.getD y.toNat default)) m (z : Int) s := by
              intro p hp m
              induction m with
              | zero => intro z s _; rfl
              | succ m ih =>
                intro z s hz
                simp only [rng]
                have : f86_b0 p (fun y1 => f77 y1 (ordS l ts i).1) (z : Int) s = f86_b0 p (fun y => some (!(ordS l ts i).1.getD y.toNat default)) (z : Int) s := by
                  unfold f86_b0
                  have hzl : z < p.length := by omega
                  rw [ix_getD hzl]
                  simp only [Option.bind_some]
                  have := hp _ (getD_mem (d := default) hzl)
                  unfold f77
                  rw [ix_int this.1 this.2]; rfl
                rw [this]
                cases f86_b0 p (fun y => some (!(ordS l ts i).1.getD y.toNat default)) (z : Int) s with
                | none => rfl
                | some o => cases o with
                  | inl s' => exact ih (z + 1) s' (by omega)
                  | inr r => rfl
            have hmem : ∀ x ∈ nd'.getD k default, 0 ≤ x ∧ x < (ordS l ts i).1.length := fun x hx => by
              obtain ⟨a, rfl, a1, _⟩ := (b1 x).1 hx
              rw [HI.dlen]; omega
            rw [toNat_len, show (0 : Int) = ((0 : Nat) : Int) from rfl, eb _ hmem _ 0 () (by omega)]
          rw [e75]
          simp only [Option.isSome_some, Bool.or_true, cond_true, Option.getD_some]
          have hfree : ((!(ordS l ts i).1.getD k default) && !((nd'.getD k default).any fun x => !(ordS l ts i).1.getD x.toNat default)) = true ↔ Free l (ordS l ts i).1 k := by
            rw [Bool.and_eq_true, Bool.not_eq_true', Bool.not_eq_true', List.any_eq_false]
            constructor
            · rintro ⟨h1, h2⟩
              refine ⟨h1, fun a ha => ?_⟩
              obtain ⟨c, c1, c2, c3⟩ := pst_iff.1 ha
              have hc := h2 (c : Int) ((b1 _).2 ⟨c, rfl, c1, c2⟩)
              simp only [Int.toNat_natCast, Bool.not_eq_true, Bool.not_eq_false'] at hc
              rcases c3 with rfl | c3
              · exact hc
              · exact HI.down (by omega) hc c3
            · rintro ⟨h1, h2⟩
              refine ⟨h1, fun x hx => ?_⟩
              obtain ⟨a, rfl, a1, a2⟩ := (b1 x).1 hx
              simp only [Int.toNat_natCast]
              rw [h2 a (.dir a1 a2)]; decide
          refine tot_if (fun h => ?_) (fun h => ?_)
          · refine tot_need (ap8 (Nat.le_trans rdyp_len (by omega)) (by simp)) (tot_some ⟨_, rfl, ?_⟩)
            rw [rdy_snoc, if_pos (hfree.1 h)]
          · refine tot_some ⟨_, rfl, ?_⟩
            rw [rdy_snoc, if_neg (fun q => by rw [hfree.2 q] at h; cases h), List.append_nil]
        · obtain ⟨s', rfl, h⟩ := ho
          exact tot_some ⟨_, rfl, h⟩
      · obtain ⟨s', rfl, rfl⟩ := ho
        rfl
    subst ho
    simp only
    refine Tot.bind (Q := fun o => o = .inl (turn l ts i (ordS l ts i).1)) ?_ fun o ho => ?_
    · unfold turn
      refine tot_if (fun h => ?_) (fun h => ?_)
      · have hit : i < ts.length := by have := of_decide_eq_true h; omega
        rw [if_pos hit]
        refine tot_ix hit (tot_need ?_ (tot_some rfl))
        simp only [Bool.not_eq_true', decide_eq_false_iff_not]; omega
      · have hit : ¬ i < ts.length := by have := of_decide_eq_false h; omega
        rw [if_neg hit]; exact tot_some rfl
    subst ho
    simp only
    refine tot_ixz htr.1 htr.2 ?_
    have hn2 : (rdy l (ordS l ts i).1).getD (turn l ts i (ordS l ts i).1).toNat default = (j : Int) := j3
    rw [hn2]
    refine tot_ix (by rw [HI.dlen]; exact j1) (tot_need (ap8 (by rw [← HI.olen] at hle; omega) (by simp)) (tot_some (.inl ⟨_, rfl, ⟨by simp only [List.length_append, HI.olen, List.length_singleton]; omega, ?_⟩, ?_⟩)))
    · simp only [List.length_append, HI.olen, List.length_singleton, ordS, j3]
    · simp only [List.length_append, HI.olen, List.length_singleton]; omega
  · have hil : i = l.length := by have := of_decide_eq_false h; omega
    subst hil
    exact tot_some (.inr ⟨_, rfl, rfl⟩)
theorem f42_t (n : Int) (l : List Act) (ts : List Int) (hR : RA l) : Tot (f42 n l ts) (OrdR n l ts) := by
  unfold f42
  rw [valid_r n l hR]
  simp only [Option.bind_some]
  by_cases hok : Ok n l
  rotate_left
  · refine tot_if (fun h => tot_some (.inl ⟨hok, rfl⟩)) (fun h => ?_)
    simp [hok] at h
  refine tot_if (fun h => by simp [hok] at h) (fun _ => ?_)
  have hN := hok.len
  rw [toNat_len]
  refine (tot_rngx (fun k _ => ∀ x, x < k → 0 ≤ ts.getD x default) (fun _ => ¬ (∀ x, x < ts.length → 0 ≤ ts.getD x default)) (fun x hx => absurd hx (by omega)) fun k _ hk H => ?_).bind fun o ho => ?_
  · unfold f42_b0
    refine tot_ix hk (tot_if (fun h => tot_some (.inr ⟨_, rfl, fun q => ?_⟩)) (fun h => tot_some (.inl ⟨_, rfl, fun x hx => ?_⟩)))
    · have h1 := of_decide_eq_true h
      have h2 := q k hk; omega
    · rcases Nat.lt_or_ge x k with c | c
      · exact H x c
      · rw [show x = k by omega]; have := of_decide_eq_false h; omega
  rcases ho with ⟨⟨⟩, rfl, hts⟩ | ⟨⟨⟩, rfl, h⟩
  rotate_left
  · exact tot_some (.inr (.inl ⟨hok, h, rfl⟩))
  simp only
  refine (f23_t hok.len).bind fun P hP => tot_need (mkOk_t (by omega) (by omega)) ?_
  rw [toNat_len]
  refine (tot_rng (fun i (s : List Bool × List Int) => s = ordS l ts i) rfl fun i s hi H => ?_).bind fun o ho => ?_
  · subst H
    have HI := ordS_inv (l := l) hts i (by omega)
    obtain ⟨j, j1, j2, j3, j4⟩ := HI.next (ts := ts) hts hi
    have hrd := HI.ready hi
    have htr := turn_rg (l := l) (i := i) (d := (ordS l ts i).1) hts hrd
    unfold f42_b1
    have es : ordS l ts i = ((ordS l ts i).1, (ordS l ts i).2) := rfl
    rw [es]
    simp only
    refine Tot.bind (Q := fun o => o = .inl (rdy l (ordS l ts i).1)) ?_ fun o ho => ?_
    · rw [toNat_len]
      refine (tot_rng (fun k s => s = ((List.range k).filter fun j => @decide (Free l (ordS l ts i).1 j) (Classical.propDecidable _)).map (fun j : Nat => (j : Int))) rfl fun k s hk H => ?_).mono fun o ho => ?_
      · subst H
        unfold f42_b2
        obtain ⟨g1, g2⟩ := hP.2 k hk
        refine Tot.bind (Q := fun o => ∃ s', o = .inl s' ∧ s' = ((List.range (k + 1)).filter fun j => @decide (Free l (ordS l ts i).1 j) (Classical.propDecidable _)).map (fun j : Nat => (j : Int))) ?_ fun o ho => ?_
        · refine tot_ix (by rw [HI.dlen]; exact hk) (tot_ix (by rw [hP.1]; exact hk) ?_)
          rw [toNat_len, g1]
          refine (tot_rng (fun m (b : Bool) => (b = true ↔ (ordS l ts i).1.getD k default = false ∧ ∀ a, a < m → Pst l a k → (ordS l ts i).1.getD a default = true)) ?_ fun m b hm H => ?_).bind fun o ho => ?_
          · simp only [Bool.not_eq_true']
            exact ⟨fun h => ⟨h, fun a ha => absurd ha (by omega)⟩, fun h => h.1⟩
          · unfold f42_b3
            refine tot_ix (by omega) ?_
            rw [ix_getD (show m < (ordS l ts i).1.length by rw [HI.dlen]; exact hm)]
            simp only [Option.isSome_some, Bool.or_true, cond_true, Option.getD_some]
            refine tot_some ⟨_, rfl, ?_⟩
            rw [Bool.and_eq_true, H, Bool.or_eq_true, Bool.not_eq_true']
            have hg := g2 m hm
            constructor
            · rintro ⟨⟨h1, h2⟩, h3⟩
              refine ⟨h1, fun a ha hp => ?_⟩
              rcases Nat.lt_or_ge a m with c | c
              · exact h2 a c hp
              · have ea : a = m := by omega
                subst ea
                rcases h3 with h3 | h3
                · rw [hg.2 hp] at h3; cases h3
                · exact h3
            · rintro ⟨h1, h2⟩
              refine ⟨⟨h1, fun a ha hp => h2 a (by omega) hp⟩, ?_⟩
              cases hx : (P.getD k default).getD m default with
              | false => exact .inl rfl
              | true => exact .inr (h2 m (by omega) (hg.1 hx))
          · obtain ⟨b, rfl, hb⟩ := ho
            simp only
            have hfree : b = true ↔ Free l (ordS l ts i).1 k := hb.trans ⟨fun h => ⟨h.1, fun a ha => h.2 a (by have := ha.lt; omega) ha⟩, fun h => ⟨h.1, fun a _ ha => h.2 a ha⟩⟩
            refine tot_if (fun h => ?_) (fun h => ?_)
            · refine tot_need (ap8 (Nat.le_trans rdyp_len (by omega)) (by simp)) (tot_some ⟨_, rfl, ?_⟩)
              rw [rdy_snoc, if_pos (hfree.1 h)]
            · refine tot_some ⟨_, rfl, ?_⟩
              rw [rdy_snoc, if_neg (fun q => by rw [hfree.2 q] at h; cases h), List.append_nil]
        · obtain ⟨s', rfl, h⟩ := ho
          exact tot_some ⟨_, rfl, h⟩
      · obtain ⟨s', rfl, rfl⟩ := ho
        rfl
    subst ho
    simp only
    have e0 : ix (rdy l (ordS l ts i).1) 0 = some ((rdy l (ordS l ts i).1).getD 0 default) := ix_getD (i := 0) hrd
    rw [e0]
    simp only [Option.bind_some]
    refine Tot.bind (Q := fun o => o = .inl (j : Int)) ?_ fun o ho => ?_
    · have hn2 : (rdy l (ordS l ts i).1).getD (turn l ts i (ordS l ts i).1).toNat default = (j : Int) := j3
      refine tot_if (fun h => ?_) (fun h => ?_)
      · have hit : i < ts.length := by have := of_decide_eq_true h; omega
        have et : (ts.getD i default).tmod (rdy l (ordS l ts i).1).length = turn l ts i (ordS l ts i).1 := by unfold turn; rw [if_pos hit]
        refine tot_ix hit (tot_need ?_ ?_)
        · simp only [Bool.not_eq_true', decide_eq_false_iff_not]; omega
        · rw [et]
          refine tot_ixz htr.1 htr.2 (tot_some (by rw [hn2]))
      · have hit : ¬ i < ts.length := by have := of_decide_eq_false h; omega
        have et : turn l ts i (ordS l ts i).1 = 0 := by unfold turn; rw [if_neg hit]
        rw [et] at hn2
        exact tot_some (by rw [← hn2]; rfl)
    subst ho
    simp only
    refine tot_ix (by rw [HI.dlen]; exact j1) (tot_need (ap8 (by rw [HI.olen]; omega) (by simp)) (tot_some ⟨_, rfl, ?_⟩))
    simp only [ordS, j3]
  · obtain ⟨⟨s13, s14⟩, rfl, h⟩ := ho
    simp only
    refine tot_some (.inr (.inr ⟨hok, hts, ?_⟩))
    rw [← h]
end Go.Ab

set_option linter.unusedVariables false
namespace Go.Ab

/-! layer 29: a history written down in another order -/
def oN (a : List Int) (k : Nat) : Nat := (a.getD k default).toNat
structure Ord (l : List Act) (a : List Int) : Prop where
  len : a.length = l.length
  val : ∀ k, k < l.length → oN a k < l.length ∧ a.getD k default = (oN a k : Int)
  inj : ∀ k k', k < l.length → k' < l.length → oN a k = oN a k' → k = k'
  sur : ∀ j, j < l.length → ∃ k, k < l.length ∧ oN a k = j
  up : ∀ k j, k < l.length → Pst l j (oN a k) → ∃ k', k' < k ∧ oN a k' = j
theorem ord_of {l : List Act} {ts : List Int} (hts : ∀ x, x < ts.length → 0 ≤ ts.getD x default) : Ord l (ordS l ts l.length).2 := by
  have h := ordS_inv (l := l) hts l.length (Nat.le_refl _)
  have hv : ∀ k, k < l.length → oN (ordS l ts l.length).2 k < l.length ∧ (ordS l ts l.length).2.getD k default = (oN (ordS l ts l.length).2 k : Int) := fun k hk => by
    obtain ⟨j, j1, j2⟩ := h.rg k hk
    unfold oN
    rw [j2, Int.toNat_natCast]
    exact ⟨j1, rfl⟩
  refine ⟨h.olen, hv, fun k k' hk hk' he => h.inj k k' hk hk' (by rw [(hv k hk).2, (hv k' hk').2, he]), fun j hj => ?_, fun k j hk hp => ?_⟩
  · obtain ⟨k, k1, k2⟩ := (h.done j hj).1 (cntP_all h.cnt j hj)
    exact ⟨k, k1, by unfold oN; rw [k2, Int.toNat_natCast]⟩
  · obtain ⟨k', k1, k2⟩ := h.up k j hk hp
    exact ⟨k', k1, by unfold oN; rw [k2, Int.toNat_natCast]⟩
theorem Ord.lt {l : List Act} {a : List Int} (h : Ord l a) {k k' : Nat} (hk : k < l.length) (hk' : k' < l.length) (hp : Pst l (oN a k) (oN a k')) : k < k' := by
  obtain ⟨m, m1, m2⟩ := h.up k' _ hk' hp
  have := h.inj m k (by omega) hk m2
  omega
/-- The history in this order. -/
def ag (l : List Act) (a : List Int) : List Act := a.map fun x => l.getD x.toNat default
theorem getD_map {α β : Type} {g : α → β} {x : List α} {j : Nat} {d : α} {e : β} (h : j < x.length) : (x.map g).getD j e = g (x.getD j d) := by
  rw [List.getD_eq_getElem?_getD, List.getD_eq_getElem?_getD, List.getElem?_map, List.getElem?_eq_getElem h]; rfl
section
variable {l : List Act} {a : List Int} (h : Ord l a)
include h
theorem ag_len : (ag l a).length = l.length := by unfold ag; rw [List.length_map]; exact h.len
theorem ag_get {k : Nat} (hk : k < l.length) : (ag l a).getD k default = l.getD (oN a k) default := by
  unfold ag; rw [getD_map (d := default) (by rw [h.len]; exact hk)]; rfl
theorem ag_nd {k : Nat} (hk : k < l.length) : nd (ag l a) k = nd l (oN a k) := by unfold nd; rw [ag_get h hk]
theorem ag_kd {k : Nat} (hk : k < l.length) : kd (ag l a) k = kd l (oN a k) := by unfold kd; rw [ag_get h hk]
theorem ag_ms {k : Nat} (hk : k < l.length) : ms (ag l a) k = ms l (oN a k) := by unfold ms; rw [ag_get h hk]
theorem ag_cl {k : Nat} (hk : k < l.length) : cl (ag l a) k = cl l (oN a k) := by unfold cl; rw [ag_get h hk]
theorem ord_same {k k' : Nat} (hk : k < l.length) (hk' : k' < l.length) (hn : nd l (oN a k) = nd l (oN a k')) : k < k' ↔ oN a k < oN a k' := by
  constructor
  · intro hlt
    rcases Nat.lt_trichotomy (oN a k) (oN a k') with c | c | c
    · exact c
    · have := h.inj k k' hk hk' c; omega
    · have := h.lt hk' hk (pst_same c hn.symm); omega
  · exact fun c => h.lt hk hk' (pst_same c hn)
theorem ag_dir {n : Int} (hok : Ok n l) {k k' : Nat} (hk' : k' < l.length) (hlt : k < k') (hd : Dir (ag l a) k k') : oN a k < oN a k' ∧ Dir l (oN a k) (oN a k') := by
  have hk : k < l.length := by omega
  rcases hd with ⟨h1, h2, h3⟩ | ⟨_, h2, h3⟩
  · rw [ag_kd h hk] at h1
    rw [ag_kd h hk'] at h2
    rw [ag_ms h hk, ag_ms h hk'] at h3
    refine ⟨?_, .inl ⟨h1, h2, h3⟩⟩
    have c4 := (code_zero (hok.2 _ (h.val k' hk').1).2).2.2.2.1
    obtain ⟨j, j1, j2, j3⟩ : HasS l (oN a k') (ms l (oN a k')) := Classical.byContradiction fun q => c4 (.inl ⟨h2, q⟩)
    have : oN a k = j := by
      rcases Nat.lt_trichotomy (oN a k) j with c | c | c
      · exact absurd (show Dup l j from .inl (.inl ⟨j2, oN a k, c, h1, h3.trans j3.symm⟩)) (code_zero (hok.2 j (by have := (h.val k' hk').1; omega)).2).2.2.1
      · exact c
      · exact absurd (show Dup l (oN a k) from .inl (.inl ⟨h1, j, c, j2, j3.trans h3.symm⟩)) (code_zero (hok.2 _ (h.val k hk).1).2).2.2.1
    omega
  · rw [ag_nd h hk, ag_nd h hk'] at h2
    have hlt' := (ord_same h hk hk' h2).1 hlt
    refine ⟨hlt', .inr ⟨hlt', h2, fun x x1 x2 x3 => ?_⟩⟩
    obtain ⟨m, m1, rfl⟩ := h.sur x (by have := (h.val k' hk').1; omega)
    have y1 := (ord_same h hk m1 x3.symm).2 x1
    have y2 := (ord_same h m1 hk' (x3.trans h2)).2 x2
    have := h3 m y1 y2
    rw [ag_nd h m1, ag_nd h hk] at this
    exact this x3
theorem dir_ag {k k' : Nat} (hk : k < l.length) (hk' : k' < l.length) (hlt : oN a k < oN a k') (hd : Dir l (oN a k) (oN a k')) : k < k' ∧ Dir (ag l a) k k' := by
  have hkk := h.lt hk hk' (.dir hlt hd)
  refine ⟨hkk, ?_⟩
  rcases hd with ⟨h1, h2, h3⟩ | ⟨_, h2, h3⟩
  · left; rw [ag_kd h hk, ag_kd h hk', ag_ms h hk, ag_ms h hk']; exact ⟨h1, h2, h3⟩
  · right
    rw [ag_nd h hk, ag_nd h hk']
    refine ⟨hkk, h2, fun x x1 x2 => ?_⟩
    have hx : x < l.length := by omega
    rw [ag_nd h hx]
    intro x3
    exact h3 (oN a x) ((ord_same h hk hx x3.symm).1 x1) ((ord_same h hx hk' (x3.trans h2)).1 x2) x3
theorem ag_pst {n : Int} (hok : Ok n l) {k k' : Nat} (hk : k < l.length) (hk' : k' < l.length) : Pst (ag l a) k k' ↔ Pst l (oN a k) (oN a k') := by
  constructor
  · intro hp
    induction hp with
    | dir h1 h2 =>
      have := ag_dir h hok hk' h1 h2
      exact .dir this.1 this.2
    | step h1 h2 h3 ih =>
      have := ag_dir h hok hk' h1 h2
      exact .step this.1 this.2 (ih hk (by omega))
  · intro hp
    have key : ∀ {x y : Nat}, Pst l x y → ∀ k', k' < l.length → oN a k' = y → ∀ k, k < l.length → oN a k = x → Pst (ag l a) k k' := by
      intro x y hp
      induction hp with
      | dir h1 h2 =>
        rintro k' hk' rfl k hk rfl
        have := dir_ag h hk hk' h1 h2
        exact .dir this.1 this.2
      | step h1 h2 h3 ih =>
        rintro k' hk' rfl k hk rfl
        obtain ⟨m, m1, rfl⟩ := h.sur _ (Nat.lt_trans h1 (h.val k' hk').1)
        have := dir_ag h m1 hk' h1 h2
        exact .step this.1 this.2 (ih m m1 rfl k hk rfl)
    exact key hp k' hk' rfl k hk rfl
/-- What was written up to a place. -/
def Upto (a : List Int) (i j : Nat) : Prop := ∃ k, k < i ∧ oN a k = j
theorem upto_new {i : Nat} (hi : i < l.length) : ¬ Upto a i (oN a i) := fun ⟨k, k1, k2⟩ => by have := h.inj k i (by omega) hi k2; omega
theorem upto_down {i b j : Nat} (hi : i ≤ l.length) (hu : Upto a i j) (hp : Pst l b j) : Upto a i b := by
  obtain ⟨k, k1, rfl⟩ := hu
  obtain ⟨k', k2, k3⟩ := h.up k b (by omega) hp
  exact ⟨k', by omega, k3⟩
theorem cnt_ag {p : Int} : ∀ {i : Nat}, i ≤ l.length → cnt (ag l a) p i = cntP (fun j => nd l j = p ∧ Upto a i j) l.length := by
  intro i
  induction i with
  | zero =>
    intro _
    have : ∀ n, cntP (fun j => nd l j = p ∧ Upto a 0 j) n = 0 := by
      intro n
      induction n with
      | zero => rfl
      | succ n ih => simp only [cntP]; rw [if_neg (fun ⟨_, k, k1, _⟩ => absurd k1 (by omega)), ih]
    exact (this _).symm
  | succ i ih =>
    intro hi
    have hsucc : ∀ j, Upto a (i + 1) j ↔ Upto a i j ∨ j = oN a i := fun j => by
      constructor
      · rintro ⟨k, k1, k2⟩
        rcases Nat.lt_or_ge k i with c | c
        · exact .inl ⟨k, c, k2⟩
        · rw [show k = i by omega] at k2; exact .inr k2.symm
      · rintro (⟨k, k1, k2⟩ | rfl)
        · exact ⟨k, by omega, k2⟩
        · exact ⟨i, by omega, rfl⟩
    simp only [cnt]
    rw [ih (by omega), ag_nd h (by omega)]
    by_cases hp : nd l (oN a i) = p
    · rw [if_pos hp, cntP_add (P := fun j => nd l j = p ∧ Upto a i j) (Q := fun j => nd l j = p ∧ Upto a (i + 1) j) (x := oN a i) (fun q => upto_new h (by omega) q.2) (fun j => by
        rw [hsucc]
        constructor
        · rintro ⟨q1, q2 | q2⟩
          · exact .inl ⟨q1, q2⟩
          · exact .inr q2
        · rintro (⟨q1, q2⟩ | rfl)
          · exact ⟨q1, .inl q2⟩
          · exact ⟨hp, .inr rfl⟩), if_pos (h.val i (by omega)).1]
    · rw [if_neg hp, Nat.add_zero]
      refine cntP_congr fun j _ => ?_
      rw [hsucc]
      constructor
      · rintro ⟨q1, q2⟩; exact ⟨q1, .inl q2⟩
      · rintro ⟨q1, q2 | rfl⟩
        · exact ⟨q1, q2⟩
        · exact absurd q1 hp
/-- Cuts that count what was written. -/
theorem cut_upto {i : Nat} (hi : i ≤ l.length) {c : List Int} (hc : ∀ j, j < l.length → c.getD (nd l j).toNat 0 = (cnt (ag l a) (nd l j) i : Int)) {j : Nat} (hj : j < l.length) : InC l c j ↔ Upto a i j := by
  unfold InC
  rw [hc j hj, cnt_ag h hi]
  constructor
  · intro hle
    refine Classical.byContradiction fun hj' => ?_
    have h1 : cntP (fun x => nd l x = nd l j ∧ Upto a i x) l.length = cntP (fun x => nd l x = nd l j ∧ Upto a i x) j := by
      refine cntP_stop (by omega) fun x x1 x2 x3 => hj' ?_
      rcases Nat.lt_or_ge j x with c | c
      · exact upto_down h hi x3.2 (pst_same c x3.1.symm)
      · rw [show j = x by omega]; exact x3.2
    have h2 : cntP (fun x => nd l x = nd l j ∧ Upto a i x) j ≤ cnt l (nd l j) j := by rw [cnt_cntP]; exact cntP_le fun x _ q => q.1
    rw [idx_eq] at hle
    omega
  · intro hu
    have h1 : cnt l (nd l j) (j + 1) ≤ cntP (fun x => nd l x = nd l j ∧ Upto a i x) (j + 1) := by
      rw [cnt_cntP]
      refine cntP_le fun x hx hnx => ⟨hnx, ?_⟩
      rcases Nat.lt_or_ge x j with c | c
      · exact upto_down h hi hu (pst_same c hnx)
      · rw [show x = j by omega]; exact hu
    have h2 := cntP_mono (P := fun x => nd l x = nd l j ∧ Upto a i x) (show j + 1 ≤ l.length by omega)
    unfold idx; omega
theorem ag_idx {k : Nat} (hk : k < l.length) : idx (ag l a) k = idx l (oN a k) := by
  have hv := h.val k hk
  -- a cut that counts
  have key : ∀ i, i ≤ l.length → ((idx l (oN a k) : Int) ≤ (cnt (ag l a) (nd l (oN a k)) i : Int) ↔ Upto a i (oN a k)) := by
    intro i hi
    have := cut_upto h hi (c := List.replicate (nd l (oN a k)).toNat 0 ++ [(cnt (ag l a) (nd l (oN a k)) i : Int)])
    -- only the one node matters
    have hcount : cntP (fun x => nd l x = nd l (oN a k) ∧ Upto a i x) l.length = cnt (ag l a) (nd l (oN a k)) i := (cnt_ag h hi).symm
    constructor
    · intro hle
      refine Classical.byContradiction fun hj' => ?_
      have h1 : cntP (fun x => nd l x = nd l (oN a k) ∧ Upto a i x) l.length = cntP (fun x => nd l x = nd l (oN a k) ∧ Upto a i x) (oN a k) := by
        refine cntP_stop (by omega) fun x x1 x2 x3 => hj' ?_
        rcases Nat.lt_or_ge (oN a k) x with c | c
        · exact upto_down h hi x3.2 (pst_same c x3.1.symm)
        · rw [show oN a k = x by omega]; exact x3.2
      have h2 : cntP (fun x => nd l x = nd l (oN a k) ∧ Upto a i x) (oN a k) ≤ cnt l (nd l (oN a k)) (oN a k) := by rw [cnt_cntP]; exact cntP_le fun x _ q => q.1
      rw [idx_eq] at hle
      omega
    · intro hu
      have h1 : cnt l (nd l (oN a k)) (oN a k + 1) ≤ cntP (fun x => nd l x = nd l (oN a k) ∧ Upto a i x) (oN a k + 1) := by
        rw [cnt_cntP]
        refine cntP_le fun x hx hnx => ⟨hnx, ?_⟩
        rcases Nat.lt_or_ge x (oN a k) with c | c
        · exact upto_down h hi hu (pst_same c hnx)
        · rw [show x = oN a k by omega]; exact hu
      have h2 := cntP_mono (P := fun x => nd l x = nd l (oN a k) ∧ Upto a i x) (show oN a k + 1 ≤ l.length by omega)
      unfold idx; omega
  have k1 := (key (k + 1) (by omega)).2 ⟨k, by omega, rfl⟩
  have k2 : ¬ (idx l (oN a k) : Int) ≤ (cnt (ag l a) (nd l (oN a k)) k : Int) := fun q => upto_new h hk ((key k (by omega)).1 q)
  rw [idx_eq, ag_nd h hk]
  simp only [cnt] at k1
  rw [ag_nd h hk, if_pos rfl] at k1
  omega
/-- It is right. -/
theorem ag_ok {n : Int} (hok : Ok n l) : Ok n (ag l a) := by
  refine ⟨hok.1, fun k hk => ?_⟩
  rw [ag_len h] at hk
  have hv := (h.val k hk).1
  have hN := hok.len
  obtain ⟨c1, c2, c3, c4, c5⟩ := code_zero (hok.2 _ hv).2
  refine ⟨?_, ?_⟩
  · have := (hok.2 k hk).1; exact this
  have e := ag_get h hk
  have hdup : ¬ Dup (ag l a) k := by
    have two : ∀ {K : Int}, (K = 4 ∨ K = 5) → kd l (oN a k) = K → ∀ k', k' < k → kd (ag l a) k' = K → cl (ag l a) k' = cl (ag l a) k → False := by
      intro K hK hk1 k' hk2 hk3 hk4
      rw [ag_kd h (by omega)] at hk3
      rw [ag_cl h (by omega), ag_cl h hk] at hk4
      have hv' := (h.val k' (by omega)).1
      rcases Nat.lt_trichotomy (oN a k') (oN a k) with c | c | c
      · refine c3 ?_
        rcases hK with rfl | rfl
        · exact .inl (.inr ⟨hk1, _, c, hk3, hk4⟩)
        · exact .inr ⟨hk1, _, c, hk3, hk4⟩
      · have := h.inj k' k (by omega) hk c; omega
      · refine (code_zero (hok.2 _ hv').2).2.2.1 ?_
        rcases hK with rfl | rfl
        · exact .inl (.inr ⟨hk3, _, c, hk1, hk4.symm⟩)
        · exact .inr ⟨hk3, _, c, hk1, hk4.symm⟩
    rintro ((⟨d1, k', d2, d3, d4⟩ | ⟨d1, k', d2, d3, d4⟩) | ⟨d1, k', d2, d3, d4⟩)
    · rw [ag_kd h hk] at d1
      rw [ag_kd h (by omega)] at d3
      rw [ag_ms h (by omega), ag_ms h hk] at d4
      have hv' := (h.val k' (by omega)).1
      rcases Nat.lt_trichotomy (oN a k') (oN a k) with c | c | c
      · exact c3 (.inl (.inl ⟨d1, _, c, d3, d4⟩))
      · have := h.inj k' k (by omega) hk c; omega
      · exact (code_zero (hok.2 _ hv').2).2.2.1 (.inl (.inl ⟨d3, _, c, d1, d4.symm⟩))
    · rw [ag_kd h hk] at d1
      exact two (.inl rfl) d1 k' d2 d3 d4
    · rw [ag_kd h hk] at d1
      exact two (.inr rfl) d1 k' d2 d3 d4
  have hbeg : kd l (oN a k) = 5 → ∃ j, j < oN a k ∧ kd l j = 4 ∧ cl l j = cl l (oN a k) ∧ nd l j = nd l (oN a k) := fun hk5 => by
    obtain ⟨j, j1, j2, j3⟩ : HasC l 4 (oN a k) (cl l (oN a k)) := Classical.byContradiction fun q => c4 (.inr ⟨hk5, q⟩)
    exact ⟨j, j1, j2, j3, Classical.byContradiction fun q => c5 ⟨hk5, j, j1, j2, j3, q⟩⟩
  have hnope : ¬ Nope (ag l a) k := by
    rintro (⟨d1, d2⟩ | ⟨d1, d2⟩)
    · rw [ag_kd h hk] at d1
      obtain ⟨j, j1, j2, j3⟩ : HasS l (oN a k) (ms l (oN a k)) := Classical.byContradiction fun q => c4 (.inl ⟨d1, q⟩)
      obtain ⟨k', k1, k2⟩ := h.up k j hk (.dir j1 (.inl ⟨j2, d1, j3⟩))
      refine d2 ⟨k', k1, ?_, ?_⟩
      · rw [ag_kd h (by omega), k2]; exact j2
      · rw [ag_ms h (by omega), ag_ms h hk, k2]; exact j3
    · rw [ag_kd h hk] at d1
      obtain ⟨j, j1, j2, j3, j4⟩ := hbeg d1
      obtain ⟨k', k1, k2⟩ := h.up k j hk (pst_same j1 j4)
      refine d2 ⟨k', k1, ?_, ?_⟩
      · rw [ag_kd h (by omega), k2]; exact j2
      · rw [ag_cl h (by omega), ag_cl h hk, k2]; exact j3
  have haway : ¬ Away (ag l a) k := by
    rintro ⟨d1, k', d2, d3, d4, d5⟩
    rw [ag_kd h hk] at d1
    rw [ag_kd h (by omega)] at d3
    rw [ag_cl h (by omega), ag_cl h hk] at d4
    rw [ag_nd h (by omega), ag_nd h hk] at d5
    obtain ⟨j, j1, j2, j3, j4⟩ := hbeg d1
    have hv' := (h.val k' (by omega)).1
    have : oN a k' = j := by
      rcases Nat.lt_trichotomy (oN a k') j with c | c | c
      · exact absurd (show Dup l j from .inl (.inr ⟨j2, _, c, d3, d4.trans j3.symm⟩)) (code_zero (hok.2 j (by omega)).2).2.2.1
      · exact c
      · exact absurd (show Dup l (oN a k') from .inl (.inr ⟨d3, j, c, j2, j3.trans d4.symm⟩)) (code_zero (hok.2 _ hv').2).2.2.1
    rw [this] at d5; exact d5 j4
  rw [code, e, if_neg c1, if_neg (fun q => q c2), if_neg hdup, if_neg hnope, if_neg haway]
theorem ag_clk {n : Int} (hok : Ok n l) {m : List (List Int)} (hm : GClk n l m) : GClk n (ag l a) (a.map fun x => m.getD x.toNat default) := by
  refine ⟨by rw [List.length_map, ag_len h, h.len], fun k hk => ?_⟩
  rw [ag_len h] at hk
  have hv := h.val k hk
  rw [getD_map (d := default) (by rw [h.len]; exact hk)]
  have ck := hm.2 (oN a k) hv.1
  refine ⟨ck.len, fun p hp => ?_, fun j hj => ?_⟩
  · have h1 := ck.rg p hp
    refine ⟨h1.1, Int.le_trans h1.2 ?_⟩
    rw [ag_len h, cnt_ag h (Nat.le_refl _), cnt_cntP]
    have : cntP (fun x => nd l x = (p : Int)) l.length ≤ cntP (fun j => nd l j = (p : Int) ∧ Upto a l.length j) l.length := cntP_le fun x hx hn => ⟨hn, h.sur x hx⟩
    omega
  · rw [ag_len h] at hj
    rw [ag_idx h hj, ag_nd h hj]
    have hvj := h.val j hj
    refine Iff.trans ?_ (ck.iff (oN a j) hvj.1)
    rw [ag_pst h hok hj hk]
    constructor
    · rintro (rfl | q)
      · exact .inl rfl
      · exact .inr q
    · rintro (q | q)
      · exact .inl (h.inj j k hj hk q)
      · exact .inr q
theorem ag_hgt {n : Int} (hok : Ok n l) {g : List Int} (hg : GHgt l g) {g' : List Int} (hg' : GHgt (ag l a) g') {k : Nat} (hk : k < l.length) : g'.getD k default = g.getD (oN a k) default := by
  have hl := ag_len h
  induction k using Nat.strongRecOn with
  | _ k ih =>
    have hv := (h.val k hk).1
    apply Int.le_antisymm
    · rcases hg'.at' k (by rw [hl]; exact hk) with h1 | ⟨x, h1, h2⟩
      · rw [h1]; exact (hg.rg _ hv).1
      · have hx : x < l.length := by have := h1.lt; omega
        rw [h2, ih x h1.lt hx]
        exact hg.up _ _ hv ((ag_pst h hok hx hk).1 h1)
    · rcases hg.at' _ hv with h1 | ⟨x, h1, h2⟩
      · rw [h1]; exact (hg'.rg k (by rw [hl]; exact hk)).1
      · obtain ⟨x', x1, rfl⟩ := h.up k x hk h1
        have hx : x' < l.length := by omega
        rw [h2, ← ih x' x1 hx]
        exact hg'.up _ _ (by rw [hl]; exact hk) ((ag_pst h hok hx hk).2 h1)
end
end Go.Ab

set_option linter.unusedVariables false
namespace Go.Ab

/-! layer 29: calls and their parents -/
def EndOf (l : List Act) (i : Nat) (c v : Int) : Prop := (v = -1 ∧ ∀ e, e < i → ¬ (kd l e = 5 ∧ cl l e = c)) ∨ ∃ e : Nat, e < i ∧ v = (e : Int) ∧ kd l e = 5 ∧ cl l e = c
def CallOf (l : List Act) (i : Nat) (x : Int × Int × Int) : Prop := ∃ b : Nat, b < i ∧ x.2.1 = (b : Int) ∧ kd l b = 4 ∧ cl l b = x.1 ∧ EndOf l i x.1 x.2.2
structure CInv (l : List Act) (i : Nat) (s : List (Int × Int × Int)) : Prop where
  nodup : (s.map (·.1)).Nodup
  each : ∀ x, x < s.length → CallOf l i (s.getD x default)
  all : ∀ b, b < i → kd l b = 4 → ∃ x, x < s.length ∧ (s.getD x default).1 = cl l b
  len : s.length ≤ i
theorem endOf_more {l : List Act} {i : Nat} {c v : Int} (h : EndOf l i c v) (hi : ¬ (kd l i = 5 ∧ cl l i = c)) : EndOf l (i + 1) c v := by
  rcases h with ⟨h1, h2⟩ | ⟨e, h1, h2⟩
  · refine .inl ⟨h1, fun e he => ?_⟩
    rcases Nat.lt_or_ge e i with k | k
    · exact h2 e k
    · rw [show e = i by omega]; exact hi
  · exact .inr ⟨e, by omega, h2⟩
theorem callOf_more {l : List Act} {i : Nat} {x : Int × Int × Int} (h : CallOf l i x) (hi : ¬ (kd l i = 5 ∧ cl l i = x.1)) : CallOf l (i + 1) x := by
  obtain ⟨b, h1, h2, h3, h4, h5⟩ := h
  exact ⟨b, by omega, h2, h3, h4, endOf_more h5 hi⟩
theorem f89_first (p : List (Int × Int × Int)) (P : Int × Int × Int → Bool) : Tot (f89 p fun y => some (P y)) fun r => (r = -1 ∧ ∀ j, j < p.length → P (p.getD j default) = false) ∨ ∃ j : Nat, j < p.length ∧ r = (j : Int) ∧ P (p.getD j default) = true ∧ ∀ x, x < j → P (p.getD x default) = false := by
  unfold f89
  rw [toNat_len]
  refine (tot_rngx (fun i _ => ∀ j, j < i → P (p.getD j default) = false) (fun r => ∃ j : Nat, j < p.length ∧ r = (j : Int) ∧ P (p.getD j default) = true ∧ ∀ x, x < j → P (p.getD x default) = false) (fun j hj => absurd hj (by omega)) fun i _ hi H => ?_).bind fun o ho => ?_
  · unfold f89_b0
    refine tot_ix hi ?_
    simp only [Option.bind_some]
    refine tot_if (fun h => tot_some (.inr ⟨_, rfl, i, hi, rfl, h, H⟩)) (fun h => tot_some (.inl ⟨_, rfl, fun j hj => ?_⟩))
    rcases Nat.lt_or_ge j i with k | k
    · exact H j k
    · rw [show j = i by omega]; exact h
  · rcases ho with ⟨⟨⟩, rfl, h⟩ | ⟨r, rfl, h⟩
    · exact tot_some (.inl ⟨rfl, h⟩)
    · exact tot_some (.inr h)
theorem nodup_getD {s : List (Int × Int × Int)} (h : (s.map (·.1)).Nodup) {x y : Nat} (hx : x < s.length) (hy : y < s.length) (he : (s.getD x default).1 = (s.getD y default).1) : x = y := by
  have e : ∀ z, (hz : z < s.length) → (s.map (·.1))[z]'(by simpa using hz) = (s.getD z default).1 := fun z hz => by
    rw [List.getElem_map, List.getD_eq_getElem?_getD, List.getElem?_eq_getElem hz]; rfl
  have := (List.getElem_inj (h₀ := by simpa using hx) (h₁ := by simpa using hy) h).1 (by rw [e x hx, e y hy, he])
  exact this
theorem set_map_fst {s : List (Int × Int × Int)} {z : Nat} {v : Int × Int × Int} (hz : z < s.length) (hv : v.1 = (s.getD z default).1) : (s.set z v).map (·.1) = s.map (·.1) := by
  apply List.ext_getElem?
  intro i
  rw [List.map_set]
  by_cases e : z = i
  · subst e
    rw [List.getElem?_set_self (by simpa using hz), List.getElem?_map, List.getElem?_eq_getElem hz, hv, List.getD_eq_getElem?_getD, List.getElem?_eq_getElem hz]; rfl
  · rw [List.getElem?_set_ne e]
/-- Calls, ascending. -/
structure CallsOk (l : List Act) (s : List (Int × Int × Int)) : Prop where
  asc : (s.map (·.1)).Pairwise (· < ·)
  each : ∀ x, x < s.length → CallOf l l.length (s.getD x default)
  all : ∀ b, b < l.length → kd l b = 4 → ∃ x, x < s.length ∧ (s.getD x default).1 = cl l b
  len : s.length ≤ l.length
theorem f78_t {n : Int} {l : List Act} (hok : Ok n l) (hR : RA l) : Tot (f78 l) (CallsOk l) := by
  have hN := hok.len
  unfold f78
  rw [toNat_len]
  refine (tot_rng (fun i s => CInv l i s) ⟨by simp, fun x hx => absurd hx (by simp), fun b hb => absurd hb (by omega), by simp⟩ fun i s hi H => ?_).bind fun o ho => ?_
  · obtain ⟨H1, H2, H3, H4⟩ := H
    unfold f78_b0
    have ekx : (l.getD i default).2.1 = kd l i := rfl
    have ecx : (l.getD i default).2.2.2.1 = cl l i := rfl
    obtain ⟨c1, c2, c3, c4, c5⟩ := code_zero (hok.2 i hi).2
    refine Tot.bind (Q := fun o => ∃ s', o = .inl s' ∧ CInv l (i + 1) s') ?_ fun o ho => ?_
    · refine tot_ix hi ?_
      rw [ekx, ecx]
      refine tot_if (fun h => ?_) (fun h => ?_)
      · have hk : kd l i = 4 := of_decide_eq_true h
        have hno : ∀ x, x < s.length → (s.getD x default).1 ≠ cl l i := fun x hx he => by
          obtain ⟨b, b1, b2, b3, b4, _⟩ := H2 x hx
          exact c3 (.inl (.inr ⟨hk, b, b1, b3, b4.trans he⟩))
        refine tot_need (ap24 (by omega) (by simp)) (tot_some ⟨_, rfl, ?_, fun x hx => ?_, fun b hb hkb => ?_, by simp; omega⟩)
        · rw [List.map_append, List.nodup_append]
          refine ⟨H1, by simp, fun u hu v hv => ?_⟩
          obtain ⟨y, hy, rfl⟩ := List.mem_map.1 hu
          obtain ⟨j, j1, rfl⟩ := mem_getD default hy
          simp at hv
          subst hv
          exact hno j j1
        · rw [getD_app]
          split
          · rename_i hxl
            exact callOf_more (H2 x hxl) (fun q => absurd (hk.symm.trans q.1) (by decide))
          · have ex : x = s.length := by simp at hx; omega
            subst ex
            rw [Nat.sub_self]
            refine ⟨i, by omega, rfl, hk, rfl, .inl ⟨rfl, fun e he q => ?_⟩⟩
            have hel : e < i := by
              rcases Nat.lt_or_ge e i with k | k
              · exact k
              · rw [show e = i by omega, hk] at q; exact absurd q.1 (by decide)
            have hne := (code_zero (hok.2 e (by omega)).2).2.2.2.1
            obtain ⟨j, j1, j2, j3⟩ : HasC l 4 e (cl l e) := Classical.byContradiction fun w => hne (.inr ⟨q.1, w⟩)
            exact c3 (.inl (.inr ⟨hk, j, by omega, j2, j3.trans q.2⟩))
        · rcases Nat.lt_or_ge b i with k | k
          · obtain ⟨x, x1, x2⟩ := H3 b k hkb
            exact ⟨x, by simp; omega, by rw [getD_app, if_pos x1]; exact x2⟩
          · refine ⟨s.length, by simp, ?_⟩
            rw [getD_app, if_neg (by omega), Nat.sub_self, show b = i by omega]; rfl
      · have hk4 : kd l i ≠ 4 := of_decide_eq_false h
        refine tot_if (fun h => ?_) (fun h => ?_)
        · have hk : kd l i = 5 := of_decide_eq_true h
          obtain ⟨j, j1, j2, j3⟩ : HasC l 4 i (cl l i) := Classical.byContradiction fun q => c4 (.inr ⟨hk, q⟩)
          obtain ⟨x0, x1, x2⟩ := H3 j j1 j2
          have e90 : (fun y1 => f90 y1 (l.getD i default)) = fun y : Int × Int × Int => some (decide (y.1 = cl l i)) := rfl
          rw [e90]
          refine (f89_first s _).bind fun r hr => ?_
          rcases hr with ⟨_, hall⟩ | ⟨z, z1, rfl, z2, _⟩
          · have := of_decide_eq_false (hall x0 x1)
            exact absurd (x2.trans j3) this
          · have hz : (s.getD z default).1 = cl l i := of_decide_eq_true z2
            refine tot_ix z1 (tot_some ⟨_, rfl, ?_, fun x hx => ?_, fun b hb hkb => ?_, by simp; omega⟩)
            · have e1 := set_map_fst (v := ((s.getD z default).1, (s.getD z default).2.1, (i : Int))) z1 rfl
              rw [Int.toNat_natCast, e1]; exact H1
            · rw [Int.toNat_natCast] at hx ⊢
              rw [List.length_set] at hx
              rw [getD_set z1]
              split
              · rename_i e
                obtain ⟨b, b1, b2, b3, b4, _⟩ := H2 z z1
                exact ⟨b, by omega, b2, b3, b4, .inr ⟨i, by omega, rfl, hk, hz.symm⟩⟩
              · rename_i e
                refine callOf_more (H2 x hx) (fun q => e (nodup_getD H1 z1 hx ?_))
                rw [hz]; exact q.2
            · rw [Int.toNat_natCast]
              rcases Nat.lt_or_ge b i with k | k
              · obtain ⟨x, x1, x2⟩ := H3 b k hkb
                refine ⟨x, by simpa using x1, ?_⟩
                rw [getD_set z1]
                split
                · rename_i e; rw [e]; exact x2
                · exact x2
              · rw [show b = i by omega] at hkb; exact absurd hkb hk4
        · have hk5 : kd l i ≠ 5 := of_decide_eq_false h
          refine tot_some ⟨_, rfl, H1, fun x hx => callOf_more (H2 x hx) (fun q => hk5 q.1), fun b hb hkb => ?_, by omega⟩
          rcases Nat.lt_or_ge b i with k | k
          · exact H3 b k hkb
          · rw [show b = i by omega] at hkb; exact absurd hkb hk4
    · obtain ⟨s', rfl, h⟩ := ho
      exact tot_some ⟨_, rfl, h⟩
  · obtain ⟨s, rfl, H1, H2, H3, H4⟩ := ho
    simp only
    have hcond : f91 s = some (isortK (·.1) s) := by
      unfold f91
      have h1 : (s.all fun x => decide (0 ≤ x.1) && decide (x.1 ≤ 9223372036854775807)) = true := by
        rw [List.all_eq_true]
        intro x hx
        obtain ⟨j, j1, rfl⟩ := mem_getD default hx
        obtain ⟨b, b1, b2, b3, b4, _⟩ := H2 j j1
        have hb := (code_zero (hok.2 b b1).2).1
        have hr := (hR b b1).2
        have h0 : 1 ≤ cl l b := Classical.byContradiction fun q => hb (.inr (.inr ⟨.inl b3, by unfold cl at q; omega⟩))
        rw [← b4, Bool.and_eq_true, decide_eq_true_eq, decide_eq_true_eq]
        exact ⟨by omega, hr.2⟩
      have h2 : decide ((s.map (·.1)).Nodup) = true := decide_eq_true H1
      have h3 : Nat.blt s.length 4611686018427387904 = true := by simp [Nat.blt_eq]; omega
      rw [h1, h2, h3]; rfl
    rw [hcond]
    have hp := isortK_perm (fun x : Int × Int × Int => x.1) s
    have hmem : ∀ {P : Int × Int × Int → Prop}, (∀ x, x < s.length → P (s.getD x default)) → ∀ x, x < (isortK (fun x : Int × Int × Int => x.1) s).length → P ((isortK (fun x : Int × Int × Int => x.1) s).getD x default) := fun hP x hx => by
      obtain ⟨j, j1, j2⟩ := mem_getD default (hp.mem_iff.1 (getD_mem (d := default) hx))
      rw [← j2]; exact hP j j1
    refine tot_some ⟨?_, hmem H2, fun b hb hkb => ?_, by rw [hp.length_eq]; exact H4⟩
    · have h1 := isortK_sorted (fun x : Int × Int × Int => x.1) s
      have h2 : ((isortK (fun x : Int × Int × Int => x.1) s).map (·.1)).Nodup := ((hp.map _).nodup_iff).2 H1
      rw [List.pairwise_map]
      have h2' : (isortK (fun x : Int × Int × Int => x.1) s).Pairwise (fun x y => x.1 ≠ y.1) := by
        unfold List.Nodup at h2
        rwa [List.pairwise_map] at h2
      exact (h1.and h2').imp fun ⟨q1, q2⟩ => by omega
    · obtain ⟨x, x1, x2⟩ := H3 b hb hkb
      obtain ⟨j, j1, j2⟩ := mem_getD default (hp.mem_iff.2 (getD_mem (d := default) x1))
      exact ⟨j, j1, by rw [j2]; exact x2⟩

theorem f58_t {n : Int} {l : List Act} (hok : Ok n l) {m : List (List Int)} (hm : GClk n l m) {a b : Nat} (ha : a < l.length) (hb : b < l.length) : Tot (f58 l m a b) fun r => (r = true ↔ Pst l a b) := by
  have hna := hok.nd a ha
  have ca := hm.2 a ha
  have cb := hm.2 b hb
  have ena : (l.getD a default).1 = nd l a := rfl
  unfold f58
  rw [ix_getD (show b < m.length by rw [hm.1]; exact hb), ix_getD (show a < m.length by rw [hm.1]; exact ha), ix_getD ha]
  simp only [Option.isSome_some, Bool.or_true, cond_true, Option.getD_some, ena]
  rw [ix_int hna.1 (by rw [cb.len]; omega), ix_int hna.1 (by rw [ca.len]; omega)]
  simp only [Option.isSome_some, Bool.or_true, cond_true, Option.getD_some]
  refine tot_some ?_
  rw [Bool.and_eq_true, Bool.not_eq_true', decide_eq_false_iff_not, decide_eq_true_eq]
  have := ca.before cb ha (by omega)
  constructor
  · rintro ⟨h1, h2⟩
    rcases this.2 h2 with h | h
    · subst h; exact absurd rfl h1
    · exact h
  · intro h
    exact ⟨fun e => by have := h.lt; omega, this.1 (.inr h)⟩
def bgC (cs : List (Int × Int × Int)) (j : Nat) : Nat := (cs.getD j default).2.1.toNat
def enC (cs : List (Int × Int × Int)) (j : Nat) : Int := (cs.getD j default).2.2
def numC (cs : List (Int × Int × Int)) (j : Nat) : Int := (cs.getD j default).1
def Within (l : List Act) (cs : List (Int × Int × Int)) (i j : Nat) : Prop := Pst l (bgC cs j) (bgC cs i) ∧ (enC cs j < 0 ∨ ¬ Pst l (enC cs j).toNat (bgC cs i))
open Classical in
noncomputable def parF (w : Nat → Prop) (hh num : Nat → Int) : Nat → Int × Int
  | 0 => (0, -1)
  | j + 1 => if w j ∧ (parF w hh num j).2 ≤ hh j then (num j, hh j) else parF w hh num j
theorem parF_congr {w w' : Nat → Prop} {hh hh' num num' : Nat → Int} : ∀ {k : Nat}, (∀ j, j < k → (w j ↔ w' j) ∧ hh j = hh' j ∧ num j = num' j) → parF w hh num k = parF w' hh' num' k := by
  intro k
  induction k with
  | zero => intro _; rfl
  | succ k ih =>
    intro h
    have e := ih fun j hj => h j (by omega)
    obtain ⟨h1, h2, h3⟩ := h k (by omega)
    simp only [parF]
    by_cases c : w k ∧ (parF w hh num k).2 ≤ hh k
    · rw [if_pos c, if_pos ⟨h1.1 c.1, by rw [← e, ← h2]; exact c.2⟩, h2, h3]
    · rw [if_neg c, if_neg (fun q => c ⟨h1.2 q.1, by rw [e, h2]; exact q.2⟩), e]
structure ParsOk (l : List Act) (r : List (Int × Int)) (cs : List (Int × Int × Int)) (g : List Int) : Prop where
  calls : CallsOk l cs
  hgt : GHgt l g
  len : r.length = cs.length
  par : ∀ i, i < cs.length → r.getD i default = (numC cs i, (parF (Within l cs i) (fun j => g.getD (bgC cs j) default) (numC cs) cs.length).1)
theorem f43_t (n : Int) (l : List Act) (hR : RA l) : Tot (f43 n l) fun r => (¬ Ok n l ∧ r = ([], 1)) ∨ (Ok n l ∧ r.2 = 0 ∧ ∃ cs g, ParsOk l r.1 cs g) := by
  unfold f43
  rw [valid_p]
  simp only [Option.bind_some]
  by_cases hok : Ok n l
  rotate_left
  · refine tot_if (fun h => tot_some (.inl ⟨hok, rfl⟩)) (fun h => ?_)
    simp [hok] at h
  refine tot_if (fun h => by simp [hok] at h) (fun _ => ?_)
  have hN := hok.len
  refine (f52_t hok).bind fun m hm => (f54_t hok).bind fun g hg => (f78_t hok hR).bind fun cs hcs => ?_
  have hlen := hcs.len
  have hbg : ∀ j, j < cs.length → (cs.getD j default).2.1 = (bgC cs j : Int) ∧ bgC cs j < l.length := fun j hj => by
    obtain ⟨b, b1, b2, _⟩ := hcs.each j hj
    unfold bgC
    rw [b2, Int.toNat_natCast]; exact ⟨rfl, b1⟩
  have hen : ∀ j, j < cs.length → enC cs j = -1 ∨ (enC cs j = ((enC cs j).toNat : Int) ∧ (enC cs j).toNat < l.length) := fun j hj => by
    obtain ⟨b, b1, b2, b3, b4, h | ⟨e, e1, e2, _⟩⟩ := hcs.each j hj
    · exact .inl h.1
    · right
      have e2' : enC cs j = (e : Int) := e2
      rw [e2', Int.toNat_natCast]; exact ⟨rfl, e1⟩
  rw [toNat_len]
  refine (tot_rng (fun i s => s.length = i ∧ ∀ x, x < i → s.getD x default = (numC cs x, (parF (Within l cs x) (fun j => g.getD (bgC cs j) default) (numC cs) cs.length).1)) ⟨rfl, fun x hx => absurd hx (by omega)⟩ fun i s hi H => ?_).bind fun o ho => ?_
  · obtain ⟨H1, H2⟩ := H
    unfold f43_b0
    refine tot_ix hi ?_
    rw [toNat_len]
    refine (tot_rng (fun j (s : Int × Int) => s = parF (Within l cs i) (fun j => g.getD (bgC cs j) default) (numC cs) j) rfl fun j s hj H => ?_).bind fun o ho => ?_
    · subst H
      unfold f43_b1
      have hbi := hbg i hi
      have hbj := hbg j hj
      have enj : (cs.getD j default).2.2 = enC cs j := rfl
      have emj : (cs.getD j default).1 = numC cs j := rfl
      have es : parF (Within l cs i) (fun j => g.getD (bgC cs j) default) (numC cs) j = ((parF (Within l cs i) (fun j => g.getD (bgC cs j) default) (numC cs) j).1, (parF (Within l cs i) (fun j => g.getD (bgC cs j) default) (numC cs) j).2) := rfl
      rw [es]
      simp only
      refine Tot.bind (Q := fun o => o = .inl (parF (Within l cs i) (fun j => g.getD (bgC cs j) default) (numC cs) (j + 1))) ?_ fun o ho => ?_
      · refine tot_ix hj ?_
        rw [hbi.1, hbj.1, enj, emj]
        refine (f58_t hok hm hbj.2 hbi.2).bind fun x37 h37 => ?_
        have hg1 : ix g (bgC cs j : Int) = some (g.getD (bgC cs j) default) := ix_getD (by rw [hg.len]; exact hbj.2)
        -- whether it has ended before
        have hw : (bif !(x37 && !decide (enC cs j < 0)) || Option.isSome (f58 l m (enC cs j) (bgC cs i)) then (true) else false) = true ∧ ((x37 && (decide (enC cs j < 0) || !((f58 l m (enC cs j) (bgC cs i)).getD default))) = true ↔ Within l cs i j) := by
          rcases hen j hj with he | ⟨he, he2⟩
          · rw [he]
            refine ⟨by simp, ?_⟩
            simp only [show decide ((-1 : Int) < 0) = true from rfl, Bool.true_or, Bool.and_true]
            rw [h37]
            unfold Within
            rw [he]
            exact ⟨fun h => ⟨h, .inl (by decide)⟩, fun h => h.1⟩
          · rw [he]
            obtain ⟨q, e1, hq⟩ := f58_t hok hm he2 hbi.2
            rw [e1]
            refine ⟨by simp, ?_⟩
            rw [Bool.and_eq_true, Bool.or_eq_true, decide_eq_true_eq, Option.getD_some, Bool.not_eq_true', ← Bool.not_eq_true, hq, h37]
            unfold Within
            rw [he, Int.toNat_natCast]
        have hw1 : (!(x37 && !decide (enC cs j < 0)) || Option.isSome (f58 l m (enC cs j) (bgC cs i))) = true := by
          have := hw.1
          cases hc : (!(x37 && !decide (enC cs j < 0)) || Option.isSome (f58 l m (enC cs j) (bgC cs i))) with
          | true => rfl
          | false => rw [hc] at this; exact this
        refine tot_need hw1 ?_
        rw [hg1]
        simp only [Option.isSome_some, Bool.or_true, cond_true, Option.getD_some, Option.bind_some]
        refine tot_if (fun h => ?_) (fun h => ?_)
        · rw [Bool.and_eq_true, decide_eq_true_eq] at h
          refine tot_some ?_
          simp only [parF]
          rw [if_pos ⟨hw.2.1 h.1, h.2⟩]
        · refine tot_some ?_
          simp only [parF]
          rw [if_neg (fun q => ?_)]
          rw [hw.2.2 q.1, Bool.true_and] at h
          exact of_decide_eq_false h q.2
      · subst ho
        exact tot_some ⟨_, rfl, rfl⟩
    · obtain ⟨⟨s21, s22⟩, rfl, h⟩ := ho
      simp only
      refine tot_need (apOk_t (by simp; omega)) (tot_some ⟨_, rfl, by simp [H1], fun x hx => ?_⟩)
      rw [getD_app]
      split
      · exact H2 x (by omega)
      · rw [show x = i by omega, H1, Nat.sub_self, ← h]; rfl
  · obtain ⟨s, rfl, h1, h2⟩ := ho
    exact tot_some (.inr ⟨hok, rfl, cs, g, hcs, hg, h1, h2⟩)

theorem strict_uniq : ∀ {a b : List Int}, a.Pairwise (· < ·) → b.Pairwise (· < ·) → (∀ x, x ∈ a ↔ x ∈ b) → a = b := by
  intro a
  induction a with
  | nil =>
    intro b _ _ h
    cases b with
    | nil => rfl
    | cons y b => exact absurd ((h y).2 List.mem_cons_self) (by simp)
  | cons x a ih =>
    intro b ha hb h
    cases b with
    | nil => exact absurd ((h x).1 List.mem_cons_self) (by simp)
    | cons y b =>
      rw [List.pairwise_cons] at ha hb
      have h3 : x = y := by
        rcases List.mem_cons.1 ((h x).1 List.mem_cons_self) with k | k
        · exact k
        · rcases List.mem_cons.1 ((h y).2 List.mem_cons_self) with k' | k'
          · exact k'.symm
          · have := ha.1 y k'; have := hb.1 x k; omega
      subst h3
      rw [ih ha.2 hb.2 fun z => ?_]
      constructor
      · intro hz
        rcases List.mem_cons.1 ((h z).1 (List.mem_cons_of_mem _ hz)) with k | k
        · subst k; have := ha.1 z hz; omega
        · exact k
      · intro hz
        rcases List.mem_cons.1 ((h z).2 (List.mem_cons_of_mem _ hz)) with k | k
        · subst k; have := hb.1 z hz; omega
        · exact k
theorem begin_uniq {n : Int} {l : List Act} (hok : Ok n l) {K : Int} (hK : K = 4 ∨ K = 5) {a b : Nat} (ha : a < l.length) (hb : b < l.length) (h1 : kd l a = K) (h2 : kd l b = K) (h3 : cl l a = cl l b) : a = b := by
  have key : ∀ {a b : Nat}, b < l.length → kd l a = K → kd l b = K → cl l a = cl l b → ¬ a < b := fun hb h1 h2 h3 hlt => by
    refine (code_zero (hok.2 _ hb).2).2.2.1 ?_
    rcases hK with rfl | rfl
    · exact .inl (.inr ⟨h2, _, hlt, h1, h3⟩)
    · exact .inr ⟨h2, _, hlt, h1, h3⟩
  have := key hb h1 h2 h3
  have := key ha h2 h1 h3.symm
  omega
/-- The parents are the same in another order. -/
theorem ag_pars {n : Int} {l : List Act} {a : List Int} (h : Ord l a) (hok : Ok n l) {r r' : List (Int × Int)} {cs cs' : List (Int × Int × Int)} {g g' : List Int} (H : ParsOk l r cs g) (K : ParsOk (ag l a) r' cs' g') : r = r' := by
  have hl := ag_len h
  have hok' := ag_ok h hok
  have hnum : cs.map (·.1) = cs'.map (·.1) := by
    refine strict_uniq H.calls.asc K.calls.asc fun c => ?_
    have e : ∀ {s : List (Int × Int × Int)} {c : Int}, c ∈ s.map (·.1) ↔ ∃ x, x < s.length ∧ (s.getD x default).1 = c := fun {s c} => by
      constructor
      · intro hc
        obtain ⟨y, hy, rfl⟩ := List.mem_map.1 hc
        obtain ⟨j, j1, rfl⟩ := mem_getD default hy
        exact ⟨j, j1, rfl⟩
      · rintro ⟨j, j1, rfl⟩
        exact List.mem_map.2 ⟨_, getD_mem j1, rfl⟩
    rw [e, e]
    constructor
    · rintro ⟨x, x1, rfl⟩
      obtain ⟨b, b1, b2, b3, b4, _⟩ := H.calls.each x x1
      obtain ⟨k, k1, rfl⟩ := h.sur b b1
      obtain ⟨y, y1, y2⟩ := K.calls.all k (by rw [hl]; exact k1) (by rw [ag_kd h k1]; exact b3)
      exact ⟨y, y1, by rw [y2, ag_cl h k1]; exact b4⟩
    · rintro ⟨x, x1, rfl⟩
      obtain ⟨b, b1, b2, b3, b4, _⟩ := K.calls.each x x1
      rw [hl] at b1
      rw [ag_kd h b1] at b3
      rw [ag_cl h b1] at b4
      obtain ⟨y, y1, y2⟩ := H.calls.all (oN a b) (h.val b b1).1 b3
      exact ⟨y, y1, by rw [y2]; exact b4⟩
  have hlen : cs.length = cs'.length := by have := congrArg List.length hnum; simpa using this
  have hnumj : ∀ j, j < cs.length → numC cs j = numC cs' j := fun j hj => by
    have := congrArg (fun s => s.getD j default) hnum
    rw [getD_map (d := default) hj, getD_map (d := default) (by omega)] at this
    exact this
  have hbg : ∀ j, j < cs.length → bgC cs' j < l.length ∧ bgC cs j = oN a (bgC cs' j) := fun j hj => by
    obtain ⟨b, b1, b2, b3, b4, _⟩ := H.calls.each j hj
    obtain ⟨b', c1, c2, c3, c4, _⟩ := K.calls.each j (by omega)
    rw [hl] at c1
    rw [ag_kd h c1] at c3
    rw [ag_cl h c1] at c4
    have e1 : bgC cs j = b := by unfold bgC; rw [b2, Int.toNat_natCast]
    have e2 : bgC cs' j = b' := by unfold bgC; rw [c2, Int.toNat_natCast]
    rw [e1, e2]
    refine ⟨c1, begin_uniq hok (.inl rfl) b1 (h.val b' c1).1 b3 c3 ?_⟩
    rw [b4, c4]; exact hnumj j hj
  have hen : ∀ j, j < cs.length → (enC cs j < 0 ↔ enC cs' j < 0) ∧ (¬ enC cs j < 0 → (enC cs' j).toNat < l.length ∧ (enC cs j).toNat = oN a (enC cs' j).toNat) := fun j hj => by
    obtain ⟨b, b1, b2, b3, b4, he⟩ := H.calls.each j hj
    obtain ⟨b', c1, c2, c3, c4, he'⟩ := K.calls.each j (by omega)
    have hn : (cs.getD j default).1 = (cs'.getD j default).1 := hnumj j hj
    have ee : enC cs j = (cs.getD j default).2.2 := rfl
    have ee' : enC cs' j = (cs'.getD j default).2.2 := rfl
    rcases he with ⟨e1, e2⟩ | ⟨e, e1, e2, e3, e4⟩ <;> rcases he' with ⟨q1, q2⟩ | ⟨q, q1, q2, q3, q4⟩
    · rw [ee, ee', e1, q1]
      exact ⟨Iff.rfl, fun k => absurd (by decide) k⟩
    · rw [hl] at q1
      rw [ag_kd h q1] at q3
      rw [ag_cl h q1] at q4
      exact absurd ⟨q3, q4.trans hn.symm⟩ (e2 _ (h.val q q1).1)
    · obtain ⟨k, k1, rfl⟩ := h.sur e e1
      refine absurd ⟨?_, ?_⟩ (q2 k (by rw [hl]; exact k1))
      · rw [ag_kd h k1]; exact e3
      · rw [ag_cl h k1]; exact e4.trans hn
    · rw [hl] at q1
      rw [ag_kd h q1] at q3
      rw [ag_cl h q1] at q4
      rw [ee, ee', e2, q2]
      refine ⟨by omega, fun _ => ?_⟩
      rw [Int.toNat_natCast, Int.toNat_natCast]
      exact ⟨q1, begin_uniq hok (.inr rfl) e1 (h.val q q1).1 e3 q3 (by rw [e4, q4]; exact hn)⟩
  refine ext_getD default (by rw [H.len, K.len, hlen]) fun i hi => ?_
  rw [H.len] at hi
  rw [H.par i hi, K.par i (by omega), hnumj i hi, hlen]
  congr 2
  refine parF_congr fun j hj => ?_
  have hj' : j < cs.length := by omega
  obtain ⟨u1, u2⟩ := hbg i hi
  obtain ⟨v1, v2⟩ := hbg j hj'
  obtain ⟨w1, w2⟩ := hen j hj'
  refine ⟨?_, ?_, hnumj j hj'⟩
  · unfold Within
    rw [u2, v2, ag_pst h hok v1 u1]
    constructor
    · rintro ⟨p1, p2⟩
      refine ⟨p1, ?_⟩
      by_cases c : enC cs j < 0
      · exact .inl (w1.1 c)
      · obtain ⟨w3, w4⟩ := w2 c
        right
        rw [ag_pst h hok w3 u1, ← w4]
        exact p2.resolve_left c
    · rintro ⟨p1, p2⟩
      refine ⟨p1, ?_⟩
      by_cases c : enC cs j < 0
      · exact .inl c
      · obtain ⟨w3, w4⟩ := w2 c
        right
        have := p2.resolve_left (fun q => c (w1.2 q))
        rwa [ag_pst h hok w3 u1, ← w4] at this
  · rw [v2]
    exact (ag_hgt h hok H.hgt K.hgt v1).symm
end Go.Ab

set_option linter.unusedVariables false
namespace Go.Ab

/-! layer 29: the law CauseOrders -/
theorem ag_take {l : List Act} {a : List Int} (h : Ord l a) {i : Nat} (hi : i < l.length) : (ag l a).take (i + 1) = (ag l a).take i ++ [l.getD (oN a i) default] := by
  rw [take_snoc default (by rw [ag_len h]; exact hi), ag_get h hi]
theorem ag_ra {l : List Act} {a : List Int} (h : Ord l a) (hR : RA l) : RA (ag l a) := fun k hk => by
  rw [ag_len h] at hk
  rw [ag_ms h hk, ag_cl h hk]
  exact hR _ (h.val k hk).1
theorem f32_upto {n : Int} {l : List Act} (hok : Ok n l) {a : List Int} (h : Ord l a) {i : Nat} (hi : i ≤ l.length) {c : List Int} (hl : c.length = n.toNat) (hc : ∀ p, p < n.toNat → c.getD p 0 = (cnt (ag l a) p i : Int)) : f32 n l c = some (true, 0) := by
  obtain ⟨n1, n2⟩ := hok.n
  have hnd := hok.nd
  have hin : ∀ j, j < l.length → (InC l c j ↔ Upto a i j) := fun j hj => cut_upto h hi (fun j hj => by
    have := hnd j hj
    rw [hc _ (by omega), show (((nd l j).toNat : Nat) : Int) = nd l j by omega]) hj
  refine f32_yes hok ⟨by omega, fun p hp => by rw [hc p (by omega)]; omega⟩ (fun p hp => ?_) (fun b hb hib x hx => ?_)
  · rw [hc p (by omega), cnt_ag h hi, cnt_cntP]
    have : cntP (fun j => nd l j = (p : Int) ∧ Upto a i j) l.length ≤ cntP (fun j => nd l j = (p : Int)) l.length := cntP_le fun x _ q => q.1
    omega
  · exact (hin x (by have := hx.lt; omega)).2 (upto_down h hi ((hin b hb).1 hib) hx)
/-- CauseOrders returns true. -/
theorem f7_t (n : Int) (l : List Act) (ts : List Int) (hR : RA l) : f7 n l ts = some true := by
  refine Tot.eq ?_
  unfold f7
  refine (f14_t l).bind fun x1 h1 => ?_
  refine tot_if (fun h => f8_tt (tot_some rfl)) (fun h => ?_)
  clear h h1
  obtain ⟨r, e1, hr⟩ := f41_t n l ts
  obtain ⟨r', e2, hr'⟩ := f42_t n l ts hR
  rw [hr'.uniq hr] at e2
  rw [e1, e2]
  simp only [Option.bind_some, f13_refl, Bool.not_true, decide_true, Bool.or_self, cond_false]
  refine tot_if (fun h => f8_tt (tot_some rfl)) (fun h => ?_)
  have hz : r.2 = 0 := by simpa using h
  obtain ⟨hok, hts, hr2⟩ : Ok n l ∧ (∀ x, x < ts.length → 0 ≤ ts.getD x default) ∧ r = ((ordS l ts l.length).2, 0) := by
    rcases hr with ⟨_, rfl⟩ | ⟨_, _, rfl⟩ | h
    · exact absurd hz (by decide)
    · exact absurd hz (by decide)
    · exact h
  have ho := ord_of (l := l) hts
  generalize ea : (ordS l ts l.length).2 = a at ho hr2
  subst hr2
  clear hr e1 e2 hr' h hz ea
  simp only
  obtain ⟨n1, n2⟩ := hok.n
  have hnd := hok.nd
  have hN := hok.len
  have hl := ag_len ho
  have hok' := ag_ok ho hok
  refine tot_need (mkOk_t (by omega) (by omega)) ?_
  rw [toNat_len, ho.len]
  refine (tot_rng (fun i (s : List Int × List Act) => s.1.length = n.toNat ∧ (∀ p, p < n.toNat → s.1.getD p 0 = (cnt (ag l a) p i : Int)) ∧ s.2 = (ag l a).take i) ⟨by simp, fun p hp => by rw [getD_rep hp]; rfl, by simp⟩ fun i s hi H => ?_).bind fun o ho' => ?_
  · obtain ⟨s19, s20⟩ := s
    obtain ⟨H1, H2, H3⟩ := H
    simp only at H1 H2 H3
    subst H3
    have hv := ho.val i hi
    have hni := hnd _ hv.1
    have eni : (l.getD (oN a i) default).1 = nd l (oN a i) := rfl
    unfold f7_b0
    refine tot_ix (by rw [ho.len]; exact hi) ?_
    simp only
    rw [hv.2]
    refine tot_ix hv.1 ?_
    rw [eni]
    refine tot_ixz hni.1 (by omega) ?_
    have hcl := cnt_le (l := ag l a) (p := nd l (oN a i)) (a := i)
    have hold : s19.getD (nd l (oN a i)).toNat 0 = (cnt (ag l a) (nd l (oN a i)) i : Int) := by rw [H2 _ (by omega), show (((nd l (oN a i)).toNat : Nat) : Int) = nd l (oN a i) by omega]
    have hw : w64 (s19.getD (nd l (oN a i)).toNat default + 1) = s19.getD (nd l (oN a i)).toNat 0 + 1 := w64_id (by
      show R64 (s19.getD (nd l (oN a i)).toNat 0 + 1)
      rw [hold]; constructor <;> omega)
    rw [hw]
    have hnew : ∀ p, p < n.toNat → (s19.set (nd l (oN a i)).toNat (s19.getD (nd l (oN a i)).toNat 0 + 1)).getD p 0 = (cnt (ag l a) p (i + 1) : Int) := fun p hp => by
      rw [getD_set (by omega)]
      simp only [cnt]
      rw [ag_nd ho hi]
      by_cases e : (nd l (oN a i)).toNat = p
      · rw [if_pos e, if_pos (by omega), hold, show nd l (oN a i) = (p : Int) by omega]; omega
      · rw [if_neg e, if_neg (by omega), H2 p hp]; omega
    refine tot_need (apOk_t (by rw [List.length_take]; simp; omega)) ?_
    rw [f32_upto hok ho (show i + 1 ≤ l.length by omega) (by simpa using H1) hnew]
    refine tot_some ⟨_, rfl, by simpa using H1, hnew, ?_⟩
    rw [ag_take ho hi]
  obtain ⟨⟨s19, s20⟩, rfl, _, _, h3⟩ := ho'
  simp only at h3 ⊢
  have hs : s20 = ag l a := by rw [h3, List.take_of_length_le (by rw [hl]; exact Nat.le_refl _)]
  subst hs
  rw [valid_p]
  simp only [Option.bind_some, hok', decide_true, Bool.not_true, cond_false]
  obtain ⟨m, em, hm⟩ := f19_t (n := n) (l := l)
  obtain ⟨m', em', hm'⟩ := f19_t (n := n) (l := ag l a)
  obtain ⟨g, eg, hg⟩ := f21_t (n := n) (l := l)
  obtain ⟨g', eg', hg'⟩ := f21_t (n := n) (l := ag l a)
  rw [em, em', eg, eg']
  have hm1 := hm.resolve_left (fun q => q.1 hok)
  have hm2 := hm'.resolve_left (fun q => q.1 hok')
  have hg1 := hg.resolve_left (fun q => q.1 hok)
  have hg2 := hg'.resolve_left (fun q => q.1 hok')
  have hml : m'.1.length = l.length := by rw [hm2.2.2.1, hl]
  have hgl : g'.1.length = l.length := by rw [hg2.2.2.len, hl]
  simp only [Option.bind_some, hm2.2.1, hg2.2.1, hml, hgl, decide_true, Bool.not_true, Bool.or_self, cond_false]
  refine (tot_rng (fun _ _ => True) trivial fun k s hk _ => ?_).bind fun o ho' => ?_
  · unfold f7_b1
    have hv := ho.val k hk
    refine tot_ix (by rw [ho.len]; exact hk) ?_
    simp only
    rw [hv.2]
    have hml1 : m.1.length = l.length := hm1.2.2.1
    refine tot_ix (by rw [hml1]; exact hv.1) (tot_ix (by rw [hml]; exact hk) ?_)
    have ec : m'.1.getD k default = m.1.getD (oN a k) default := by
      have := hm2.2.2.uniq (ag_clk ho hok hm1.2.2)
      rw [this, getD_map (d := default) (by rw [ho.len]; exact hk)]; rfl
    rw [ec, f13_refl]
    have hgl1 : g.1.length = l.length := hg1.2.2.len
    rw [ix_getD (show oN a k < g.1.length by rw [hgl1]; exact hv.1), ix_getD (show k < g'.1.length by rw [hgl]; exact hk)]
    simp only [Option.bind_some, Option.isSome_some, Bool.or_true, cond_true, Option.getD_some, Bool.not_true, Bool.false_or]
    refine tot_if (fun h => ?_) (fun _ => tot_some ⟨_, rfl, trivial⟩)
    simp only [Bool.not_eq_true', decide_eq_false_iff_not] at h
    exact absurd (ag_hgt ho hok hg1.2.2 hg2.2.2 hk).symm h
  obtain ⟨⟨⟩, rfl, _⟩ := ho'
  simp only
  obtain ⟨p, ep, hp⟩ := f43_t n l hR
  obtain ⟨p', ep', hp'⟩ := f43_t n (ag l a) (ag_ra ho hR)
  rw [ep, ep']
  obtain ⟨_, _, cs, gg, hp1⟩ := hp.resolve_left (fun q => q.1 hok)
  obtain ⟨_, hp0, cs', gg', hp2⟩ := hp'.resolve_left (fun q => q.1 hok')
  have hpe := ag_pars ho hok hp1 hp2
  simp only [Option.bind_some, hp0, hpe, decide_true, Bool.not_true, Bool.or_self, cond_false, toNat_len]
  refine (tot_rng (fun _ _ => True) trivial fun k s hk _ => ?_).bind fun o ho' => ?_
  · unfold f7_b2
    rw [hpe]
    refine tot_ix hk (tot_ix hk ?_)
    simp only [decide_true, Bool.and_self, Bool.not_true, cond_false]
    exact tot_some ⟨_, rfl, trivial⟩
  · obtain ⟨⟨⟩, rfl, _⟩ := ho'
    exact f8_tt (tot_some rfl)
end Go.Ab
