/- Lemmas for a law of the seat: what functions of the program do, each stated as a contract of its own (C). -/
import Derived.Test.YtigjjobjdajkfaaDoorPu
import Derived.Test.YtigjjobjdajkfaaDoorTAd
set_option linter.unusedVariables false
namespace Go.Ab

/-! layer 29: what is before what, over lists of events alone -/
abbrev Act := Int × Int × Int × Int × Str
def nd (l : List Act) (i : Nat) : Int := (l.getD i default).1
def kd (l : List Act) (i : Nat) : Int := (l.getD i default).2.1
def ms (l : List Act) (i : Nat) : Int := (l.getD i default).2.2.1
def cl (l : List Act) (i : Nat) : Int := (l.getD i default).2.2.2.1

/-- An event is directly before another one. -/
def Dir (l : List Act) (a b : Nat) : Prop := (kd l a = 2 ∧ kd l b = 3 ∧ ms l a = ms l b) ∨ (a < b ∧ nd l a = nd l b ∧ ∀ x, a < x → x < b → nd l x ≠ nd l a)
/-- An event is before another one. -/
inductive Pst (l : List Act) : Nat → Nat → Prop
  | dir {a b : Nat} : a < b → Dir l a b → Pst l a b
  | step {a b c : Nat} : a < b → Dir l a b → Pst l c a → Pst l c b
theorem Pst.lt {l : List Act} {a b : Nat} (h : Pst l a b) : a < b := by
  induction h with
  | dir h _ => exact h
  | step h _ _ ih => omega
theorem Pst.trans {l : List Act} {a b c : Nat} (h : Pst l a b) (k : Pst l b c) : Pst l a c := by
  induction k with
  | dir h1 h2 => exact .step h1 h2 h
  | step h1 h2 _ ih => exact .step h1 h2 (ih h)
theorem pst_iff {l : List Act} {c b : Nat} : Pst l c b ↔ ∃ a, a < b ∧ Dir l a b ∧ (c = a ∨ Pst l c a) := by
  constructor
  · intro h
    cases h with
    | dir h1 h2 => exact ⟨c, h1, h2, .inl rfl⟩
    | step h1 h2 h3 => exact ⟨_, h1, h2, .inr h3⟩
  · rintro ⟨a, h1, h2, rfl | h3⟩
    · exact .dir h1 h2
    · exact .step h1 h2 h3
/-- Events of a node are one before the other. -/
theorem pst_node {l : List Act} : ∀ (d i j : Nat), j - i = d → i < j → nd l i = nd l j → Pst l i j := by
  intro d
  induction d using Nat.strongRecOn with
  | _ d ih =>
    intro i j hd hij hn
    by_cases hx : ∃ x, i < x ∧ x < j ∧ nd l x = nd l i
    · obtain ⟨x, h1, h2, h3⟩ := hx
      have a := ih (x - i) (by omega) i x rfl h1 h3.symm
      have b := ih (j - x) (by omega) x j rfl h2 (h3.trans hn)
      exact a.trans b
    · exact .dir hij (.inr ⟨hij, hn, fun x h1 h2 h3 => hx ⟨x, h1, h2, h3⟩⟩)
theorem pst_same {l : List Act} {i j : Nat} (h : i < j) (hn : nd l i = nd l j) : Pst l i j := pst_node _ i j rfl h hn

/-- How many of the first events are of a node. -/
def cnt (l : List Act) (p : Int) : Nat → Nat
  | 0 => 0
  | k + 1 => cnt l p k + if nd l k = p then 1 else 0
theorem cnt_mono {l : List Act} {p : Int} {a b : Nat} (h : a ≤ b) : cnt l p a ≤ cnt l p b := by
  induction b with
  | zero => rw [Nat.le_zero.1 h]; exact Nat.le_refl _
  | succ b ih =>
    rcases Nat.lt_or_ge a (b + 1) with h1 | h1
    · exact Nat.le_trans (ih (by omega)) (by simp only [cnt]; omega)
    · rw [show a = b + 1 by omega]; exact Nat.le_refl _
theorem cnt_le {l : List Act} {p : Int} {a : Nat} : cnt l p a ≤ a := by
  induction a with
  | zero => exact Nat.le_refl _
  | succ a ih => simp only [cnt]; split <;> omega
/-- The number of an event among those of its node, from 1 on. -/
def idx (l : List Act) (j : Nat) : Nat := cnt l (nd l j) (j + 1)
theorem idx_eq {l : List Act} {j : Nat} : idx l j = cnt l (nd l j) j + 1 := by simp [idx, cnt]
theorem idx_pos {l : List Act} {j : Nat} : 1 ≤ idx l j := by rw [idx_eq]; omega
theorem idx_lt {l : List Act} {i j : Nat} (h : i < j) (hn : nd l i = nd l j) : idx l i < idx l j := by
  rw [idx_eq (j := j)]
  have : idx l i ≤ cnt l (nd l j) j := by rw [← hn]; exact cnt_mono (by omega)
  omega
theorem idx_inj {l : List Act} {i j : Nat} (hn : nd l i = nd l j) (h : idx l i = idx l j) : i = j := by
  rcases Nat.lt_trichotomy i j with h1 | h1 | h1
  · have := idx_lt h1 hn; omega
  · exact h1
  · have := idx_lt h1 hn.symm; omega
theorem idx_tot {l : List Act} {j N : Nat} (h : j < N) : idx l j ≤ cnt l (nd l j) N := cnt_mono h
/-- Every number is an event's. -/
theorem idx_ex {l : List Act} {p : Int} {m : Nat} : ∀ {N : Nat}, 1 ≤ m → m ≤ cnt l p N → ∃ j, j < N ∧ nd l j = p ∧ idx l j = m := by
  intro N
  induction N with
  | zero => intro h1 h2; simp only [cnt] at h2; omega
  | succ N ih =>
    intro h1 h2
    by_cases h : m ≤ cnt l p N
    · obtain ⟨j, a, b, c⟩ := ih h1 h
      exact ⟨j, by omega, b, c⟩
    · simp only [cnt] at h2
      split at h2
      · rename_i hn
        refine ⟨N, by omega, hn, ?_⟩
        rw [idx_eq, hn]; omega
      · omega

/-- A list is an event's clock. -/
structure IsClock (n : Nat) (l : List Act) (b : Nat) (c : List Int) : Prop where
  len : c.length = n
  rg : ∀ p, p < n → 0 ≤ c.getD p 0 ∧ c.getD p 0 ≤ cnt l p l.length
  iff : ∀ j, j < l.length → ((j = b ∨ Pst l j b) ↔ (idx l j : Int) ≤ c.getD (nd l j).toNat 0)
theorem IsClock.uniq {n : Nat} {l : List Act} {b : Nat} {c d : List Int} (h : IsClock n l b c) (k : IsClock n l b d) : c = d := by
  have key : ∀ {c d : List Int}, IsClock n l b c → IsClock n l b d → ∀ p, p < n → c.getD p 0 ≤ d.getD p 0 := by
    intro c d h k p hp
    have h1 := h.rg p hp
    have h2 := k.rg p hp
    rcases Int.lt_or_le 0 (c.getD p 0) with h3 | h3
    · obtain ⟨j, h4, h5, h6⟩ := idx_ex (l := l) (p := (p : Int)) (m := (c.getD p 0).toNat) (N := l.length) (by omega) (by omega)
      have h7 := (h.iff j h4).2 (by rw [h5, h6, Int.toNat_natCast]; omega)
      have h8 := (k.iff j h4).1 h7
      rw [h5, h6, Int.toNat_natCast] at h8
      omega
    · omega
  refine ext_getD 0 (h.len.trans k.len.symm) fun p hp => ?_
  rw [h.len] at hp
  exact Int.le_antisymm (key h k p hp) (key k h p hp)
/-- An event's own number in its clock. -/
theorem IsClock.self {n : Nat} {l : List Act} {b : Nat} {c : List Int} (h : IsClock n l b c) (hb : b < l.length) (hn : 0 ≤ nd l b ∧ nd l b < n) : c.getD (nd l b).toNat 0 = idx l b := by
  have h1 := (h.iff b hb).1 (.inl rfl)
  have h2 := h.rg (nd l b).toNat (by omega)
  rw [show (((nd l b).toNat : Nat) : Int) = nd l b by omega] at h2
  rcases Int.lt_or_le (idx l b : Int) (c.getD (nd l b).toNat 0) with h3 | h3
  · obtain ⟨j, h4, h5, h6⟩ := idx_ex (l := l) (p := nd l b) (m := (c.getD (nd l b).toNat 0).toNat) (N := l.length) (by omega) (by omega)
    have h7 := (h.iff j h4).2 (by rw [h5, h6]; omega)
    rcases h7 with h7 | h7
    · subst h7; omega
    · have := idx_lt h7.lt h5; omega
  · omega
/-- What is before what, by the clocks. -/
theorem IsClock.before {n : Nat} {l : List Act} {a b : Nat} {c d : List Int} (h : IsClock n l a c) (k : IsClock n l b d) (ha : a < l.length) (hn : 0 ≤ nd l a ∧ nd l a < n) : (a = b ∨ Pst l a b) ↔ c.getD (nd l a).toNat 0 ≤ d.getD (nd l a).toNat 0 := by
  rw [h.self ha hn]; exact k.iff a ha
/-- Clocks go up along what is before what. -/
theorem IsClock.le {n : Nat} {l : List Act} {a b : Nat} {c d : List Int} (h : IsClock n l a c) (k : IsClock n l b d) (hab : Pst l a b) {p : Nat} (hp : p < n) : c.getD p 0 ≤ d.getD p 0 := by
  have h1 := h.rg p hp
  have h2 := k.rg p hp
  rcases Int.lt_or_le 0 (c.getD p 0) with h3 | h3
  · obtain ⟨j, h4, h5, h6⟩ := idx_ex (l := l) (p := (p : Int)) (m := (c.getD p 0).toNat) (N := l.length) (by omega) (by omega)
    have h7 := (h.iff j h4).2 (by rw [h5, h6, Int.toNat_natCast]; omega)
    have h8 : j = b ∨ Pst l j b := by
      rcases h7 with rfl | h7
      · exact .inr hab
      · exact .inr (h7.trans hab)
    have h9 := (k.iff j h4).1 h8
    rw [h5, h6, Int.toNat_natCast] at h9
    omega
  · omega

/-- The clock of an event out of those directly before it. -/
theorem isClock_step {n : Nat} {l : List Act} {b : Nat} {m c : List Int} (hb : b < l.length) (hn : ∀ i, i < l.length → 0 ≤ nd l i ∧ nd l i < n) (hlen : m.length = n)
    (hm0 : ∀ p, p < n → 0 ≤ m.getD p 0)
    (hge : ∀ k ck, k < b → Dir l k b → IsClock n l k ck → ∀ p, p < n → ck.getD p 0 ≤ m.getD p 0)
    (hle : ∀ p, p < n → 0 < m.getD p 0 → ∃ k ck, k < b ∧ Dir l k b ∧ IsClock n l k ck ∧ m.getD p 0 = ck.getD p 0)
    (hck : ∀ k, k < b → Dir l k b → ∃ ck, IsClock n l k ck)
    (hc : c = m.set (nd l b).toNat (m.getD (nd l b).toNat 0 + 1)) : IsClock n l b c := by
  have hnb := hn b hb
  have hset : ∀ p, c.getD p 0 = if (nd l b).toNat = p then m.getD (nd l b).toNat 0 + 1 else m.getD p 0 := fun p => by
    rw [hc]; exact getD_set (by omega)
  -- what is before the event, by 'm'
  have hpm : ∀ j, j < l.length → (Pst l j b ↔ (idx l j : Int) ≤ m.getD (nd l j).toNat 0) := by
    intro j hj
    have hnj := hn j hj
    constructor
    · intro h
      obtain ⟨a, h1, h2, h3⟩ := pst_iff.1 h
      obtain ⟨ck, h4⟩ := hck a h1 h2
      exact Int.le_trans ((h4.iff j hj).1 h3) (hge a ck h1 h2 h4 _ (by omega))
    · intro h
      have := idx_pos (l := l) (j := j)
      obtain ⟨k, ck, h1, h2, h3, h4⟩ := hle (nd l j).toNat (by omega) (by omega)
      rw [h4] at h
      exact pst_iff.2 ⟨k, h1, h2, (h3.iff j hj).2 h⟩
  -- the event's own number
  have hself : m.getD (nd l b).toNat 0 = cnt l (nd l b) b := by
    apply Int.le_antisymm
    · rcases Int.lt_or_le 0 (m.getD (nd l b).toNat 0) with h3 | h3
      · obtain ⟨k, ck, h1, h2, h4, h5⟩ := hle (nd l b).toNat (by omega) h3
        have h6 := h4.rg (nd l b).toNat (by omega)
        rw [show (((nd l b).toNat : Nat) : Int) = nd l b by omega] at h6
        obtain ⟨j, h7, h8, h9⟩ := idx_ex (l := l) (p := nd l b) (m := (m.getD (nd l b).toNat 0).toNat) (N := l.length) (by omega) (by omega)
        have h10 := (hpm j h7).2 (by rw [h8, h9]; omega)
        have h11 := idx_lt h10.lt h8
        rw [idx_eq (j := b)] at h11
        omega
      · omega
    · by_cases hz : cnt l (nd l b) b = 0
      · rw [hz]; exact hm0 _ (by omega)
      · obtain ⟨j, h7, h8, h9⟩ := idx_ex (l := l) (p := nd l b) (m := cnt l (nd l b) b) (N := b) (by omega) (Nat.le_refl _)
        have := (hpm j (by omega)).1 (pst_same h7 h8)
        rw [h8, h9] at this; exact this
  refine ⟨by rw [hc]; simp [hlen], fun p hp => ?_, fun j hj => ?_⟩
  · rw [hset]
    split
    · rename_i e
      rw [hself]
      have := idx_tot (l := l) hb
      rw [idx_eq] at this
      subst e
      rw [show (((nd l b).toNat : Nat) : Int) = nd l b by omega]
      omega
    · refine ⟨hm0 p hp, ?_⟩
      rcases Int.lt_or_le 0 (m.getD p 0) with h3 | h3
      · obtain ⟨k, ck, h1, h2, h4, h5⟩ := hle p hp h3
        rw [h5]; exact (h4.rg p hp).2
      · omega
  · have hnj := hn j hj
    rw [hset]
    split
    · rename_i e
      have e' : nd l j = nd l b := by omega
      rw [hself]
      have h1 := idx_eq (l := l) (j := b)
      constructor
      · rintro (rfl | h)
        · omega
        · have := idx_lt h.lt e'; omega
      · intro h
        rcases Nat.lt_trichotomy j b with h2 | h2 | h2
        · exact .inr (pst_same h2 e')
        · exact .inl h2
        · have := idx_lt h2 e'.symm; omega
    · rename_i e
      rw [← hpm j hj]
      constructor
      · rintro (rfl | h)
        · exact absurd rfl e
        · exact h
      · exact fun h => .inr h
end Go.Ab


set_option linter.unusedVariables false
namespace Go.Ab

/-! layer 29: which histories are right -/
def BadR (n : Int) (x : Act) : Prop := (x.1 < 0 ∨ n ≤ x.1) ∨ ((x.2.1 = 2 ∨ x.2.1 = 3) ∧ x.2.2.1 < 1) ∨ ((x.2.1 = 4 ∨ x.2.1 = 5) ∧ x.2.2.2.1 < 1)
def Flds (x : Act) : Prop := (((1 ≤ x.2.1 ∧ x.2.1 ≤ 5) ∧ ((x.2.1 = 2 ∨ x.2.1 = 3) ∨ x.2.2.1 = 0)) ∧ ((x.2.1 = 4 ∨ x.2.1 = 5) ∨ x.2.2.2.1 = 0)) ∧ (x.2.2.2.2.length : Int) ≤ 32
def HasS (l : List Act) (i : Nat) (m : Int) : Prop := ∃ j, j < i ∧ kd l j = 2 ∧ ms l j = m
def HasC (l : List Act) (k : Int) (i : Nat) (m : Int) : Prop := ∃ j, j < i ∧ kd l j = k ∧ cl l j = m
def Dup (l : List Act) (i : Nat) : Prop := ((kd l i = 2 ∧ HasS l i (ms l i)) ∨ (kd l i = 4 ∧ HasC l 4 i (cl l i))) ∨ (kd l i = 5 ∧ HasC l 5 i (cl l i))
def Nope (l : List Act) (i : Nat) : Prop := (kd l i = 3 ∧ ¬ HasS l i (ms l i)) ∨ (kd l i = 5 ∧ ¬ HasC l 4 i (cl l i))
def Away (l : List Act) (i : Nat) : Prop := kd l i = 5 ∧ ∃ j, j < i ∧ kd l j = 4 ∧ cl l j = cl l i ∧ nd l j ≠ nd l i
open Classical in
/-- What is wrong with an event. -/
noncomputable def code (n : Int) (l : List Act) (i : Nat) : Int :=
  if BadR n (l.getD i default) then 7 else if ¬ Flds (l.getD i default) then 10 else if Dup l i then 6 else if Nope l i then 8 else if Away l i then 9 else 0

/-- What the checker knows ahead of an event. -/
structure WInv (n : Int) (l : List Act) (i : Nat) (s : List (Int × Bool)) (b c : List (Int × Int)) : Prop where
  ok : ∀ j, j < i → code n l j = 0
  sent : ∀ m, (mget s m).getD false = true ↔ HasS l i m
  begun : ∀ m, (mget b m).isSome = true ↔ HasC l 4 i m
  node : ∀ j, j < i → kd l j = 4 → mget b (cl l j) = some (nd l j)
  over : ∀ m, (mget c m).isSome = true ↔ HasC l 5 i m

theorem f80_t (x : Act) : Tot (f80 x) fun r => (r = true ↔ Flds x) := by
  refine tot_some ?_
  simp only [Bool.and_eq_true, Bool.or_eq_true, decide_eq_true_eq, Flds]
theorem hasS_succ {l : List Act} {i : Nat} {m : Int} : HasS l (i + 1) m ↔ HasS l i m ∨ (kd l i = 2 ∧ ms l i = m) := by
  constructor
  · rintro ⟨j, h1, h2, h3⟩
    rcases Nat.lt_or_ge j i with h | h
    · exact .inl ⟨j, h, h2, h3⟩
    · rw [show j = i by omega] at h2 h3; exact .inr ⟨h2, h3⟩
  · rintro (⟨j, h1, h2, h3⟩ | ⟨h2, h3⟩)
    · exact ⟨j, by omega, h2, h3⟩
    · exact ⟨i, by omega, h2, h3⟩
theorem hasC_succ {l : List Act} {k : Int} {i : Nat} {m : Int} : HasC l k (i + 1) m ↔ HasC l k i m ∨ (kd l i = k ∧ cl l i = m) := by
  constructor
  · rintro ⟨j, h1, h2, h3⟩
    rcases Nat.lt_or_ge j i with h | h
    · exact .inl ⟨j, h, h2, h3⟩
    · rw [show j = i by omega] at h2 h3; exact .inr ⟨h2, h3⟩
  · rintro (⟨j, h1, h2, h3⟩ | ⟨h2, h3⟩)
    · exact ⟨j, by omega, h2, h3⟩
    · exact ⟨i, by omega, h2, h3⟩

theorem f49_t {n : Int} {l : List Act} {i : Nat} {s : List (Int × Bool)} {b c : List (Int × Int)} (H : WInv n l i s b c) :
    Tot (f49 n s b c (l.getD i default)) fun r => r.1 = code n l i ∧ (r.1 = 0 → WInv n l (i + 1) r.2.1 r.2.2.1 r.2.2.2) := by
  unfold f49
  have hb7 : ∀ {p : Prop}, ((7 : Int) = 0 → p) := fun h => absurd h (by decide)
  refine tot_if (fun h1 => ?_) (fun h1 => ?_)
  · simp only [Bool.or_eq_true, decide_eq_true_eq] at h1
    refine tot_some ⟨?_, hb7⟩
    rw [code, if_pos (.inl h1)]
  simp only [Bool.or_eq_false_iff, decide_eq_false_iff_not] at h1
  refine tot_if (fun h2 => ?_) (fun h2 => ?_)
  · simp only [Bool.or_eq_true, Bool.and_eq_true, decide_eq_true_eq] at h2
    refine tot_some ⟨?_, hb7⟩
    rw [code, if_pos (.inr h2)]
  have hbad : ¬ BadR n (l.getD i default) := by
    have h2' := Bool.eq_false_iff.1 h2
    simp only [ne_eq, Bool.or_eq_true, Bool.and_eq_true, decide_eq_true_eq] at h2'
    rintro (h | h)
    · rcases h with h | h
      · exact h1.1 h
      · exact h1.2 h
    · exact h2' h
  refine (f80_t _).bind fun x6 h6 => ?_
  refine tot_if (fun h3 => ?_) (fun h3 => ?_)
  · refine tot_some ⟨?_, fun h => absurd h (show ¬ (10 : Int) = 0 by decide)⟩
    have : ¬ Flds (l.getD i default) := fun h => by rw [h6.2 h] at h3; simp at h3
    rw [code, if_neg hbad, if_pos this]
  have hf : Flds (l.getD i default) := h6.1 (by simpa using h3)
  have hkd : ∀ k : Int, (decide ((l.getD i default).2.1 = k)) = decide (kd l i = k) := fun _ => rfl
  refine tot_if (fun h4 => ?_) (fun h4 => ?_)
  · refine tot_some ⟨?_, fun h => absurd h (show ¬ (6 : Int) = 0 by decide)⟩
    simp only [Bool.or_eq_true, Bool.and_eq_true, decide_eq_true_eq, H.sent, H.begun, H.over] at h4
    rw [code, if_neg hbad, if_neg (fun h => h hf), if_pos (show Dup l i from h4)]
  have hdup : ¬ Dup l i := by
    have h4' := Bool.eq_false_iff.1 h4
    simp only [ne_eq, Bool.or_eq_true, Bool.and_eq_true, decide_eq_true_eq, H.sent, H.begun, H.over] at h4'
    exact h4'
  have hn1 : ((mget s (l.getD i default).2.2.1).getD false) = false ↔ ¬ HasS l i (ms l i) := by rw [← H.sent]; simp [ms]
  have hn2 : ((mget b (l.getD i default).2.2.2.1).isSome) = false ↔ ¬ HasC l 4 i (cl l i) := by rw [← H.begun]; simp [cl]
  refine tot_if (fun h5 => ?_) (fun h5 => ?_)
  · refine tot_some ⟨?_, fun h => absurd h (show ¬ (8 : Int) = 0 by decide)⟩
    simp only [Bool.or_eq_true, Bool.and_eq_true, decide_eq_true_eq, Bool.not_eq_true', hn1, hn2] at h5
    rw [code, if_neg hbad, if_neg (fun h => h hf), if_neg hdup, if_pos (show Nope l i from h5)]
  have hnope : ¬ Nope l i := by
    have h5' := Bool.eq_false_iff.1 h5
    simp only [ne_eq, Bool.or_eq_true, Bool.and_eq_true, decide_eq_true_eq, Bool.not_eq_true', hn1, hn2] at h5'
    exact h5'
  have haway : Away l i ↔ kd l i = 5 ∧ (mget b (cl l i)).getD 0 ≠ nd l i := by
    constructor
    · rintro ⟨h, j, a1, a2, a3, a4⟩
      refine ⟨h, ?_⟩
      rw [← a3, H.node j a1 a2]; exact a4
    · rintro ⟨h, a⟩
      refine ⟨h, ?_⟩
      have : HasC l 4 i (cl l i) := Classical.byContradiction fun hc => hnope (.inr ⟨h, hc⟩)
      obtain ⟨j, a1, a2, a3⟩ := this
      refine ⟨j, a1, a2, a3, ?_⟩
      rw [← a3, H.node j a1 a2] at a; exact a
  refine tot_if (fun h7 => ?_) (fun h7 => ?_)
  · refine tot_some ⟨?_, fun h => absurd h (show ¬ (9 : Int) = 0 by decide)⟩
    simp only [Bool.and_eq_true, decide_eq_true_eq, Bool.not_eq_true', decide_eq_false_iff_not] at h7
    rw [code, if_neg hbad, if_neg (fun h => h hf), if_neg hdup, if_neg hnope, if_pos (haway.2 h7)]
  have hcode : code n l i = 0 := by
    have h7' := Bool.eq_false_iff.1 h7
    simp only [ne_eq, Bool.and_eq_true, decide_eq_true_eq, Bool.not_eq_true', decide_eq_false_iff_not] at h7'
    rw [code, if_neg hbad, if_neg (fun h => h hf), if_neg hdup, if_neg hnope, if_neg (fun h => h7' (haway.1 h))]
  have hok : ∀ j, j < i + 1 → code n l j = 0 := fun j hj => by
    rcases Nat.lt_or_ge j i with h | h
    · exact H.ok j h
    · rw [show j = i by omega]; exact hcode
  -- the maps behind the event
  have fin : ∀ {s' : List (Int × Bool)} {b' c' : List (Int × Int)}, WInv n l (i + 1) s' b' c' → Tot (some ((0 : Int), s', b', c')) fun r => r.1 = code n l i ∧ (r.1 = 0 → WInv n l (i + 1) r.2.1 r.2.2.1 r.2.2.2) := fun h => tot_some ⟨hcode.symm, fun _ => h⟩
  cases e2 : decide ((l.getD i default).2.1 = 2) with
  | true =>
    have e2' : kd l i = 2 := of_decide_eq_true e2
    refine fin ⟨hok, fun m => ?_, fun m => ?_, fun j hj hk => ?_, fun m => ?_⟩
    · rw [mget_mset, hasS_succ]
      by_cases e : m = (l.getD i default).2.2.1
      · rw [if_pos e]; simp [e2', e, ms]
      · rw [if_neg e, H.sent]
        constructor
        · exact .inl
        · rintro (h | h)
          · exact h
          · exact absurd h.2.symm e
    · rw [H.begun, hasC_succ]
      exact ⟨.inl, fun h => h.elim id fun h => absurd (e2'.symm.trans h.1) (by decide)⟩
    · rcases Nat.lt_or_ge j i with h | h
      · exact H.node j h hk
      · rw [show j = i by omega, e2'] at hk; exact absurd hk (by decide)
    · rw [H.over, hasC_succ]
      exact ⟨.inl, fun h => h.elim id fun h => absurd (e2'.symm.trans h.1) (by decide)⟩
  | false =>
    have e2' : kd l i ≠ 2 := of_decide_eq_false e2
    have hs : ∀ m, (mget s m).getD false = true ↔ HasS l (i + 1) m := fun m => by
      rw [H.sent, hasS_succ]
      exact ⟨.inl, fun h => h.elim id fun h => absurd h.1 e2'⟩
    cases e4 : decide ((l.getD i default).2.1 = 4) with
    | true =>
      have e4' : kd l i = 4 := of_decide_eq_true e4
      have hnb : ¬ HasC l 4 i (cl l i) := fun h => hdup (.inl (.inr ⟨e4', h⟩))
      refine fin ⟨hok, hs, fun m => ?_, fun j hj hk => ?_, fun m => ?_⟩
      · rw [mget_mset, hasC_succ]
        by_cases e : m = (l.getD i default).2.2.2.1
        · rw [if_pos e]; simp [e4', e, cl]
        · rw [if_neg e, H.begun]
          constructor
          · exact .inl
          · rintro (h | h)
            · exact h
            · exact absurd h.2.symm e
      · rw [mget_mset]
        rw [show (l.getD i default).2.2.2.1 = cl l i from rfl]
        rcases Nat.lt_or_ge j i with h | h
        · rw [if_neg (fun e => hnb ⟨j, h, hk, e⟩)]; exact H.node j h hk
        · rw [show j = i by omega]; rw [if_pos rfl]; rfl
      · rw [H.over, hasC_succ]
        exact ⟨.inl, fun h => h.elim id fun h => absurd (e4'.symm.trans h.1) (by decide)⟩
    | false =>
      have e4' : kd l i ≠ 4 := of_decide_eq_false e4
      have hb : ∀ m, (mget b m).isSome = true ↔ HasC l 4 (i + 1) m := fun m => by
        rw [H.begun, hasC_succ]
        exact ⟨.inl, fun h => h.elim id fun h => absurd h.1 e4'⟩
      have hn : ∀ j, j < i + 1 → kd l j = 4 → mget b (cl l j) = some (nd l j) := fun j hj hk => by
        rcases Nat.lt_or_ge j i with h | h
        · exact H.node j h hk
        · rw [show j = i by omega] at hk; exact absurd hk e4'
      cases e5 : decide ((l.getD i default).2.1 = 5) with
      | true =>
        have e5' : kd l i = 5 := of_decide_eq_true e5
        refine fin ⟨hok, hs, hb, hn, fun m => ?_⟩
        rw [mget_mset, hasC_succ]
        by_cases e : m = (l.getD i default).2.2.2.1
        · rw [if_pos e]; simp [e5', e, cl]
        · rw [if_neg e, H.over]
          constructor
          · exact .inl
          · rintro (h | h)
            · exact h
            · exact absurd h.2.symm e
      | false =>
        have e5' : kd l i ≠ 5 := of_decide_eq_false e5
        refine fin ⟨hok, hs, hb, hn, fun m => ?_⟩
        rw [H.over, hasC_succ]
        exact ⟨.inl, fun h => h.elim id fun h => absurd h.1 e5'⟩

/-- What Wrong tells. -/
def WrongIs (n : Int) (l : List Act) (r : Int × Int) : Prop :=
  ((n < 1 ∨ 16 < n) ∧ r = (0, 7)) ∨ (¬ (n < 1 ∨ 16 < n) ∧ ((r = (-1, 0) ∧ ∀ i, i < l.length → i ≠ 1000 ∧ code n l i = 0) ∨
    ∃ i : Nat, i < l.length ∧ (∀ j, j < i → j ≠ 1000 ∧ code n l j = 0) ∧ ((i = 1000 ∧ r = (1000, 4)) ∨ (i ≠ 1000 ∧ code n l i ≠ 0 ∧ r = (↑i, code n l i)))))
theorem WrongIs.uniq {n : Int} {l : List Act} {r q : Int × Int} (h : WrongIs n l r) (k : WrongIs n l q) : r = q := by
  rcases h with ⟨h1, rfl⟩ | ⟨h1, h⟩
  · rcases k with ⟨k1, rfl⟩ | ⟨k1, k⟩
    · rfl
    · exact absurd h1 k1
  · rcases k with ⟨k1, rfl⟩ | ⟨k1, k⟩
    · exact absurd k1 h1
    · have bad : ∀ {i : Nat}, (∀ j, j < l.length → j ≠ 1000 ∧ code n l j = 0) → i < l.length → ((i = 1000 ∧ True) ∨ (i ≠ 1000 ∧ code n l i ≠ 0 ∧ True)) → False := fun h hi hx => by
        rcases hx with hx | hx
        · exact (h _ hi).1 hx.1
        · exact hx.2.1 (h _ hi).2
      rcases h with ⟨rfl, h⟩ | ⟨i, h2, h3, h4⟩
      · rcases k with ⟨rfl, k⟩ | ⟨i, k2, k3, k4⟩
        · rfl
        · exact (bad h k2 (k4.imp (fun x => ⟨x.1, trivial⟩) fun x => ⟨x.1, x.2.1, trivial⟩)).elim
      · rcases k with ⟨rfl, k⟩ | ⟨j, k2, k3, k4⟩
        · exact (bad k h2 (h4.imp (fun x => ⟨x.1, trivial⟩) fun x => ⟨x.1, x.2.1, trivial⟩)).elim
        · have e : i = j := by
            rcases Nat.lt_trichotomy i j with c | c | c
            · have := k3 i c
              rcases h4 with h4 | h4
              · exact absurd h4.1 this.1
              · exact absurd this.2 h4.2.1
            · exact c
            · have := h3 j c
              rcases k4 with k4 | k4
              · exact absurd k4.1 this.1
              · exact absurd this.2 k4.2.1
          subst e
          rcases h4 with ⟨_, rfl⟩ | ⟨a, _, rfl⟩
          · rcases k4 with ⟨_, rfl⟩ | ⟨b, _, rfl⟩
            · rfl
            · exact absurd (by assumption) b
          · rcases k4 with ⟨_, rfl⟩ | ⟨b, _, rfl⟩
            · exact absurd (by assumption) a
            · rfl
/-- A history that is right. -/
def Ok (n : Int) (l : List Act) : Prop := ¬ (n < 1 ∨ 16 < n) ∧ ∀ i, i < l.length → i ≠ 1000 ∧ code n l i = 0
theorem WrongIs.ok {n : Int} {l : List Act} {r : Int × Int} (h : WrongIs n l r) : r.2 = 0 ↔ Ok n l := by
  rcases h with ⟨h1, rfl⟩ | ⟨h1, ⟨rfl, h⟩ | ⟨i, h2, h3, h4⟩⟩
  · exact ⟨fun h => absurd h (by decide), fun h => absurd h1 h.1⟩
  · exact ⟨fun _ => ⟨h1, h⟩, fun _ => rfl⟩
  · constructor
    · rcases h4 with ⟨_, rfl⟩ | ⟨_, h5, rfl⟩
      · exact fun h => absurd h (by decide)
      · exact fun h => absurd h h5
    · intro h
      rcases h4 with ⟨h5, rfl⟩ | ⟨_, h5, rfl⟩
      · exact absurd h5 (h.2 _ h2).1
      · exact (h.2 _ h2).2

theorem f15_t (n : Int) (l : List Act) : Tot (f15 n l) (WrongIs n l) := by
  unfold f15
  refine tot_if (fun h => ?_) (fun h => ?_)
  · simp only [Bool.or_eq_true, decide_eq_true_eq] at h
    exact tot_some (.inl ⟨h, rfl⟩)
  simp only [Bool.or_eq_false_iff, decide_eq_false_iff_not] at h
  have h' : ¬ (n < 1 ∨ 16 < n) := by omega
  rw [toNat_len]
  refine (tot_rngx (fun i s => (∀ j, j < i → j ≠ 1000) ∧ WInv n l i s.1 s.2.1 s.2.2) (WrongIs n l) ⟨fun j hj => absurd hj (by omega), ⟨fun j hj => absurd hj (by omega), fun m => ?_, fun m => ?_, fun j hj => absurd hj (by omega), fun m => ?_⟩⟩ fun i s hi H => ?_).bind fun o ho => ?_
  · constructor
    · intro h; simp [mget] at h
    · rintro ⟨j, h, _⟩; omega
  · constructor
    · intro h; simp [mget] at h
    · rintro ⟨j, h, _⟩; omega
  · constructor
    · intro h; simp [mget] at h
    · rintro ⟨j, h, _⟩; omega
  · obtain ⟨H0, H⟩ := H
    obtain ⟨s4, s5, s6⟩ := s
    unfold f15_b0
    refine tot_ix hi ?_
    refine tot_if (fun h1 => ?_) (fun h1 => ?_)
    · have e : i = 1000 := by have := of_decide_eq_true h1; omega
      refine tot_some (.inr ⟨_, rfl, .inr ⟨h', .inr ⟨i, hi, fun j hj => ⟨H0 j hj, H.ok j hj⟩, .inl ⟨e, by rw [e]; rfl⟩⟩⟩⟩)
    · have e : i ≠ 1000 := by have := of_decide_eq_false h1; omega
      refine (f49_t H).bind fun r hr => ?_
      refine tot_if (fun h2 => ?_) (fun h2 => ?_)
      · simp only [Bool.not_eq_true', decide_eq_false_iff_not] at h2
        refine tot_some (.inr ⟨_, rfl, .inr ⟨h', .inr ⟨i, hi, fun j hj => ⟨H0 j hj, H.ok j hj⟩, .inr ⟨e, by rw [← hr.1]; exact h2, by rw [hr.1]⟩⟩⟩⟩)
      · simp only [Bool.not_eq_false', decide_eq_true_eq] at h2
        refine tot_some (.inl ⟨_, rfl, fun j hj => ?_, hr.2 h2⟩)
        rcases Nat.lt_or_ge j i with h | h
        · exact H0 j h
        · rw [show j = i by omega]; exact e
  · rcases ho with ⟨⟨s4, s5, s6⟩, rfl, H0, H⟩ | ⟨⟨s11, s12⟩, rfl, h⟩
    · exact tot_some (.inr ⟨h', .inl ⟨rfl, fun i hi => ⟨H0 i hi, H.ok i hi⟩⟩⟩)
    · exact tot_some h
theorem f17_t (n : Int) (l : List Act) : Tot (f17 n l) fun r => (r = true ↔ Ok n l) := by
  unfold f17
  refine (f15_t n l).bind fun r hr => tot_some ?_
  rw [decide_eq_true_eq]; exact hr.ok
end Go.Ab


set_option linter.unusedVariables false
namespace Go.Ab

/-! layer 29: the reference's Wrong -/
/-- Numbers are the machine's. -/
def RA (l : List Act) : Prop := ∀ i, i < l.length → R64 (ms l i) ∧ R64 (cl l i)
theorem code_zero {n : Int} {l : List Act} {i : Nat} (h : code n l i = 0) : ¬ BadR n (l.getD i default) ∧ Flds (l.getD i default) ∧ ¬ Dup l i ∧ ¬ Nope l i ∧ ¬ Away l i := by
  unfold code at h
  split at h
  · exact absurd h (by decide)
  · rename_i h1
    split at h
    · exact absurd h (by decide)
    · rename_i h2
      split at h
      · exact absurd h (by decide)
      · rename_i h3
        split at h
        · exact absurd h (by decide)
        · rename_i h4
          split at h
          · exact absurd h (by decide)
          · rename_i h5
            exact ⟨h1, Classical.byContradiction h2, h3, h4, h5⟩
theorem tk0 {α : Type} (l : List α) (i : Nat) : (l.take (Int.toNat (i : Int))).drop (Int.toNat 0) = l.take i := by simp
def num (l : List Act) (j : Nat) : Int := w64 (ms l j + cl l j)
theorem f51_t (l : List Act) (k q : Int) : Tot (f51 l k q) fun r => (r = -1 ∧ ∀ j, j < l.length → ¬ (kd l j = k ∧ num l j = q)) ∨ ∃ j : Nat, j < l.length ∧ r = (j : Int) ∧ kd l j = k ∧ num l j = q ∧ ∀ x, x < j → ¬ (kd l x = k ∧ num l x = q) := by
  unfold f51
  rw [toNat_len]
  refine (tot_rngx (fun i s => ∀ j, j < i → ¬ (kd l j = k ∧ num l j = q)) (fun r => ∃ j : Nat, j < l.length ∧ r = (j : Int) ∧ kd l j = k ∧ num l j = q ∧ ∀ x, x < j → ¬ (kd l x = k ∧ num l x = q)) (fun j hj => absurd hj (by omega)) fun i s hi H => ?_).bind fun o ho => ?_
  · unfold f51_b0
    refine tot_ix hi ?_
    refine tot_if (fun h => ?_) (fun h => ?_)
    · simp only [Bool.and_eq_true, decide_eq_true_eq] at h
      exact tot_some (.inr ⟨_, rfl, i, hi, rfl, h.1, h.2, H⟩)
    · have h' := Bool.eq_false_iff.1 h
      simp only [ne_eq, Bool.and_eq_true, decide_eq_true_eq] at h'
      refine tot_some (.inl ⟨_, rfl, fun j hj => ?_⟩)
      rcases Nat.lt_or_ge j i with h | h
      · exact H j h
      · rw [show j = i by omega]; exact h'
  · rcases ho with ⟨⟨⟩, rfl, H⟩ | ⟨r, rfl, h⟩
    · exact tot_some (.inl ⟨rfl, H⟩)
    · exact tot_some (.inr h)
theorem kd_take {l : List Act} {i j : Nat} (h : j < i) : kd (l.take i) j = kd l j := by unfold kd; rw [getD_take h]
theorem num_take {l : List Act} {i j : Nat} (h : j < i) : num (l.take i) j = num l j := by unfold num ms cl; rw [getD_take h]
theorem num_fl {l : List Act} {j : Nat} (hR : RA l) (hj : j < l.length) (h : Flds (l.getD j default)) : num l j = if kd l j = 2 ∨ kd l j = 3 then ms l j else cl l j := by
  obtain ⟨h1, h2⟩ := hR j hj
  obtain ⟨⟨⟨h3, h4⟩, h5⟩, h6⟩ := h
  unfold num
  have h4' : (kd l j = 2 ∨ kd l j = 3) ∨ ms l j = 0 := h4
  have h5' : (kd l j = 4 ∨ kd l j = 5) ∨ cl l j = 0 := h5
  split
  · rename_i h7
    have : cl l j = 0 := h5'.resolve_left (by omega)
    rw [this, Int.add_zero, w64_id h1]
  · rename_i h7
    rw [h4'.resolve_left h7, Int.zero_add, w64_id h2]
/-- The first event of a kind with a number, ahead of an event. -/
theorem find_t {n : Int} {l : List Act} {i : Nat} (hR : RA l) (hi : i ≤ l.length) (H : ∀ j, j < i → code n l j = 0) (k q : Int) :
    Tot (f51 ((l.take (Int.toNat (i : Int))).drop (Int.toNat 0)) k q) fun r => ((r = -1 ∧ ∀ j, j < i → ¬ (kd l j = k ∧ num l j = q)) ∨ ∃ j : Nat, j < i ∧ r = (j : Int) ∧ kd l j = k ∧ num l j = q ∧ ∀ x, x < j → ¬ (kd l x = k ∧ num l x = q)) := by
  rw [tk0]
  have hl : (l.take i).length = i := by rw [List.length_take]; omega
  refine (f51_t _ _ _).mono fun r hr => ?_
  rw [hl] at hr
  rcases hr with ⟨h1, h2⟩ | ⟨j, h1, h2, h3, h4, h5⟩
  · refine .inl ⟨h1, fun j hj => ?_⟩
    have := h2 j hj
    rwa [kd_take hj, num_take hj] at this
  · refine .inr ⟨j, h1, h2, ?_, ?_, fun x hx => ?_⟩
    · rwa [kd_take h1] at h3
    · rwa [num_take h1] at h4
    · have := h5 x hx
      rwa [kd_take (by omega), num_take (by omega)] at this
theorem has2 {n : Int} {l : List Act} {i : Nat} (hR : RA l) (hi : i ≤ l.length) (H : ∀ j, j < i → code n l j = 0) {m : Int} : HasS l i m ↔ ∃ j, j < i ∧ kd l j = 2 ∧ num l j = m := by
  constructor
  · rintro ⟨j, h1, h2, h3⟩
    exact ⟨j, h1, h2, by rw [num_fl hR (by omega) (code_zero (H j h1)).2.1, if_pos (.inl h2)]; exact h3⟩
  · rintro ⟨j, h1, h2, h3⟩
    rw [num_fl hR (by omega) (code_zero (H j h1)).2.1, if_pos (.inl h2)] at h3
    exact ⟨j, h1, h2, h3⟩
theorem hasKi {n : Int} {l : List Act} {i : Nat} (hR : RA l) (hi : i ≤ l.length) (H : ∀ j, j < i → code n l j = 0) {k m : Int} (hk : k = 4 ∨ k = 5) : HasC l k i m ↔ ∃ j, j < i ∧ kd l j = k ∧ num l j = m := by
  constructor
  · rintro ⟨j, h1, h2, h3⟩
    exact ⟨j, h1, h2, by rw [num_fl hR (by omega) (code_zero (H j h1)).2.1, if_neg (by omega)]; exact h3⟩
  · rintro ⟨j, h1, h2, h3⟩
    rw [num_fl hR (by omega) (code_zero (H j h1)).2.1, if_neg (by omega)] at h3
    exact ⟨j, h1, h2, h3⟩
theorem find_iff {i : Nat} {P : Nat → Prop} {r : Int} (h : (r = -1 ∧ ∀ j, j < i → ¬ P j) ∨ ∃ j : Nat, j < i ∧ r = (j : Int) ∧ P j) : (0 ≤ r ↔ ∃ j, j < i ∧ P j) ∧ (r < 0 ↔ ¬ ∃ j, j < i ∧ P j) := by
  rcases h with ⟨rfl, h⟩ | ⟨j, h1, rfl, h2⟩
  · have : ¬ ∃ j, j < i ∧ P j := fun ⟨j, a, b⟩ => h j a b
    exact ⟨⟨fun h => absurd h (by decide), fun h => absurd h this⟩, ⟨fun _ => this, fun _ => by decide⟩⟩
  · exact ⟨⟨fun _ => ⟨j, h1, h2⟩, fun _ => by omega⟩, ⟨fun h => by omega, fun h => absurd ⟨j, h1, h2⟩ h⟩⟩

theorem f50_t (x : Act) : Tot (f50 x) fun r => (r = true ↔ Flds x) := by
  refine tot_some ?_
  simp only [Bool.and_eq_true, Bool.or_eq_true, decide_eq_true_eq, Flds]

theorem f16_t (n : Int) (l : List Act) (hR : RA l) : Tot (f16 n l) (WrongIs n l) := by
  unfold f16
  refine tot_if (fun h => ?_) (fun h => ?_)
  · simp only [Bool.or_eq_true, decide_eq_true_eq] at h
    exact tot_some (.inl ⟨h, rfl⟩)
  simp only [Bool.or_eq_false_iff, decide_eq_false_iff_not] at h
  have h' : ¬ (n < 1 ∨ 16 < n) := by omega
  rw [toNat_len]
  refine (tot_rngx (fun i s => ∀ j, j < i → j ≠ 1000 ∧ code n l j = 0) (WrongIs n l) (fun j hj => absurd hj (by omega)) fun i s hi H => ?_).bind fun o ho => ?_
  · unfold f16_b0
    have Hc : ∀ j, j < i → code n l j = 0 := fun j hj => (H j hj).2
    refine Tot.bind (Q := fun o => (o = .inl () ∧ i ≠ 1000 ∧ code n l i = 0) ∨ ∃ e, o = .inr e ∧ ((i = 1000 ∧ e = 4) ∨ (i ≠ 1000 ∧ code n l i ≠ 0 ∧ e = code n l i))) ?_ fun o ho => ?_
    · refine tot_ix hi ?_
      refine tot_if (fun h1 => ?_) (fun h1 => ?_)
      · have e : i = 1000 := by have := of_decide_eq_true h1; omega
        exact tot_some (.inr ⟨_, rfl, .inl ⟨e, rfl⟩⟩)
      have e : i ≠ 1000 := by have := of_decide_eq_false h1; omega
      have bad : ∀ {k : Int}, k ≠ 0 → code n l i = k → Tot (some (.inr k) : Option (Unit ⊕ Int)) fun o => (o = .inl () ∧ i ≠ 1000 ∧ code n l i = 0) ∨ ∃ e, o = .inr e ∧ ((i = 1000 ∧ e = 4) ∨ (i ≠ 1000 ∧ code n l i ≠ 0 ∧ e = code n l i)) := fun hk hc => tot_some (.inr ⟨_, rfl, .inr ⟨e, by rw [hc]; exact hk, hc.symm⟩⟩)
      refine tot_if (fun h2 => ?_) (fun h2 => ?_)
      · simp only [Bool.or_eq_true, Bool.and_eq_true, decide_eq_true_eq] at h2
        refine bad (by decide) ?_
        rw [code, if_pos (show BadR n (l.getD i default) from or_assoc.1 h2)]
      have hbad : ¬ BadR n (l.getD i default) := by
        have h2' := Bool.eq_false_iff.1 h2
        simp only [ne_eq, Bool.or_eq_true, Bool.and_eq_true, decide_eq_true_eq] at h2'
        exact fun h => h2' (or_assoc.2 h)
      refine (f50_t _).bind fun x16 h6 => ?_
      refine tot_if (fun h3 => ?_) (fun h3 => ?_)
      · have : ¬ Flds (l.getD i default) := fun h => by rw [h6.2 h] at h3; simp at h3
        exact bad (by decide) (by rw [code, if_neg hbad, if_pos this])
      have hf : Flds (l.getD i default) := h6.1 (by simpa using h3)
      have hsl : slOk 0 (i : Int) l.length = true := slOk_t (by omega) (by omega) (by omega)
      have hnum := num_fl hR hi hf
      have hk5 : 1 ≤ kd l i ∧ kd l i ≤ 5 := hf.1.1.1
      have ekd : (l.getD i default).2.1 = kd l i := rfl
      have enum : w64 ((l.getD i default).2.2.1 + (l.getD i default).2.2.2.1) = num l i := rfl
      have ems : (l.getD i default).2.2.1 = ms l i := rfl
      have ecl : (l.getD i default).2.2.2.1 = cl l i := rfl
      obtain ⟨r1, e1, p1⟩ := find_t hR (Nat.le_of_lt hi) Hc (kd l i) (num l i)
      rw [ekd, enum, ecl, ems, hsl, e1]
      have q1 := find_iff (P := fun j => kd l j = kd l i ∧ num l j = num l i) (p1.imp id fun ⟨j, a, b, c, d, _⟩ => ⟨j, a, b, c, d⟩)
      simp only [Option.isSome_some, Bool.or_true, cond_true, Option.getD_some]
      have hdup : (kd l i ≠ 1 ∧ kd l i ≠ 3) ∧ 0 ≤ r1 ↔ Dup l i := by
        rw [q1.1]
        unfold Dup
        rw [has2 hR (Nat.le_of_lt hi) Hc, hasKi hR (Nat.le_of_lt hi) Hc (.inl rfl), hasKi hR (Nat.le_of_lt hi) Hc (.inr rfl)]
        constructor
        · rintro ⟨⟨a, b⟩, j, c, d, f⟩
          rcases (show kd l i = 2 ∨ kd l i = 4 ∨ kd l i = 5 by omega) with g | g | g
          · rw [if_pos (.inl g)] at hnum
            exact .inl (.inl ⟨g, j, c, d.trans g, f.trans hnum⟩)
          · rw [if_neg (by omega)] at hnum
            exact .inl (.inr ⟨g, j, c, d.trans g, f.trans hnum⟩)
          · rw [if_neg (by omega)] at hnum
            exact .inr ⟨g, j, c, d.trans g, f.trans hnum⟩
        · rintro ((⟨g, j, c, d, f⟩ | ⟨g, j, c, d, f⟩) | ⟨g, j, c, d, f⟩)
          · rw [if_pos (.inl g)] at hnum
            exact ⟨by omega, j, c, d.trans g.symm, f.trans hnum.symm⟩
          · rw [if_neg (by omega)] at hnum
            exact ⟨by omega, j, c, d.trans g.symm, f.trans hnum.symm⟩
          · rw [if_neg (by omega)] at hnum
            exact ⟨by omega, j, c, d.trans g.symm, f.trans hnum.symm⟩
      refine tot_if (fun h4 => ?_) (fun h4 => ?_)
      · simp only [Bool.and_eq_true, decide_eq_true_eq, Bool.not_eq_true', decide_eq_false_iff_not] at h4
        exact bad (by decide) (by rw [code, if_neg hbad, if_neg (fun h => h hf), if_pos (hdup.1 h4)])
      have hnd : ¬ Dup l i := by
        have h4' := Bool.eq_false_iff.1 h4
        simp only [ne_eq, Bool.and_eq_true, decide_eq_true_eq, Bool.not_eq_true', decide_eq_false_iff_not] at h4'
        exact fun h => h4' (hdup.2 h)
      obtain ⟨r2, e2, p2⟩ := find_t hR (Nat.le_of_lt hi) Hc 2 (ms l i)
      rw [e2]
      have q2 := find_iff (P := fun j => kd l j = 2 ∧ num l j = ms l i) (p2.imp id fun ⟨j, a, b, c, d, _⟩ => ⟨j, a, b, c, d⟩)
      simp only [Option.isSome_some, Bool.or_true, cond_true, Option.getD_some]
      rw [← has2 hR (Nat.le_of_lt hi) Hc] at q2
      refine tot_if (fun h5 => ?_) (fun h5 => ?_)
      · simp only [Bool.and_eq_true, decide_eq_true_eq] at h5
        exact bad (by decide) (by rw [code, if_neg hbad, if_neg (fun h => h hf), if_neg hnd, if_pos (.inl ⟨h5.1, q2.2.1 h5.2⟩)])
      have h5' := Bool.eq_false_iff.1 h5
      simp only [ne_eq, Bool.and_eq_true, decide_eq_true_eq] at h5'
      refine tot_if (fun h7 => ?_) (fun h7 => ?_)
      · have h7' : kd l i = 5 := of_decide_eq_true h7
        obtain ⟨r3, e3, p3⟩ := find_t hR (Nat.le_of_lt hi) Hc 4 (cl l i)
        rw [e3]
        have q3 := find_iff (P := fun j => kd l j = 4 ∧ num l j = cl l i) (p3.imp id fun ⟨j, a, b, c, d, _⟩ => ⟨j, a, b, c, d⟩)
        rw [← hasKi hR (Nat.le_of_lt hi) Hc (.inl rfl)] at q3
        simp only [Option.bind_some]
        refine tot_if (fun h8 => ?_) (fun h8 => ?_)
        · exact bad (by decide) (by rw [code, if_neg hbad, if_neg (fun h => h hf), if_neg hnd, if_pos (.inr ⟨h7', q3.2.1 (of_decide_eq_true h8)⟩)])
        have h8' := of_decide_eq_false h8
        have hno : ¬ Nope l i := by
          rintro (⟨a, b⟩ | ⟨a, b⟩)
          · exact absurd (a.symm.trans h7') (by decide)
          · exact h8' (q3.2.2 b)
        obtain ⟨j, a, rfl, c, d, _⟩ : ∃ j : Nat, j < i ∧ r3 = (j : Int) ∧ kd l j = 4 ∧ num l j = cl l i ∧ True := by
          rcases p3 with ⟨h, _⟩ | ⟨j, a, b, c, d, _⟩
          · exact absurd (by omega) h8'
          · exact ⟨j, a, b, c, d, trivial⟩
        have d' : cl l j = cl l i := by
          have := num_fl hR (show j < l.length by omega) (code_zero (Hc j a)).2.1
          rw [if_neg (by omega)] at this
          exact this.symm.trans d
        refine tot_ix (show j < l.length by omega) ?_
        have haw : Away l i ↔ nd l j ≠ nd l i := by
          constructor
          · rintro ⟨_, x, x1, x2, x3, x4⟩
            have : x = j := by
              rcases Nat.lt_trichotomy x j with y | y | y
              · exact absurd (show Dup l j from .inl (.inr ⟨c, x, y, x2, x3.trans d'.symm⟩)) (code_zero (Hc j a)).2.2.1
              · exact y
              · exact absurd (show Dup l x from .inl (.inr ⟨x2, j, y, c, d'.trans x3.symm⟩)) (code_zero (Hc x x1)).2.2.1
            rw [this] at x4; exact x4
          · exact fun h => ⟨h7', j, a, c, d', h⟩
        refine tot_if (fun h9 => ?_) (fun h9 => ?_)
        · simp only [Bool.not_eq_true', decide_eq_false_iff_not] at h9
          exact bad (by decide) (by rw [code, if_neg hbad, if_neg (fun h => h hf), if_neg hnd, if_neg hno, if_pos (haw.2 h9)])
        · simp only [Bool.not_eq_false', decide_eq_true_eq] at h9
          exact tot_some (.inl ⟨rfl, e, by rw [code, if_neg hbad, if_neg (fun h => h hf), if_neg hnd, if_neg hno, if_neg (fun h => haw.1 h h9)]⟩)
      · have h7' : kd l i ≠ 5 := of_decide_eq_false h7
        have hno : ¬ Nope l i := by
          rintro (⟨a, b⟩ | ⟨a, b⟩)
          · exact h5' ⟨a, q2.2.2 b⟩
          · exact h7' a
        exact tot_some (.inl ⟨rfl, e, by rw [code, if_neg hbad, if_neg (fun h => h hf), if_neg hnd, if_neg hno, if_neg (fun h => h7' h.1)]⟩)
    · rcases ho with ⟨rfl, h1, h2⟩ | ⟨x, rfl, hx⟩
      · refine tot_some (.inl ⟨_, rfl, fun j hj => ?_⟩)
        rcases Nat.lt_or_ge j i with h | h
        · exact H j h
        · rw [show j = i by omega]; exact ⟨h1, h2⟩
      · refine tot_some (.inr ⟨_, rfl, .inr ⟨h', .inr ⟨i, hi, H, ?_⟩⟩⟩)
        rcases hx with ⟨rfl, rfl⟩ | ⟨a, b, rfl⟩
        · exact .inl ⟨rfl, rfl⟩
        · exact .inr ⟨a, b, rfl⟩
  · rcases ho with ⟨⟨⟩, rfl, H⟩ | ⟨⟨s11, s12⟩, rfl, h⟩
    · exact tot_some (.inr ⟨h', .inl ⟨rfl, H⟩⟩)
    · exact tot_some h
theorem f18_t (n : Int) (l : List Act) (hR : RA l) : Tot (f18 n l) fun r => (r = true ↔ Ok n l) := by
  unfold f18
  refine (f16_t n l hR).bind fun r hr => tot_some ?_
  rw [decide_eq_true_eq]; exact hr.ok
open Classical in
theorem valid_p (n : Int) (l : List Act) : f17 n l = some (decide (Ok n l)) := by
  obtain ⟨r, h1, h2⟩ := f17_t n l
  rw [h1]; congr 1
  by_cases h : Ok n l
  · rw [h2.2 h]; simp [h]
  · have : r = false := Bool.eq_false_iff.2 fun e => h (h2.1 e)
    rw [this]; simp [h]
open Classical in
theorem valid_r (n : Int) (l : List Act) (hR : RA l) : f18 n l = some (decide (Ok n l)) := by
  obtain ⟨r, h1, h2⟩ := f18_t n l hR
  rw [h1]; congr 1
  by_cases h : Ok n l
  · rw [h2.2 h]; simp [h]
  · have : r = false := Bool.eq_false_iff.2 fun e => h (h2.1 e)
    rw [this]; simp [h]
end Go.Ab


set_option linter.unusedVariables false
namespace Go.Ab

/-! layer 29: the reference's Pasts, clocks, heights -/
theorem f56_t {l : List Act} {a b : Nat} (hN : l.length ≤ 1000) (ha : a < l.length) (hb : b < l.length) : Tot (f56 l a b) fun r => (r = true ↔ Dir l a b) := by
  unfold f56
  refine tot_ix ha ?_
  rw [ix_getD hb, ix_getD ha]
  simp only [Option.isSome_some, Bool.or_true, cond_true, Option.getD_some]
  refine tot_if (fun h => ?_) (fun h => ?_)
  · simp only [Bool.and_eq_true, decide_eq_true_eq] at h
    exact tot_some ⟨fun _ => .inl ⟨h.1.1, h.1.2, h.2⟩, fun _ => rfl⟩
  have h1 : ¬ (kd l a = 2 ∧ kd l b = 3 ∧ ms l a = ms l b) := by
    have h' := Bool.eq_false_iff.1 h
    simp only [ne_eq, Bool.and_eq_true, decide_eq_true_eq] at h'
    exact fun c => h' ⟨⟨c.1, c.2.1⟩, c.2.2⟩
  refine tot_if (fun h2 => ?_) (fun h2 => ?_)
  · simp only [Bool.or_eq_true, decide_eq_true_eq, Bool.not_eq_true', decide_eq_false_iff_not] at h2
    refine tot_some ⟨fun h => absurd h (by decide), ?_⟩
    rintro (c | ⟨c, d, _⟩)
    · exact absurd c h1
    · rcases h2 with h2 | h2
      · omega
      · exact absurd d h2
  simp only [Bool.or_eq_false_iff, decide_eq_false_iff_not, Bool.not_eq_false', decide_eq_true_eq] at h2
  obtain ⟨h2, h3⟩ := h2
  have hab : a < b := by omega
  have ew : w64 ((a : Int) + 1) = ((a + 1 : Nat) : Int) := by rw [w64_id ⟨by omega, by omega⟩]; omega
  rw [ew]
  refine tot_need (slOk_t (by omega) (by omega) (by omega)) ?_
  have el : ((l.take (Int.toNat (b : Int))).drop (Int.toNat ((a + 1 : Nat) : Int))).length = b - (a + 1) := by
    rw [Int.toNat_natCast, Int.toNat_natCast, List.length_drop, List.length_take]; omega
  rw [toNat_len, el]
  refine (tot_rngx (fun i s => ∀ x, x < i → nd l (a + 1 + x) ≠ nd l a) (fun r => ¬ Dir l a b) (fun x hx => absurd hx (by omega)) fun i s hi H => ?_).bind fun o ho => ?_
  · unfold f56_b0
    rw [ew]
    refine tot_ix (by rw [el]; exact hi) (tot_ix ha ?_)
    have e1 : (((l.take (Int.toNat (b : Int))).drop (Int.toNat ((a + 1 : Nat) : Int))).getD i default).1 = nd l (a + 1 + i) := by
      rw [getD_drop, Int.toNat_natCast, Int.toNat_natCast, getD_take (by omega)]; rfl
    rw [e1]
    refine tot_if (fun h => ?_) (fun h => ?_)
    · have h' : nd l (a + 1 + i) = nd l a := of_decide_eq_true h
      refine tot_some (.inr ⟨_, rfl, ?_⟩)
      rintro (c | ⟨_, _, c⟩)
      · exact h1 c
      · exact c _ (by omega) (by omega) h'
    · refine tot_some (.inl ⟨_, rfl, fun x hx => ?_⟩)
      rcases Nat.lt_or_ge x i with c | c
      · exact H x c
      · rw [show x = i by omega]; exact of_decide_eq_false h
  · rcases ho with ⟨⟨⟩, rfl, H⟩ | ⟨⟨⟩, rfl, h⟩
    · refine tot_some ⟨fun _ => .inr ⟨hab, h3, fun x x1 x2 => ?_⟩, fun _ => rfl⟩
      have := H (x - (a + 1)) (by omega)
      rwa [show a + 1 + (x - (a + 1)) = x by omega] at this
    · exact tot_some ⟨fun h => absurd h (by decide), fun c => absurd c h⟩

/-- A row tells what is before an event. -/
def GRow (l : List Act) (b : Nat) (r : List Bool) : Prop := r.length = l.length ∧ ∀ c, c < l.length → (r.getD c default = true ↔ Pst l c b)
def GMat (l : List Act) (m : List (List Bool)) : Prop := m.length = l.length ∧ ∀ b, b < l.length → GRow l b (m.getD b default)

theorem f23_t {l : List Act} (hN : l.length ≤ 1000) : Tot (f23 l) (GMat l) := by
  unfold f23
  refine tot_need (mkOk_t (by omega) (by omega)) ?_
  rw [toNat_len]
  refine (tot_rng (fun i s => s.length = l.length ∧ ∀ b, b < i → GRow l b (s.getD b default)) ⟨by simp, fun b hb => absurd hb (by omega)⟩ fun i s hi H => ?_).bind fun o ho => ?_
  · obtain ⟨H1, H2⟩ := H
    unfold f23_b0
    refine tot_need (mkOk_t (by omega) (by omega)) ?_
    refine tot_ix (by omega) ?_
    refine tot_need (decide_eq_true (by omega)) ?_
    rw [Int.toNat_natCast, toNat_len]
    refine (tot_rng (fun j s => s.length = l.length ∧ (∀ b, b < i → GRow l b (s.getD b default)) ∧ (s.getD i default).length = l.length ∧ ∀ c, c < l.length → ((s.getD i default).getD c default = true ↔ ∃ a, a < j ∧ Dir l a i ∧ (c = a ∨ Pst l c a))) ⟨by simp [H1], fun b hb => ?_, ?_, fun c hc => ?_⟩ fun j s hj H => ?_).bind fun o ho => ?_
    · rw [getD_set (by omega), if_neg (by omega)]; exact H2 b hb
    · rw [getD_set (by omega), if_pos rfl]; simp
    · rw [getD_set (by omega), if_pos rfl, getD_rep hc]
      constructor
      · intro h; exact absurd h (by decide)
      · rintro ⟨a, h, _⟩; omega
    · obtain ⟨K1, K2, K3, K4⟩ := H
      unfold f23_b1
      refine Tot.bind (Q := fun o => ∃ s', o = .inl s' ∧ (s'.length = l.length ∧ (∀ b, b < i → GRow l b (s'.getD b default)) ∧ (s'.getD i default).length = l.length ∧ ∀ c, c < l.length → ((s'.getD i default).getD c default = true ↔ ∃ a, a < j + 1 ∧ Dir l a i ∧ (c = a ∨ Pst l c a)))) ?_ fun o ho => ?_
      · refine (f56_t hN (by omega) hi).bind fun r hr => ?_
        refine tot_if (fun h => ?_) (fun h => ?_)
        · refine tot_some ⟨_, rfl, K1, K2, K3, fun c hc => ?_⟩
          rw [K4 c hc]
          have hd : ¬ Dir l j i := fun d => by rw [hr.2 d] at h; simp at h
          constructor
          · rintro ⟨a, h1, h2⟩; exact ⟨a, by omega, h2⟩
          · rintro ⟨a, h1, h2⟩
            rcases Nat.lt_or_ge a j with h3 | h3
            · exact ⟨a, h3, h2⟩
            · rw [show a = j by omega] at h2; exact absurd h2.1 hd
        · have hd : Dir l j i := hr.1 (by simpa using h)
          refine tot_ix (by omega) (tot_ix (by omega) ?_)
          refine tot_need (decide_eq_true (by omega)) ?_
          rw [Int.toNat_natCast, Int.toNat_natCast]
          refine (tot_rng (fun k s => s.length = l.length ∧ (∀ b, b < i → GRow l b (s.getD b default)) ∧ (s.getD i default).length = l.length ∧ ∀ c, c < l.length → ((s.getD i default).getD c default = true ↔ (∃ a, a < j ∧ Dir l a i ∧ (c = a ∨ Pst l c a)) ∨ c = j ∨ (c < k ∧ Pst l c j))) ⟨by simp [K1], fun b hb => ?_, ?_, fun c hc => ?_⟩ fun k s hk H => ?_).bind fun o ho => ?_
          · rw [getD_set (by omega), if_neg (by omega)]; exact K2 b hb
          · rw [getD_set (by omega), if_pos rfl]; simpa using K3
          · rw [getD_set (by omega), if_pos rfl, getD_set (by omega)]
            split
            · rename_i e; simp [e]
            · rename_i e
              rw [K4 c hc]
              constructor
              · exact .inl
              · rintro (h | h | ⟨h, _⟩)
                · exact h
                · exact absurd h.symm e
                · omega
          · obtain ⟨L1, L2, L3, L4⟩ := H
            unfold f23_b2
            refine tot_ix (by omega) (tot_ix (by omega) ?_)
            have hrow := L2 j hj
            rw [ix_getD (show j < s.length by omega)]
            simp only [Option.isSome_some, Bool.or_true, cond_true, Option.getD_some]
            rw [ix_getD (show k < (s.getD j default).length by rw [hrow.1]; omega)]
            simp only [Option.isSome_some, Bool.or_true, cond_true, Option.getD_some]
            rw [Int.toNat_natCast, Int.toNat_natCast]
            refine tot_some ⟨_, rfl, by simp [L1], fun b hb => ?_, ?_, fun c hc => ?_⟩
            · rw [getD_set (by omega), if_neg (by omega)]; exact L2 b hb
            · rw [getD_set (by omega), if_pos rfl]; simpa using L3
            · rw [getD_set (by omega), if_pos rfl, getD_set (by omega)]
              split
              · rename_i e
                subst e
                rw [Bool.or_eq_true, L4 k hc, hrow.2 k hc]
                constructor
                · rintro ((h | h | ⟨h, _⟩) | h)
                  · exact .inl h
                  · exact .inr (.inl h)
                  · omega
                  · exact .inr (.inr ⟨by omega, h⟩)
                · rintro (h | h | ⟨_, h⟩)
                  · exact .inl (.inl h)
                  · exact .inl (.inr (.inl h))
                  · exact .inr h
              · rename_i e
                rw [L4 c hc]
                constructor
                · rintro (h | h | ⟨h, h'⟩)
                  · exact .inl h
                  · exact .inr (.inl h)
                  · exact .inr (.inr ⟨by omega, h'⟩)
                · rintro (h | h | ⟨h, h'⟩)
                  · exact .inl h
                  · exact .inr (.inl h)
                  · exact .inr (.inr ⟨by omega, h'⟩)
          · obtain ⟨s', rfl, L1, L2, L3, L4⟩ := ho
            refine tot_some ⟨_, rfl, L1, L2, L3, fun c hc => ?_⟩
            rw [L4 c hc]
            constructor
            · rintro (⟨a, h1, h2⟩ | h | ⟨_, h⟩)
              · exact ⟨a, by omega, h2⟩
              · exact ⟨j, by omega, hd, .inl h⟩
              · exact ⟨j, by omega, hd, .inr h⟩
            · rintro ⟨a, h1, h2, h3⟩
              rcases Nat.lt_or_ge a j with h4 | h4
              · exact .inl ⟨a, h4, h2, h3⟩
              · rw [show a = j by omega] at h3
                rcases h3 with h3 | h3
                · exact .inr (.inl h3)
                · exact .inr (.inr ⟨h3.lt, h3⟩)
      · obtain ⟨s', rfl, h⟩ := ho
        exact tot_some ⟨_, rfl, h⟩
    · obtain ⟨s', rfl, K1, K2, K3, K4⟩ := ho
      refine tot_some ⟨_, rfl, K1, fun b hb => ?_⟩
      rcases Nat.lt_or_ge b i with h | h
      · exact K2 b h
      · rw [show b = i by omega]
        refine ⟨K3, fun c hc => ?_⟩
        rw [K4 c hc, pst_iff]
  · obtain ⟨s', rfl, h⟩ := ho
    exact tot_some h

/-! clocks -/
/-- What a right history is. -/
theorem Ok.n {n : Int} {l : List Act} (h : Ok n l) : 1 ≤ n ∧ n ≤ 16 := by have := h.1; omega
theorem Ok.nd {n : Int} {l : List Act} (h : Ok n l) : ∀ i, i < l.length → 0 ≤ nd l i ∧ nd l i < n := fun i hi => by
  have := (code_zero (h.2 i hi).2).1
  unfold BadR at this
  simp only [not_or, Int.not_lt, Int.not_le] at this
  exact this.1
theorem Ok.len {n : Int} {l : List Act} (h : Ok n l) : l.length ≤ 1000 := by
  rcases Nat.lt_or_ge 1000 l.length with c | c
  · exact absurd rfl (h.2 1000 c).1
  · exact c
/-- Clocks of all events. -/
def GClk (n : Int) (l : List Act) (m : List (List Int)) : Prop := m.length = l.length ∧ ∀ b, b < l.length → IsClock n.toNat l b (m.getD b default)
theorem GClk.uniq {n : Int} {l : List Act} {m m' : List (List Int)} (h : GClk n l m) (k : GClk n l m') : m = m' :=
  ext_getD default (h.1.trans k.1.symm) fun j hj => (h.2 j (by rw [← h.1]; exact hj)).uniq (k.2 j (by rw [← h.1]; exact hj))
end Go.Ab


set_option linter.unusedVariables false
namespace Go.Ab

/-! counting -/
end Go.Ab


set_option linter.unusedVariables false
namespace Go.Ab

/-! layer 29: what is directly before, as the program goes -/
theorem compI_two (a b : Int) : compI [a, b] = if b = a then [a] else [a, b] := by
  unfold compI
  have e : List.range [a, b].length = [0, 1] := rfl
  rw [e]
  by_cases h : b = a
  · subst h; simp
  · simp [h]
theorem srt2 {s : List Int} (h : s.length ≤ 2) : ∃ x r, f73 s = some x ∧ f83 x = some r ∧ (∀ k, k ∈ r ↔ k ∈ s) ∧ r.Pairwise (· < ·) := by
  match s, h with
  | [], _ => exact ⟨[], [], rfl, rfl, fun k => Iff.rfl, List.Pairwise.nil⟩
  | [a], _ => exact ⟨[a], [a], rfl, rfl, fun k => Iff.rfl, by simp⟩
  | [a, b], _ =>
    have key : ∀ {c d : Int}, c ≤ d → f83 [c, d] = some (if d = c then [c] else [c, d]) := fun _ => by rw [← compI_two]; rfl
    have e : f73 [a, b] = some (bif decide (a ≤ b) then [a, b] else [b, a]) := rfl
    by_cases hab : a ≤ b
    · refine ⟨[a, b], _, by rw [e]; simp [hab], key hab, fun k => ?_, ?_⟩
      · split
        · rename_i h; subst h; simp
        · rfl
      · split
        · simp
        · simp; omega
    · refine ⟨[b, a], _, by rw [e]; simp [hab], key (by omega), fun k => ?_, ?_⟩
      · split
        · rename_i h; subst h; simp
        · simp [or_comm]
      · split
        · simp
        · simp; omega
/-- What is directly before an event. -/
def Bef (l : List Act) (i : Nat) (b : List Int) : Prop := (∀ k : Int, k ∈ b ↔ ∃ a : Nat, k = a ∧ a < i ∧ Dir l a i) ∧ b.Pairwise (· < ·)
def LastOf (l : List Act) (i : Nat) (p : Int) (v : Int) : Prop := (v = 0 ∧ ∀ j, j < i → nd l j ≠ p) ∨ ∃ j : Nat, j < i ∧ nd l j = p ∧ v = (j : Int) + 1 ∧ ∀ x, j < x → x < i → nd l x ≠ p
theorem f82_t {n : Int} {l : List Act} (hok : Ok n l) {σ : Type} {q : σ → (Int × List Int) → Option σ} {s0 : σ} (Inv : Nat → σ → Prop) (h0 : Inv 0 s0)
    (h : ∀ i s b, i < l.length → Bef l i b → Inv i s → Tot (q s ((i : Int), b)) (Inv (i + 1))) : Tot (f82 q s0 n l) (Inv l.length) := by
  have hN := hok.len
  obtain ⟨n1, n2⟩ := hok.n
  have hnd := hok.nd
  unfold f82
  refine tot_need (mkOk_t (by omega) (by omega)) ?_
  rw [toNat_len]
  refine (tot_rngx (fun i s => Inv i s.1 ∧ s.2.1.length = n.toNat ∧ (∀ p, p < n.toNat → LastOf l i p (s.2.1.getD p 0)) ∧ ∀ j : Nat, j < i → kd l j = 2 → mget s.2.2 (ms l j) = some (j : Int)) (fun r => False) ⟨h0, by simp, fun p hp => ?_, fun j hj => absurd hj (by omega)⟩ fun i s hi H => ?_).bind fun o ho => ?_
  · refine .inl ⟨?_, fun j hj => absurd hj (by omega)⟩
    rw [getD_rep hp]
  · obtain ⟨H1, H2, H3, H4⟩ := H
    obtain ⟨s5, s6, s7⟩ := s
    simp only at H1 H2 H3 H4
    have hni := hnd i hi
    have enx : (l.getD i default).1 = nd l i := rfl
    have ekx : (l.getD i default).2.1 = kd l i := rfl
    have emx : (l.getD i default).2.2.1 = ms l i := rfl
    obtain ⟨c1, c2, c3, c4, c5⟩ := code_zero (hok.2 i hi).2
    unfold f82_b0
    refine tot_ix hi ?_
    rw [enx, ekx, emx]
    have hlast := H3 (nd l i).toNat (by omega)
    rw [show (((nd l i).toNat : Nat) : Int) = nd l i by omega] at hlast
    -- the event of the same node
    refine Tot.bind (Q := fun o => ∃ s', o = .inl s' ∧ s'.length ≤ 1 ∧ ∀ k : Int, k ∈ s' ↔ ∃ a : Nat, k = a ∧ (a < i ∧ nd l a = nd l i ∧ ∀ x, a < x → x < i → nd l x ≠ nd l a)) ?_ fun o ho => ?_
    · refine tot_ixz hni.1 (by omega) ?_
      rcases hlast with ⟨hv, hl⟩ | ⟨j, hj1, hj2, hv, hl⟩
      · refine tot_if (fun h => ?_) (fun h => ?_)
        · exact absurd (of_decide_eq_true h) (by show ¬ 0 < s6.getD (nd l i).toNat 0; omega)
        · refine tot_some ⟨_, rfl, by simp, fun k => ?_⟩
          constructor
          · intro h; simp at h
          · rintro ⟨a, _, a1, a2, _⟩; exact absurd a2 (hl a a1)
      · refine tot_if (fun h => ?_) (fun h => ?_)
        · have hv' : s6.getD (nd l i).toNat default = (j : Int) + 1 := hv
          rw [hv', w64_id ⟨by omega, by omega⟩, show (j : Int) + 1 - 1 = j by omega]
          refine tot_need (apOk_t (by simp)) (tot_some ⟨_, rfl, by simp, fun k => ?_⟩)
          rw [List.mem_singleton]
          constructor
          · rintro rfl; exact ⟨j, rfl, hj1, hj2, fun x x1 x2 => by rw [hj2]; exact hl x x1 x2⟩
          · rintro ⟨a, rfl, a1, a2, a3⟩
            rcases Nat.lt_trichotomy a j with c | c | c
            · exact absurd (hj2.trans a2.symm) (a3 j c hj1)
            · rw [c]
            · exact absurd a2 (hl a c a1)
        · exact absurd (of_decide_eq_false h) (by show ¬ ¬ 0 < s6.getD (nd l i).toNat 0; omega)
    obtain ⟨s18, rfl, hl18, h18⟩ := ho
    -- what was sent
    refine Tot.bind (Q := fun o => ∃ s', o = .inl s' ∧ s'.length ≤ 2 ∧ ∀ k : Int, k ∈ s' ↔ ∃ a : Nat, k = a ∧ a < i ∧ Dir l a i) ?_ fun o ho => ?_
    · refine tot_if (fun h => ?_) (fun h => ?_)
      · have hk3 : kd l i = 3 := of_decide_eq_true h
        obtain ⟨j, j1, j2, j3⟩ : HasS l i (ms l i) := Classical.byContradiction fun hc => c4 (.inl ⟨hk3, hc⟩)
        have hg := H4 j j1 j2
        rw [j3] at hg
        rw [hg]
        refine tot_need (apOk_t (by simp; omega)) (tot_some ⟨_, rfl, by simp; omega, fun k => ?_⟩)
        rw [List.mem_append, h18, List.mem_singleton, Option.getD_some]
        constructor
        · rintro (⟨a, rfl, a1, a2, a3⟩ | rfl)
          · exact ⟨a, rfl, a1, .inr ⟨a1, a2, a3⟩⟩
          · exact ⟨j, rfl, j1, .inl ⟨j2, hk3, j3⟩⟩
        · rintro ⟨a, rfl, a1, ⟨a2, _, a3⟩ | a2⟩
          · right
            have e1 := H4 a a1 a2
            rw [a3, hg] at e1
            exact (Option.some.inj e1).symm
          · exact .inl ⟨a, rfl, a2⟩
      · refine tot_some ⟨_, rfl, by omega, fun k => ?_⟩
        rw [h18]
        constructor
        · rintro ⟨a, rfl, a1, a2, a3⟩; exact ⟨a, rfl, a1, .inr ⟨a1, a2, a3⟩⟩
        · rintro ⟨a, rfl, a1, ⟨_, a2, _⟩ | a2⟩
          · exact absurd a2 (of_decide_eq_false h)
          · exact ⟨a, rfl, a2⟩
    obtain ⟨s25, rfl, hl25, h25⟩ := ho
    refine Tot.bind (Q := fun o => ∃ s', o = .inl s' ∧ ∀ j : Nat, j < i + 1 → kd l j = 2 → mget s' (ms l j) = some (j : Int)) ?_ fun o ho => ?_
    · refine tot_if (fun h => ?_) (fun h => ?_)
      · have hk2 : kd l i = 2 := of_decide_eq_true h
        refine tot_some ⟨_, rfl, fun j hj hk => ?_⟩
        rw [mget_mset]
        rcases Nat.lt_or_ge j i with c | c
        · rw [if_neg (fun e => c3 (.inl (.inl ⟨hk2, j, c, hk, e⟩)))]; exact H4 j c hk
        · rw [show j = i by omega, if_pos rfl]
      · refine tot_some ⟨_, rfl, fun j hj hk => ?_⟩
        rcases Nat.lt_or_ge j i with c | c
        · exact H4 j c hk
        · rw [show j = i by omega] at hk; exact absurd hk (of_decide_eq_false h)
    obtain ⟨s30, rfl, h30⟩ := ho
    refine tot_ixz hni.1 (by omega) ?_
    obtain ⟨x, r, e1, e2, e3, e4⟩ := srt2 hl25
    rw [e1]
    simp only [Option.bind_some]
    rw [e2]
    simp only [Option.bind_some]
    refine (h i s5 r hi ⟨fun k => (e3 k).trans (h25 k), e4⟩ H1).bind fun s5' h5 => ?_
    rw [w64_id ⟨by omega, by omega⟩]
    refine tot_if (fun h => absurd h (by decide)) fun _ => tot_some (.inl ⟨_, rfl, h5, by simpa using H2, fun p hp => ?_, h30⟩)
    show LastOf l (i + 1) p ((s6.set (nd l i).toNat ((i : Int) + 1)).getD p 0)
    rw [getD_set (by omega)]
    split
    · rename_i e
      exact .inr ⟨i, by omega, by omega, rfl, fun x x1 x2 => by omega⟩
    · rename_i e
      rcases H3 p hp with ⟨k1, k2⟩ | ⟨j, k1, k2, k3, k4⟩
      · refine .inl ⟨k1, fun j hj => ?_⟩
        rcases Nat.lt_or_ge j i with c | c
        · exact k2 j c
        · rw [show j = i by omega]; omega
      · refine .inr ⟨j, by omega, k2, k3, fun x x1 x2 => ?_⟩
        rcases Nat.lt_or_ge x i with c | c
        · exact k4 x x1 c
        · rw [show x = i by omega]; omega
  · rcases ho with ⟨⟨s5, s6, s7⟩, rfl, H, _⟩ | ⟨r, rfl, h⟩
    · exact tot_some H
    · exact h.elim
end Go.Ab


set_option linter.unusedVariables false
set_option linter.unusedSimpArgs false
namespace Go.Ab
theorem f8_t : f8 = some true := by decide +kernel
end Go.Ab


set_option linter.unusedVariables false
set_option linter.unusedSimpArgs false
namespace Go.Ab
def mx (a b : List Int) : List Int := List.zipWith max a b
theorem mx_len {a b : List Int} (h : a.length = b.length) : (mx a b).length = a.length := by simp [mx, List.length_zipWith]; omega
theorem mx_take {a b : List Int} {i : Nat} (h : a.length = b.length) (hi : i < a.length) : (mx a b).take (i + 1) = (mx a b).take i ++ [max (a[i]) (b[i]'(by omega))] := by
  rw [List.take_add_one]
  congr 1
  have : (mx a b)[i]? = some (max (a[i]) (b[i]'(by omega))) := by
    unfold mx
    rw [List.getElem?_zipWith]
    simp [hi, show i < b.length by omega]
  rw [this]; rfl
theorem f48_ok {a b : List Int} (h : a.length = b.length) (h16 : a.length ≤ 16) : f48 a b = some (mx a b) := by
  have e : f68 a = some a := by
    unfold f68
    have : apOk 8 (([] : List Int).length + a.length) = true := by
      simp only [apOk, List.length_nil, Nat.ble_eq]
      have h47 : cap47 = 140737488355328 := rfl
      omega
    rw [this]; rfl
  unfold f48
  rw [e]
  simp only [Option.bind_some, toNat_len]
  obtain ⟨s', h1, h2⟩ := rng_inv (g := f48_b0 b) (n := a.length) (s := a) (fun i s => s = (mx a b).take i ++ a.drop i) (fun i s hi hs => by
    have hml := mx_len h
    have hib : i < b.length := by omega
    have hsl : s.length = a.length := by rw [hs, List.length_append, List.length_take, List.length_drop, hml]; omega
    have hsi : s[i]'(by omega) = a[i] := by
      have : s[i]? = some a[i] := by
        rw [hs, List.getElem?_append_right (by rw [List.length_take, hml]; omega), List.length_take, hml, Nat.min_eq_left (by omega), Nat.sub_self, List.getElem?_drop]
        simp [hi]
      rw [List.getElem?_eq_getElem (by omega)] at this
      exact Option.some.inj this
    refine ⟨s.set i (max (a[i]) (b[i]'hib)), ?_, ?_⟩
    · unfold f48_b0
      rw [ix_nat (show i < s.length by omega), ix_nat hib, hsi]
      simp
    · rw [hs, mx_take h hi, List.set_append_right _ _ (by rw [List.length_take, hml]; omega), List.length_take, hml, Nat.min_eq_left (by omega), Nat.sub_self, List.append_assoc]
      congr 1
      rw [List.drop_eq_getElem_cons hi]
      rfl) (by simp)
  rw [h1, h2]
  simp only [Option.bind_some]
  rw [List.take_of_length_le (by rw [mx_len h]; omega), List.drop_eq_nil_of_le (Nat.le_refl _), List.append_nil]
end Go.Ab


set_option linter.unusedVariables false
namespace Go.Ab

/-! layer 29: the program's clocks and heights -/
theorem getD_mx {a b : List Int} {p : Nat} (h : a.length = b.length) (hp : p < a.length) : (mx a b).getD p 0 = max (a.getD p 0) (b.getD p 0) := by
  unfold mx
  rw [List.getD_eq_getElem?_getD, List.getD_eq_getElem?_getD, List.getD_eq_getElem?_getD, List.getElem?_zipWith, List.getElem?_eq_getElem hp, List.getElem?_eq_getElem (show p < b.length by omega)]
  rfl
theorem ap8 {a b : Nat} (h : a ≤ 1000) (hb : b ≤ 1000) : apOk 8 (a + b) = true := apOk_t (by omega)
theorem ap24 {a b : Nat} (h : a ≤ 1000) (hb : b ≤ 1000) : apOk 24 (a + b) = true := apOk_t (by omega)
theorem f52_t {n : Int} {l : List Act} (hok : Ok n l) : Tot (f52 n l) (GClk n l) := by
  have hN := hok.len
  obtain ⟨n1, n2⟩ := hok.n
  have hnd := hok.nd
  unfold f52 f62
  simp only [Option.bind_some]
  refine (f82_t hok (fun i s => s.length = i ∧ ∀ b, b < i → IsClock n.toNat l b (s.getD b default)) ⟨rfl, fun b hb => absurd hb (by omega)⟩ fun i s bf hi hbf H => ?_).bind fun s h => ?_
  · obtain ⟨H1, H2⟩ := H
    have hni := hnd i hi
    unfold f52_b0
    simp only
    refine tot_need (mkOk_t (by omega) (by omega)) ?_
    rw [toNat_len]
    refine (tot_rng (fun k c => c.length = n.toNat ∧ ∀ p, p < n.toNat → 0 ≤ c.getD p 0 ∧ (∀ x, x < k → (s.getD (bf.getD x default).toNat default).getD p 0 ≤ c.getD p 0) ∧ (0 < c.getD p 0 → ∃ x, x < k ∧ c.getD p 0 = (s.getD (bf.getD x default).toNat default).getD p 0)) ⟨by simp, fun p hp => ?_⟩ fun k c hk H => ?_).bind fun o ho => ?_
    · rw [getD_rep hp]
      exact ⟨Int.le_refl _, fun x hx => absurd hx (by omega), fun h => absurd h (by decide)⟩
    · obtain ⟨K1, K2⟩ := H
      unfold f52_b1
      obtain ⟨a, ea, a1, a2⟩ := (hbf.1 (bf.getD k default)).1 (getD_mem hk)
      refine tot_ix hk ?_
      rw [ea]
      refine tot_ix (by omega) ?_
      have hca := H2 a a1
      rw [f48_ok (by rw [K1, hca.len]) (by omega)]
      have hml := mx_len (show c.length = (s.getD a default).length by rw [K1, hca.len])
      refine tot_some ⟨_, rfl, by rw [hml, K1], fun p hp => ?_⟩
      rw [getD_mx (by rw [K1, hca.len]) (by omega)]
      obtain ⟨q1, q2, q3⟩ := K2 p hp
      refine ⟨by omega, fun x hx => ?_, fun hpos => ?_⟩
      · rcases Nat.lt_or_ge x k with h | h
        · have := q2 x h; omega
        · rw [show x = k by omega, ea, Int.toNat_natCast]; omega
      · rcases Int.le_total (c.getD p 0) ((s.getD a default).getD p 0) with h | h
        · exact ⟨k, by omega, by rw [ea, Int.toNat_natCast]; omega⟩
        · rw [Int.max_eq_left h] at hpos ⊢
          obtain ⟨x, x1, x2⟩ := q3 hpos
          exact ⟨x, by omega, x2⟩
    · obtain ⟨c, rfl, K1, K2⟩ := ho
      refine tot_ix hi ?_
      have enx : (l.getD i default).1 = nd l i := rfl
      rw [enx]
      refine tot_ixz hni.1 (by omega) ?_
      have hstep : IsClock n.toNat l i (c.set (nd l i).toNat (c.getD (nd l i).toNat 0 + 1)) := by
        refine isClock_step hi (fun x hx => by have := hnd x hx; omega) K1 (fun p hp => (K2 p hp).1) (fun k ck hk hd hck p hp => ?_) (fun p hp hpos => ?_) (fun k hk hd => ⟨_, H2 k hk⟩) rfl
        · obtain ⟨x, hx, e⟩ := mem_getD default ((hbf.1 (k : Int)).2 ⟨k, rfl, hk, hd⟩)
          have := (K2 p hp).2.1 x hx
          rw [e, Int.toNat_natCast] at this
          rwa [hck.uniq (H2 k hk)]
        · obtain ⟨x, hx, e⟩ := (K2 p hp).2.2 hpos
          obtain ⟨a, ea, a1, a2⟩ := (hbf.1 (bf.getD x default)).1 (getD_mem hx)
          rw [ea, Int.toNat_natCast] at e
          exact ⟨a, _, a1, a2, H2 a a1, e⟩
      have hw : w64 (c.getD (nd l i).toNat default + 1) = c.getD (nd l i).toNat 0 + 1 := by
        have h1 := hstep.rg (nd l i).toNat (by omega)
        rw [getD_set (by omega), if_pos rfl] at h1
        have h2 := cnt_le (l := l) (p := ((nd l i).toNat : Nat)) (a := l.length)
        exact w64_id (by constructor <;> show _ ≤ _ <;> (have : c.getD (nd l i).toNat default = c.getD (nd l i).toNat 0 := rfl) <;> omega)
      rw [hw]
      refine tot_need (ap24 (by omega) (by simp)) (tot_some ⟨by simp [H1], fun b hb => ?_⟩)
      rw [getD_app]
      split
      · exact H2 b (by omega)
      · rw [show b = i by omega, H1, Nat.sub_self]; exact hstep
  · exact tot_some h
/-! heights -/
structure GHgt (l : List Act) (h : List Int) : Prop where
  len : h.length = l.length
  rg : ∀ b, b < l.length → 1 ≤ h.getD b default ∧ h.getD b default ≤ (b : Int) + 1
  up : ∀ a b, b < l.length → Pst l a b → h.getD a default + 1 ≤ h.getD b default
  at' : ∀ b, b < l.length → h.getD b default = 1 ∨ ∃ a, Pst l a b ∧ h.getD b default = h.getD a default + 1
theorem GHgt.uniq {l : List Act} {h k : List Int} (H : GHgt l h) (K : GHgt l k) : h = k := by
  refine ext_getD default (H.len.trans K.len.symm) fun j hj => ?_
  rw [H.len] at hj
  induction j using Nat.strongRecOn with
  | _ j ih =>
    apply Int.le_antisymm
    · rcases H.at' j hj with h1 | ⟨a, h1, h2⟩
      · rw [h1]; exact (K.rg j hj).1
      · rw [h2, ih a h1.lt (by have := h1.lt; omega)]; exact K.up a j hj h1
    · rcases K.at' j hj with h1 | ⟨a, h1, h2⟩
      · rw [h1]; exact (H.rg j hj).1
      · rw [h2, ← ih a h1.lt (by have := h1.lt; omega)]; exact H.up a j hj h1

end Go.Ab


set_option linter.unusedVariables false
namespace Go.Ab

/-! layer 29: the law CauseClocks -/
theorem f14_t (l : List Act) : Tot (f14 l) fun r => r = true → l.length ≤ 40 := by
  unfold f14
  rw [toNat_len]
  refine (tot_rngx (fun _ _ => True) (fun _ => True) trivial fun i s hi _ => ?_).bind fun o ho => ?_
  · unfold f14_b0
    refine tot_ix hi (tot_if (fun h => tot_some (.inr ⟨_, rfl, trivial⟩)) fun h => tot_some (.inl ⟨_, rfl, trivial⟩))
  · rcases ho with ⟨⟨⟩, rfl, _⟩ | ⟨⟨⟩, rfl, _⟩
    · exact tot_some fun h => by have := of_decide_eq_true h; omega
    · exact tot_some fun h => by cases h

end Go.Ab


set_option linter.unusedVariables false
namespace Go.Ab

/-! layer 29: cuts -/
/-- An event is in a cut. -/
def InC (l : List Act) (c : List Int) (j : Nat) : Prop := (idx l j : Int) ≤ c.getD (nd l j).toNat 0
def CutOk (n : Int) (c : List Int) : Prop := (c.length : Int) = n ∧ ∀ p, p < c.length → 0 ≤ c.getD p 0
def CutIn (l : List Act) (c : List Int) : Prop := ∀ p : Nat, p < c.length → c.getD p 0 ≤ cnt l p l.length
def Cons (l : List Act) (c : List Int) : Prop := ∀ b, b < l.length → InC l c b → ∀ a, Pst l a b → InC l c a

/-- What is asked of a cut. -/
def CutErr (n : Int) (l : List Act) (c : List Int) (r : Int) : Prop := (¬ (Ok n l ∧ CutOk n c) ∧ r = 1) ∨ (Ok n l ∧ CutOk n c ∧ ¬ CutIn l c ∧ r = 7) ∨ (Ok n l ∧ CutOk n c ∧ CutIn l c ∧ r = 0)
theorem CutErr.uniq {n : Int} {l : List Act} {c : List Int} {r q : Int} (h : CutErr n l c r) (k : CutErr n l c q) : r = q := by
  rcases h with ⟨h1, h2⟩ | ⟨h1, h2, h3, h4⟩ | ⟨h1, h2, h3, h4⟩ <;> rcases k with ⟨k1, k2⟩ | ⟨k1, k2, k3, k4⟩ | ⟨k1, k2, k3, k4⟩
  · rw [h2, k2]
  · exact absurd ⟨k1, k2⟩ h1
  · exact absurd ⟨k1, k2⟩ h1
  · exact absurd ⟨h1, h2⟩ k1
  · rw [h4, k4]
  · exact absurd k3 h3
  · exact absurd ⟨h1, h2⟩ k1
  · exact absurd h3 k3
  · rw [h4, k4]
theorem CutErr.zero {n : Int} {l : List Act} {c : List Int} (h : CutErr n l c 0) : Ok n l ∧ CutOk n c ∧ CutIn l c := by
  rcases h with ⟨h1, h2⟩ | ⟨h1, h2, h3, h4⟩ | ⟨h1, h2, h3, h4⟩
  · exact absurd h2 (by decide)
  · exact absurd h4 (by decide)
  · exact ⟨h1, h2, h3⟩
/-! consistent cuts -/
theorem f70_t {a b : List Int} (h : a.length = b.length) : Tot (f70 a b) fun r => (r = true ↔ ∀ p, p < a.length → a.getD p 0 ≤ b.getD p 0) := by
  unfold f70
  rw [toNat_len]
  refine (tot_rngx (fun i _ => ∀ p, p < i → a.getD p 0 ≤ b.getD p 0) (fun _ => ∃ p, p < a.length ∧ b.getD p 0 < a.getD p 0) (fun p hp => absurd hp (by omega)) fun i _ hi H => ?_).bind fun o ho => ?_
  · unfold f70_b0
    refine tot_ix hi (tot_ix (by omega) ?_)
    refine tot_if (fun h => tot_some (.inr ⟨_, rfl, i, hi, of_decide_eq_true h⟩)) (fun h => tot_some (.inl ⟨_, rfl, fun p hp => ?_⟩))
    rcases Nat.lt_or_ge p i with k | k
    · exact H p k
    · have := of_decide_eq_false h
      rw [show p = i by omega]
      exact Int.not_lt.1 this
  · rcases ho with ⟨⟨⟩, rfl, h⟩ | ⟨⟨⟩, rfl, p, p1, p2⟩
    · exact tot_some ⟨fun _ => h, fun _ => rfl⟩
    · exact tot_some ⟨fun h => absurd h (by decide), fun h => by have := h p p1; omega⟩
/-- An event's clock is below a cut exactly if the event and all before it are in the cut. -/
theorem below_iff {n : Int} {l : List Act} (hok : Ok n l) {c ck : List Int} (hc : CutOk n c) {i : Nat} (ci : IsClock n.toNat l i ck) : (∀ p, p < ck.length → ck.getD p 0 ≤ c.getD p 0) ↔ ∀ j, j < l.length → (j = i ∨ Pst l j i) → InC l c j := by
  have hnd := hok.nd
  rw [ci.len]
  constructor
  · intro h j hj hp
    have hnj := hnd j hj
    exact Int.le_trans ((ci.iff j hj).1 hp) (h _ (by omega))
  · intro h p hp
    have h0 := ci.rg p hp
    have h1 := hc.1
    have h2 := hc.2 p (by omega)
    rcases Int.lt_or_le 0 (ck.getD p 0) with k | k
    · obtain ⟨j, h4, h5, h6⟩ := idx_ex (l := l) (p := (p : Int)) (m := (ck.getD p 0).toNat) (N := l.length) (by omega) (by omega)
      have h7 := h j h4 ((ci.iff j h4).2 (by rw [h5, h6, Int.toNat_natCast]; omega))
      unfold InC at h7
      rw [h5, h6, Int.toNat_natCast] at h7
      omega
    · omega
/-- The place of each event. -/
theorem f67_t {n : Int} {l : List Act} (hok : Ok n l) : Tot (f67 n l) fun s => s.length = l.length ∧ ∀ j, j < l.length → s.getD j default = (idx l j : Int) := by
  have hN := hok.len
  obtain ⟨n1, n2⟩ := hok.n
  have hnd := hok.nd
  unfold f67
  refine tot_need (mkOk_t (by omega) (by omega)) ?_
  rw [toNat_len]
  refine (tot_rng (fun i (s : List Int × List Int) => s.1.length = n.toNat ∧ (∀ p, p < n.toNat → s.1.getD p 0 = cnt l p i) ∧ s.2.length = i ∧ ∀ j, j < i → s.2.getD j default = (idx l j : Int)) ⟨by simp, fun p hp => by rw [getD_rep hp]; rfl, rfl, fun j hj => absurd hj (by omega)⟩ fun i s hi H => ?_).bind fun o ho => ?_
  · obtain ⟨H1, H2, H3, H4⟩ := H
    obtain ⟨s4, s5⟩ := s
    simp only at H1 H2 H3 H4
    have hni := hnd i hi
    unfold f67_b0
    refine tot_ix hi ?_
    have e : (l.getD i default).1 = nd l i := rfl
    rw [e]
    refine tot_ixz hni.1 (by omega) ?_
    have hv := H2 (nd l i).toNat (by omega)
    have hc := cnt_le (l := l) (p := ((nd l i).toNat : Nat)) (a := i)
    have hw : w64 (s4.getD (nd l i).toNat default + 1) = s4.getD (nd l i).toNat 0 + 1 := w64_id (by
      show R64 (s4.getD (nd l i).toNat 0 + 1)
      rw [hv]; constructor <;> omega)
    rw [hw]
    refine tot_ixz hni.1 (by simp; omega) ?_
    rw [getD_set (by omega), if_pos rfl]
    refine tot_need (ap8 (by omega) (by simp)) (tot_some ⟨_, rfl, by simp [H1], fun p hp => ?_, by simp [H3], fun j hj => ?_⟩)
    · rw [getD_set (by omega)]
      simp only [cnt]
      by_cases e : (nd l i).toNat = p
      · rw [if_pos e, if_pos (by omega), hv, e]; omega
      · rw [if_neg e, if_neg (by omega), H2 p hp]; omega
    · rw [getD_app]
      split
      · exact H4 j (by omega)
      · rw [show j = i by omega, H3, Nat.sub_self]
        show s4.getD (nd l i).toNat 0 + 1 = _
        rw [hv, idx_eq, show (((nd l i).toNat : Nat) : Int) = nd l i by omega]; omega
  · obtain ⟨⟨s4, s5⟩, rfl, _, _, h3, h4⟩ := ho
    exact tot_some ⟨h3, h4⟩
end Go.Ab


set_option linter.unusedVariables false
namespace Go.Ab

/-! layer 29: the least cut that has some events -/
def InR (l : List Act) (es : List Int) : Prop := ∀ x, x < es.length → 0 ≤ es.getD x default ∧ es.getD x default < l.length
def AskErr (n : Int) (l : List Act) (es : List Int) (r : Int) : Prop := (¬ Ok n l ∧ r = 1) ∨ (Ok n l ∧ ¬ InR l es ∧ r = 7) ∨ (Ok n l ∧ InR l es ∧ r = 0)
theorem AskErr.uniq {n : Int} {l : List Act} {c : List Int} {r q : Int} (h : AskErr n l c r) (k : AskErr n l c q) : r = q := by
  rcases h with ⟨h1, h2⟩ | ⟨h1, h3, h4⟩ | ⟨h1, h3, h4⟩ <;> rcases k with ⟨k1, k2⟩ | ⟨k1, k3, k4⟩ | ⟨k1, k3, k4⟩
  · rw [h2, k2]
  · exact absurd k1 h1
  · exact absurd k1 h1
  · exact absurd h1 k1
  · rw [h4, k4]
  · exact absurd k3 h3
  · exact absurd h1 k1
  · exact absurd h3 k3
  · rw [h4, k4]
theorem AskErr.zero {n : Int} {l : List Act} {c : List Int} (h : AskErr n l c 0) : Ok n l ∧ InR l c := by
  rcases h with ⟨h1, h2⟩ | ⟨h1, h3, h4⟩ | ⟨h1, h3, h4⟩
  · exact absurd h2 (by decide)
  · exact absurd h4 (by decide)
  · exact ⟨h1, h3⟩
/-- A list has just the events of 'R', and those of their nodes ahead of them. -/
structure LeastG (n : Nat) (l : List Act) (R : Nat → Prop) (c : List Int) : Prop where
  len : c.length = n
  pos : ∀ p, p < n → 0 ≤ c.getD p 0
  has : ∀ a, a < l.length → R a → (idx l a : Int) ≤ c.getD (nd l a).toNat 0
  of : ∀ p, p < n → c.getD p 0 = 0 ∨ ∃ a, a < l.length ∧ R a ∧ nd l a = p ∧ c.getD p 0 = idx l a
theorem LeastG.congr {n : Nat} {l : List Act} {R S : Nat → Prop} {c : List Int} (h : LeastG n l R c) (hRS : ∀ a, a < l.length → (R a ↔ S a)) : LeastG n l S c :=
  ⟨h.len, h.pos, fun a ha hs => h.has a ha ((hRS a ha).2 hs), fun p hp => (h.of p hp).imp id fun ⟨a, a1, a2, a3, a4⟩ => ⟨a, a1, (hRS a a1).1 a2, a3, a4⟩⟩
theorem LeastG.uniq {n : Nat} {l : List Act} {R : Nat → Prop} {c d : List Int} (h : LeastG n l R c) (k : LeastG n l R d) : c = d := by
  have key : ∀ {c d : List Int}, LeastG n l R c → LeastG n l R d → ∀ p, p < n → c.getD p 0 ≤ d.getD p 0 := by
    intro c d h k p hp
    rcases h.of p hp with h1 | ⟨a, a1, a2, a3, a4⟩
    · rw [h1]; exact k.pos p hp
    · have := k.has a a1 a2
      rw [a3, Int.toNat_natCast] at this
      rw [a4]; exact this
  exact ext_getD 0 (h.len.trans k.len.symm) fun p hp => Int.le_antisymm (key h k p (by rw [← h.len]; exact hp)) (key k h p (by rw [← h.len]; exact hp))
theorem LeastG.nil {n : Nat} {l : List Act} : LeastG n l (fun _ => False) (List.replicate n 0) :=
  ⟨by simp, fun p hp => by rw [getD_rep hp]; exact Int.le_refl _, fun a _ h => h.elim, fun p hp => .inl (by rw [getD_rep hp])⟩
theorem LeastG.add {n : Nat} {l : List Act} {R : Nat → Prop} {c : List Int} (h : LeastG n l R c) {b : Nat} (hb : b < l.length) (hn : 0 ≤ nd l b ∧ nd l b < n) :
    LeastG n l (fun a => R a ∨ a = b) (c.set (nd l b).toNat (max (c.getD (nd l b).toNat 0) (idx l b))) := by
  have hlt : (nd l b).toNat < c.length := by rw [h.len]; omega
  refine ⟨by simp [h.len], fun p hp => ?_, fun a ha hr => ?_, fun p hp => ?_⟩
  · rw [getD_set hlt]
    split
    · omega
    · exact h.pos p hp
  · rw [getD_set hlt]
    split
    · rename_i e
      rcases hr with hr | rfl
      · have := h.has a ha hr; rw [← e] at this; omega
      · omega
    · rename_i e
      rcases hr with hr | rfl
      · exact h.has a ha hr
      · exact absurd rfl e
  · rw [getD_set hlt]
    split
    · rename_i e
      subst e
      rcases Int.le_total (c.getD (nd l b).toNat 0) (idx l b) with k | k
      · exact .inr ⟨b, hb, .inr rfl, by omega, by omega⟩
      · rw [Int.max_eq_left k]
        rcases h.of _ hp with h1 | ⟨a, a1, a2, a3⟩
        · exact .inl h1
        · exact .inr ⟨a, a1, .inl a2, a3⟩
    · rcases h.of p hp with h1 | ⟨a, a1, a2, a3⟩
      · exact .inl h1
      · exact .inr ⟨a, a1, .inl a2, a3⟩
theorem LeastG.mx {n : Nat} {l : List Act} {R : Nat → Prop} {c d : List Int} (h : LeastG n l R c) {b : Nat} (k : IsClock n l b d) (hn : ∀ a, a < l.length → 0 ≤ nd l a ∧ nd l a < n) :
    LeastG n l (fun a => R a ∨ (a = b ∨ Pst l a b)) (mx c d) := by
  have hl : c.length = d.length := by rw [h.len, k.len]
  have hg : ∀ p, p < n → (Go.Ab.mx c d).getD p 0 = max (c.getD p 0) (d.getD p 0) := fun p hp => getD_mx hl (by rw [h.len]; exact hp)
  refine ⟨by rw [mx_len hl, h.len], fun p hp => ?_, fun a ha hr => ?_, fun p hp => ?_⟩
  · have := h.pos p hp; rw [hg p hp]; omega
  · have := hn a ha
    rw [hg _ (by omega)]
    rcases hr with hr | hr
    · have := h.has a ha hr; omega
    · have := (k.iff a ha).1 hr; omega
  · rw [hg p hp]
    have k0 := k.rg p hp
    rcases Int.le_total (d.getD p 0) (c.getD p 0) with q | q
    · rw [Int.max_eq_left q]
      rcases h.of p hp with h1 | ⟨a, a1, a2, a3⟩
      · exact .inl h1
      · exact .inr ⟨a, a1, .inl a2, a3⟩
    · rw [Int.max_eq_right q]
      rcases Int.lt_or_le 0 (d.getD p 0) with q0 | q0
      · obtain ⟨j, h4, h5, h6⟩ := idx_ex (l := l) (p := (p : Int)) (m := (d.getD p 0).toNat) (N := l.length) (by omega) (by omega)
        exact .inr ⟨j, h4, .inr ((k.iff j h4).2 (by rw [h5, h6, Int.toNat_natCast]; omega)), h5, by omega⟩
      · exact .inl (by omega)
/-- The events asked for, with what is before them. -/
def Asked (l : List Act) (es : List Int) (k : Nat) (a : Nat) : Prop := ∃ x, x < k ∧ (a = (es.getD x default).toNat ∨ Pst l a (es.getD x default).toNat)
def LeastR (n : Int) (l : List Act) (es : List Int) (r : List Int × Int) : Prop := AskErr n l es r.2 ∧ (r.2 ≠ 0 → r.1 = []) ∧ (r.2 = 0 → LeastG n.toNat l (Asked l es es.length) r.1)
theorem LeastR.uniq {n : Int} {l : List Act} {es : List Int} {r q : List Int × Int} (h : LeastR n l es r) (k : LeastR n l es q) : r = q := by
  have e2 := h.1.uniq k.1
  refine Prod.ext ?_ e2
  by_cases hz : r.2 = 0
  · exact (h.2.2 hz).uniq (k.2.2 (by rw [← e2]; exact hz))
  · rw [h.2.1 hz, k.2.1 (by rw [← e2]; exact hz)]
/-- It is a cut, and consistent. -/
theorem LeastG.cut {n : Int} {l : List Act} (hok : Ok n l) {es : List Int} {k : Nat} {c : List Int} (h : LeastG n.toNat l (Asked l es k) c) : CutOk n c ∧ CutIn l c ∧ Cons l c := by
  obtain ⟨n1, n2⟩ := hok.n
  have hnd := hok.nd
  refine ⟨⟨by rw [h.len]; omega, fun p hp => h.pos p (by rw [← h.len]; exact hp)⟩, fun p hp => ?_, fun b hb hin a hp => ?_⟩
  · rcases h.of p (by rw [← h.len]; exact hp) with h1 | ⟨a, a1, a2, a3, a4⟩
    · rw [h1]; omega
    · rw [a4]
      have := idx_tot (l := l) a1
      rw [a3] at this; omega
  · have hnb := hnd b hb
    unfold InC at hin
    rcases h.of (nd l b).toNat (by omega) with h1 | ⟨x, x1, x2, x3, x4⟩
    · rw [h1] at hin
      have := idx_pos (l := l) (j := b); omega
    · have hnx : nd l x = nd l b := by omega
      have hbx : b = x ∨ Pst l b x := by
        rcases Nat.lt_trichotomy b x with c | c | c
        · exact .inr (pst_same c hnx.symm)
        · exact .inl c
        · have := idx_lt c hnx; omega
      have hax : Pst l a x := by
        rcases hbx with rfl | hbx
        · exact hp
        · exact hp.trans hbx
      obtain ⟨e, e1, e2⟩ := x2
      refine h.has a (by have := hp.lt; omega) ⟨e, e1, ?_⟩
      rcases e2 with e2 | e2
      · rw [e2] at hax; exact .inr hax
      · exact .inr (hax.trans e2)
end Go.Ab


set_option linter.unusedVariables false
namespace Go.Ab

/-- Rounds that come to an end. -/
theorem tot_lrun {S R : Type} {b : S → Option (S ⊕ R)} (Inv : S → Prop) (μ : S → Nat) (Q : R → Prop) (h : ∀ s, Inv s → Tot (b s) fun o => (∃ s', o = .inl s' ∧ Inv s' ∧ μ s' < μ s) ∨ ∃ r, o = .inr r ∧ Q r) : ∀ (k : Nat) (s : S), Inv s → μ s < k → Tot (lrun b k s) Q := by
  intro k
  induction k with
  | zero => intro s _ hk; omega
  | succ k ih =>
    intro s hs hk
    obtain ⟨o, h1, h2⟩ := h s hs
    simp only [lrun, h1, Option.bind_some]
    rcases h2 with ⟨s', rfl, h3, h4⟩ | ⟨r, rfl, h3⟩
    · exact ih s' h3 (by omega)
    · exact tot_some h3

/-! layer 29: the greatest consistent cut within a cut -/
def sumD (c : List Int) : Nat → Int
  | 0 => 0
  | k + 1 => sumD c k + c.getD k 0
theorem sumD_set {c : List Int} {q : Nat} {v : Int} (hq : q < c.length) : ∀ {k : Nat}, sumD (c.set q v) k = sumD c k + if q < k then v - c.getD q 0 else 0 := by
  intro k
  induction k with
  | zero => simp [sumD]
  | succ k ih =>
    simp only [sumD, ih, getD_set hq]
    by_cases e : q = k
    · subst e; rw [if_pos rfl, if_neg (by omega), if_pos (by omega)]; omega
    · rw [if_neg e]
      by_cases h : q < k
      · rw [if_pos h, if_pos (by omega)]; omega
      · rw [if_neg h, if_neg (by omega)]; omega
/-- An event is in the cut with all that is before it. -/
def Full (l : List Act) (cut : List Int) (j : Nat) : Prop := ∀ a, (a = j ∨ Pst l a j) → InC l cut a
structure GreatG (n : Nat) (l : List Act) (cut c : List Int) : Prop where
  len : c.length = n
  pos : ∀ p, p < n → 0 ≤ c.getD p 0
  le : ∀ p, p < n → c.getD p 0 ≤ cut.getD p 0
  iff : ∀ j, j < l.length → (InC l c j ↔ Full l cut j)
theorem GreatG.uniq {n : Nat} {l : List Act} {cut c d : List Int} (hcut : ∀ p : Nat, p < n → cut.getD p 0 ≤ cnt l p l.length) (h : GreatG n l cut c) (k : GreatG n l cut d) : c = d := by
  have key : ∀ {c d : List Int}, GreatG n l cut c → GreatG n l cut d → ∀ p, p < n → c.getD p 0 ≤ d.getD p 0 := by
    intro c d h k p hp
    have h1 := h.le p hp
    have h2 := hcut p hp
    have h3 := k.pos p hp
    rcases Int.lt_or_le 0 (c.getD p 0) with q | q
    · obtain ⟨j, h4, h5, h6⟩ := idx_ex (l := l) (p := (p : Int)) (m := (c.getD p 0).toNat) (N := l.length) (by omega) (by omega)
      have h7 := (k.iff j h4).2 ((h.iff j h4).1 (by unfold InC; rw [h5, h6, Int.toNat_natCast]; omega))
      unfold InC at h7
      rw [h5, h6, Int.toNat_natCast] at h7
      omega
    · omega
  exact ext_getD 0 (h.len.trans k.len.symm) fun p hp => Int.le_antisymm (key h k p (by rw [← h.len]; exact hp)) (key k h p (by rw [← h.len]; exact hp))
/-- Between the greatest one and the cut. -/
structure Mid (n : Nat) (l : List Act) (cut c : List Int) : Prop where
  len : c.length = n
  pos : ∀ p, p < n → 0 ≤ c.getD p 0
  le : ∀ p, p < n → c.getD p 0 ≤ cut.getD p 0
  has : ∀ j, j < l.length → Full l cut j → InC l c j
def GreatR (n : Int) (l : List Act) (cut : List Int) (r : List Int × Int) : Prop := CutErr n l cut r.2 ∧ (r.2 ≠ 0 → r.1 = []) ∧ (r.2 = 0 → GreatG n.toNat l cut r.1)
theorem GreatR.uniq {n : Int} {l : List Act} {es : List Int} {r q : List Int × Int} (h : GreatR n l es r) (k : GreatR n l es q) : r = q := by
  have e2 := h.1.uniq k.1
  refine Prod.ext ?_ e2
  by_cases hz : r.2 = 0
  · have h1 := h.1
    rw [hz] at h1
    obtain ⟨hok, hc, hi⟩ := h1.zero
    have := hc.1
    exact (h.2.2 hz).uniq (fun p hp => hi p (by omega)) (k.2.2 (by rw [← e2]; exact hz))
  · rw [h.2.1 hz, k.2.1 (by rw [← e2]; exact hz)]
end Go.Ab


set_option linter.unusedVariables false
namespace Go.Ab

/-! slices.IndexFunc, slices.DeleteFunc -/
/-! layer 29: the messages under way -/
def RecIn (l : List Act) (cut : List Int) (i : Nat) (m : Int) : Prop := ∃ k, k < i ∧ kd l k = 3 ∧ InC l cut k ∧ ms l k = m
open Classical in
noncomputable def und (l : List Act) (cut : List Int) (i r : Nat) : List Int := ((List.range i).filter fun j => decide (kd l j = 2 ∧ InC l cut j ∧ ¬ RecIn l cut r (ms l j))).map (ms l)
def UndR (n : Int) (l : List Act) (cut : List Int) (r : List Int × Int) : Prop := (¬ (Ok n l ∧ CutOk n cut ∧ CutIn l cut) ∧ CutErr n l cut r.2 ∧ r.1 = []) ∨ ((Ok n l ∧ CutOk n cut ∧ CutIn l cut) ∧ ((¬ Cons l cut ∧ r = ([], 9)) ∨ (Cons l cut ∧ r = (isortI (und l cut l.length l.length), 0))))
theorem UndR.uniq {n : Int} {l : List Act} {cut : List Int} {r q : List Int × Int} (h : UndR n l cut r) (k : UndR n l cut q) : r = q := by
  rcases h with ⟨h1, h2, h3⟩ | ⟨h1, ⟨h2, rfl⟩ | ⟨h2, rfl⟩⟩ <;> rcases k with ⟨k1, k2, k3⟩ | ⟨k1, ⟨k2, rfl⟩ | ⟨k2, rfl⟩⟩
  · exact Prod.ext (h3.trans k3.symm) (h2.uniq k2)
  · exact absurd k1 h1
  · exact absurd k1 h1
  · exact absurd h1 k1
  · rfl
  · exact absurd k2 h2
  · exact absurd h1 k1
  · exact absurd h2 k2
  · rfl
end Go.Ab


set_option linter.unusedVariables false
namespace Go.Ab

/-! layer 29: the law CauseCuts -/
theorem f8_tt {β : Type} {f : Bool → Option β} {Q : β → Prop} (k : Tot (f true) Q) : Tot (f8.bind f) Q := by rw [f8_t]; exact k
end Go.Ab

