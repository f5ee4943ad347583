/- Lemmas for a law of the seat: what functions of the program do, each stated as a contract of its own (module L29b). -/
import Derived.Test.YtjagcoeihmhabaaL29a
set_option linter.unusedVariables false
set_option linter.unusedSimpArgs false
namespace Go.Ab
theorem f13_refl (a : List Int) : f13 a a = some true := by
  unfold f13
  rw [toNat_len]
  obtain ⟨s', h1, _⟩ := rng_inv (g := f13_b0 a a) (n := a.length) (s := ()) (fun _ _ => True) (fun i s hi _ => ⟨(), by
    unfold f13_b0
    rw [ix_nat hi]
    simp, trivial⟩) trivial
  simp [h1]
def mx (a b : List Int) : List Int := List.zipWith max a b
theorem mx_len {a b : List Int} (h : a.length = b.length) : (mx a b).length = a.length := by simp [mx, List.length_zipWith]; omega
theorem mx_take {a b : List Int} {i : Nat} (h : a.length = b.length) (hi : i < a.length) : (mx a b).take (i + 1) = (mx a b).take i ++ [max (a[i]) (b[i]'(by omega))] := by
  rw [List.take_add_one]
  congr 1
  have : (mx a b)[i]? = some (max (a[i]) (b[i]'(by omega))) := by
    unfold mx
    rw [List.getElem?_zipWith]
    simp [hi, show i < b.length by omega]
  rw [this]; rfl
theorem f12_loop {a b : List Int} (h : a.length = b.length) (h16 : a.length ≤ 16) : rng (f12_b0 a b) a.length 0 [] = some (.inl (mx a b)) := by
  obtain ⟨s', h1, h2⟩ := rng_inv (g := f12_b0 a b) (n := a.length) (s := ([] : List Int)) (fun i s => s = (mx a b).take i) (fun i s hi hs => by
    have hib : i < b.length := by omega
    have hsl : s.length = i := by rw [hs, List.length_take, mx_len h]; omega
    refine ⟨s ++ [max (a[i]) (b[i]'hib)], ?_, ?_⟩
    · unfold f12_b0
      rw [ix_nat hi, ix_nat hib]
      simp only [Option.bind_some]
      have : apOk 8 (s.length + [max (a[i]) (b[i]'hib)].length) = true := by
        simp only [apOk, List.length_singleton, hsl, Nat.ble_eq]
        have h47 : cap47 = 140737488355328 := rfl
        omega
      rw [this]; rfl
    · rw [hs, mx_take h hi]) (by simp)
  rw [h1, h2, List.take_of_length_le (by rw [mx_len h]; omega)]
theorem f48_ok {a b : List Int} (h : a.length = b.length) (h16 : a.length ≤ 16) : f48 a b = some (mx a b) := by
  have e : f68 a = some a := by
    unfold f68
    have : apOk 8 (([] : List Int).length + a.length) = true := by
      simp only [apOk, List.length_nil, Nat.ble_eq]
      have h47 : cap47 = 140737488355328 := rfl
      omega
    rw [this]; rfl
  unfold f48
  rw [e]
  simp only [Option.bind_some, toNat_len]
  obtain ⟨s', h1, h2⟩ := rng_inv (g := f48_b0 b) (n := a.length) (s := a) (fun i s => s = (mx a b).take i ++ a.drop i) (fun i s hi hs => by
    have hml := mx_len h
    have hib : i < b.length := by omega
    have hsl : s.length = a.length := by rw [hs, List.length_append, List.length_take, List.length_drop, hml]; omega
    have hsi : s[i]'(by omega) = a[i] := by
      have : s[i]? = some a[i] := by
        rw [hs, List.getElem?_append_right (by rw [List.length_take, hml]; omega), List.length_take, hml, Nat.min_eq_left (by omega), Nat.sub_self, List.getElem?_drop]
        simp [hi]
      rw [List.getElem?_eq_getElem (by omega)] at this
      exact Option.some.inj this
    refine ⟨s.set i (max (a[i]) (b[i]'hib)), ?_, ?_⟩
    · unfold f48_b0
      rw [ix_nat (show i < s.length by omega), ix_nat hib, hsi]
      simp
    · rw [hs, mx_take h hi, List.set_append_right _ _ (by rw [List.length_take, hml]; omega), List.length_take, hml, Nat.min_eq_left (by omega), Nat.sub_self, List.append_assoc]
      congr 1
      rw [List.drop_eq_getElem_cons hi]
      rfl) (by simp)
  rw [h1, h2]
  simp only [Option.bind_some]
  rw [List.take_of_length_le (by rw [mx_len h]; omega), List.drop_eq_nil_of_le (Nat.le_refl _), List.append_nil]
theorem okC_len {a b : List Int} (h : okC a b = true) : a.length = b.length ∧ a.length ≤ 16 := by
  simp only [okC, Bool.and_eq_true, decide_eq_true_eq] at h
  exact ⟨h.1.1.1.1, h.1.1.2⟩
theorem f11_eq (a b : List Int) : f11 a b = some (if okC a b then (mx a b, 0) else ([], 1)) := by
  unfold f11
  rw [f45_ok]
  cases hk : okC a b with
  | false => rfl
  | true =>
    obtain ⟨h1, h2⟩ := okC_len hk
    simp [f48_ok h1 h2]
theorem f12_eq (a b : List Int) : f12 a b = some (if okC a b then (mx a b, 0) else ([], 1)) := by
  have h := ask_eq a b
  unfold f12
  rw [f46_ok, f47_two]
  cases hk : okC a b with
  | false =>
    rw [hk] at h
    generalize (decide (1 ≤ (a.length : Int)) && decide ((a.length : Int) ≤ 16)) = p at *
    generalize (!a.any neg && (decide ((b.length : Int) = a.length) && !b.any neg)) = q at *
    cases p <;> cases q <;> first | rfl | exact absurd h (by decide)
  | true =>
    obtain ⟨h1, h2⟩ := okC_len hk
    rw [hk] at h
    rw [toNat_len, f12_loop h1 h2]
    generalize (decide (1 ≤ (a.length : Int)) && decide ((a.length : Int) ≤ 16)) = p at *
    generalize (!a.any neg && (decide ((b.length : Int) = a.length) && !b.any neg)) = q at *
    cases p <;> cases q <;> first | rfl | exact absurd h (by decide)
theorem f9_some (a b : List Int) : ∃ r, f9 a b = some r := by
  cases hk : okC a b with
  | false => exact ⟨_, f9_bad hk⟩
  | true =>
    obtain ⟨h1, h2⟩ := okC_len hk
    unfold f9
    rw [f45_ok, hk, toNat_len]
    obtain ⟨⟨s1, s2⟩, g1, _⟩ := rng_inv (g := f9_b0 a b) (n := a.length) (s := (false, false)) (fun _ _ => True) (fun i s hi _ => by
      obtain ⟨s5, s6⟩ := s
      have hib : i < b.length := by omega
      refine ⟨(s5 || decide (a[i] < b[i]), s6 || decide (b[i] < a[i])), ?_, trivial⟩
      unfold f9_b0
      rw [ix_nat hi, ix_nat hib]
      simp only [Option.isSome_some, Bool.or_true, cond_true, Option.getD_some]) trivial
    simp only [g1, Option.bind_some, Bool.not_true, cond_false]
    cases s1 <;> cases s2 <;> exact ⟨_, rfl⟩
/-- CauseNumbers returns true. -/
theorem f3_t (a b : List Int) : f3 a b = some true := by
  unfold f3
  rw [f8_t, f10_eq, f11_eq, f12_eq]
  obtain ⟨r, hr⟩ := f9_some a b
  rw [hr]
  cases (decide (50 < (a.length : Int)) || decide (50 < (b.length : Int)))
  · simp only [cond_false, Option.bind_some, f13_refl, Option.isSome_some, Bool.or_true, cond_true, Option.getD_some, decide_true, Bool.and_true]
  · rfl
end Go.Ab
