/- Lemmas for a law of the seat: what functions of the program do, each stated as a contract of its own (module S18m). -/
import Derived.Test.YtbjafckcpkhoaaaS18l
import Derived.Test.YtbjafckcpkhoaaaEngF
import Derived.Test.YtbjafckcpkhoaaaChecked
set_option linter.unusedVariables false
set_option maxRecDepth 100000
namespace Go.Eng
open Go.RowKit Go.Shelf Go.Proofs Pol



theorem valid_of {s : List Pol} (ha : Asc s) (hv : ∀ p, p ∈ s → validB p = true) : validSet s = true := by
  rw [validSet_iff]; intro i hi
  have hp : s[i]? = some s[i] := List.getElem?_eq_getElem hi
  have h1 := hv _ (List.getElem_mem hi)
  by_cases h0 : i = 0
  · subst h0; simp [okAt, hp, h1]
  · have hq : s[i - 1]? = some s[i - 1] := List.getElem?_eq_getElem (by omega)
    have := ha.up (i - 1) i _ _ (by omega) hq hp
    simp [okAt, hp, hq, h1, this]
theorem chosen_set {s : List Pol} (hv : validSet s = true) (f : Pol → Bool) : validSet (chosenL s f) = true := valid_of (asc_chosen hv f) (chosen_valid hv f)
theorem valueOf_mem {s : List Pol} (h : Asc s) {x : Pol} {k : Int} (hx : x ∈ s) (hk : x.kind = k) : valueOf s k = x.val := by
  obtain ⟨i, hi, rfl⟩ := List.getElem_of_mem hx
  exact valueOf_some h (List.getElem?_eq_getElem hi) hk
theorem valueOf_no {s : List Pol} {k : Int} (h : ∀ x, x ∈ s → ¬ x.kind = k) : valueOf s k = leastI k := by
  have hf : s.find? (fun p => decide (p.kind = k)) = none := by
    rw [List.find?_eq_none]; intro x hx; simpa using h x hx
  rw [valueOf, hf]
theorem valueOf_filter {s : List Pol} (ha : Asc s) {f : Pol → Bool} {k : Int} (hf : ∀ x, x ∈ s → x.kind = k → f x = false → x.val = leastI k) : valueOf (s.filter f) k = valueOf s k := by
  by_cases h : ∃ x, x ∈ s ∧ x.kind = k
  · obtain ⟨x, hx, hk⟩ := h
    rw [valueOf_mem ha hx hk]
    cases hfx : f x with
    | true => exact valueOf_mem (asc_filter ha f) (List.mem_filter.2 ⟨hx, hfx⟩) hk
    | false =>
      rw [hf x hx hk hfx]
      refine valueOf_no fun y hy hyk => ?_
      obtain ⟨hy1, hy2⟩ := List.mem_filter.1 hy
      have e1 := valueOf_mem ha hx hk
      have e2 := valueOf_mem ha hy1 hyk
      have : x = y := by
        cases x; cases y
        simp only at hk hyk e1 e2
        rw [← hk] at hyk; subst hyk; rw [← e1, e2]
      subst this; rw [hfx] at hy2; cases hy2
  · have h1 : ∀ x, x ∈ s → ¬ x.kind = k := fun x hx hk => h ⟨x, hx, hk⟩
    rw [valueOf_no h1, valueOf_no fun x hx => h1 x (List.mem_filter.1 hx).1]
theorem valueOf_plain {s : List Pol} (hv : validSet s = true) (k : Int) : valueOf (chosenL s keepPlain) k = valueOf s k := by
  rw [chosenL, if_pos hv]
  refine valueOf_filter (valid_asc hv) fun x hx hk hf => ?_
  subst hk
  simpa [keepPlain] using hf
theorem valueOf_calls {s : List Pol} (hv : validSet s = true) {k : Int} (hk : 8 ≤ k) : valueOf (agC s) k = valueOf s k := by
  rw [agC, chosenL, if_pos hv]
  refine valueOf_filter (valid_asc hv) fun x hx hk' hf => ?_
  simp [keepCalls] at hf
  omega
theorem agree_ok {a b : List Pol} (h : (agree a b).2.2 = 0) : validSet a = true ∧ validSet b = true ∧ clashL (agreed (agC a) (agC b)) = [] ∧ (agree a b).1 = chosenL (agreed (agC a) (agC b)) keepPlain := by
  unfold agree at h ⊢
  split at h
  · rename_i hv
    rw [if_pos hv]
    split at h
    · cases h
    · rename_i hr
      rw [if_neg hr]
      split at h
      · cases h
      · rename_i hc
        exact ⟨hv.1, hv.2, hc, rfl⟩
  · cases h
theorem clash_plain {s : List Pol} (hv : validSet s = true) : clashL (chosenL s keepPlain) = clashL s := by
  rw [clashL, clashL, if_pos (chosen_set hv _), if_pos hv]
  have e : badOf (chosenL s keepPlain) = badOf s := by funext r; rw [badOf, badOf, valueOf_plain hv, valueOf_plain hv]
  rw [clashList, clashList, e]
section
variable {a b : List Pol} (hg : (agree a b).2.2 = 0)
include hg
theorem okX_valid : validSet (agree a b).1 = true := by
  obtain ⟨h1, h2, h3, h4⟩ := agree_ok hg
  rw [h4]; exact chosen_set (agreed_valid h1 h2) _
theorem okX_E : chosenE (agree a b).1 = 0 := chosenE_0.2 (okX_valid hg)
theorem okX_clash : clashL (agree a b).1 = [] := by
  obtain ⟨h1, h2, h3, h4⟩ := agree_ok hg
  rw [h4, clash_plain (agreed_valid h1 h2), h3]
theorem okX_get {k : Int} (hk : isB k = true) : getV (agree a b).1 k = valueOf (agreed (agC a) (agC b)) k := by
  obtain ⟨h1, h2, h3, h4⟩ := agree_ok hg
  rw [getV, if_pos ⟨okX_valid hg, hk⟩, h4, valueOf_plain (agreed_valid h1 h2)]
theorem okS_get {s : List Pol} (hs : s = a ∨ s = b) {k : Int} (h8 : 8 ≤ k) (hk : isB k = true) : getV s k = valueOf (agC s) k := by
  obtain ⟨h1, h2, h3, h4⟩ := agree_ok hg
  have hv : validSet s = true := by rcases hs with rfl | rfl <;> assumption
  rw [getV, if_pos ⟨hv, hk⟩, valueOf_calls hv h8]
theorem strong_ok {s : List Pol} (hs : s = a ∨ s = b) {k : Int} (hk : k = 8 ∨ k = 9) : ¬ strengthR k (getV (agree a b).1 k) < strengthR k (getV s k) := by
  obtain ⟨ha, hb, h3, h4⟩ := agree_ok hg
  rcases hk with rfl | rfl
  · rw [okX_get hg rfl, okS_get hg hs (by decide) rfl]
    have e : valueOf (agreed (agC a) (agC b)) 8 = rebindOf (agC a) (agC b) := rfl
    have e2 : ∀ v, strengthR 8 v = v := fun v => rfl
    rw [e, e2, e2, rebindOf]
    rcases hs with rfl | rfl <;> split <;> omega
  · rw [okX_get hg rfl, okS_get hg hs (by decide) rfl]
    have e : valueOf (agreed (agC a) (agC b)) 9 = certOf (agC a) (agC b) := rfl
    have h1 : 1 ≤ valueOf (agC a) 9 ∧ valueOf (agC a) 9 ≤ 4 := val_rng ha 9 rfl
    have h2 : 1 ≤ valueOf (agC b) 9 ∧ valueOf (agC b) 9 ≤ 4 := val_rng hb 9 rfl
    rw [e, certOf]
    have hs' : valueOf (agC s) 9 = valueOf (agC a) 9 ∨ valueOf (agC s) 9 = valueOf (agC b) 9 := by rcases hs with rfl | rfl; exact .inl rfl; exact .inr rfl
    generalize valueOf (agC s) 9 = z at *
    generalize valueOf (agC a) 9 = x at *
    generalize valueOf (agC b) 9 = y at *
    have hx : x = 1 ∨ x = 2 ∨ x = 3 ∨ x = 4 := by omega
    have hy : y = 1 ∨ y = 2 ∨ y = 3 ∨ y = 4 := by omega
    rcases hx with rfl | rfl | rfl | rfl <;> rcases hy with rfl | rfl | rfl | rfl <;> rcases hs' with rfl | rfl <;> decide
theorem limit_ok {s : List Pol} (hs : s = a ∨ s = b) : ((!decide (getV s 10 = 0)) && ((decide (getV (agree a b).1 10 = 0)) || (decide (getV s 10 < getV (agree a b).1 10)))) = false := by
  obtain ⟨ha, hb, h3, h4⟩ := agree_ok hg
  rw [okX_get hg rfl, okS_get hg hs (by decide) rfl]
  have e : valueOf (agreed (agC a) (agC b)) 10 = limitOf (agC a) (agC b) := rfl
  have h1 : 0 ≤ valueOf (agC a) 10 ∧ valueOf (agC a) 10 ≤ 1000000 := val_rng ha 10 rfl
  have h2 : 0 ≤ valueOf (agC b) 10 ∧ valueOf (agC b) 10 ≤ 1000000 := val_rng hb 10 rfl
  have hs' : valueOf (agC s) 10 = valueOf (agC a) 10 ∨ valueOf (agC s) 10 = valueOf (agC b) 10 := by rcases hs with rfl | rfl; exact .inl rfl; exact .inr rfl
  rw [e, limitOf]
  generalize valueOf (agC s) 10 = z at *
  generalize valueOf (agC a) 10 = x at *
  generalize valueOf (agC b) 10 = y at *
  rw [Bool.eq_false_iff]
  intro hc
  simp only [Bool.and_eq_true, Bool.not_eq_true', Bool.or_eq_true, decide_eq_true_eq, decide_eq_false_iff_not] at hc
  split at hc <;> omega
end

end Go.Eng
