/- Lemmas for a law of the seat: what functions of the program do, each stated as a contract of its own (module S18w). -/
import Derived.Test.YtbjafckcpkhoaaaS18v
import Derived.Test.YtbjafckcpkhoaaaEngF
import Derived.Test.YtbjafckcpkhoaaaEngH
import Derived.Test.YtbjafckcpkhoaaaChecked
set_option linter.unusedVariables false
set_option maxRecDepth 100000
namespace Go.Eng
open Go.RowKit Go.Shelf Go.Proofs Pol



theorem srt_ext : ∀ {s t : List Pol}, srt s → srt t → (∀ z, z ∈ s ↔ z ∈ t) → s = t := by
  intro s
  induction s with
  | nil =>
    intro t _ _ h
    cases t with
    | nil => rfl
    | cons y ys => have := (h y).2 (by simp); cases this
  | cons x xs ih =>
    intro t hs ht h
    cases t with
    | nil => have := (h x).1 (by simp); cases this
    | cons y ys =>
      rw [srt_cons] at hs ht
      have hxy : x = y := by
        rcases List.mem_cons.1 ((h x).1 (by simp)) with e | h1
        · exact e
        · rcases List.mem_cons.1 ((h y).2 (by simp)) with e | h2
          · exact e.symm
          · have := hs.1 y h2; have := ht.1 x h1; omega
      subst hxy
      congr 1
      refine ih hs.2 ht.2 fun z => ⟨fun hz => ?_, fun hz => ?_⟩
      · rcases List.mem_cons.1 ((h z).1 (by simp [hz])) with e | h1
        · subst e; have := hs.1 z hz; omega
        · exact h1
      · rcases List.mem_cons.1 ((h z).2 (by simp [hz])) with e | h1
        · subst e; have := ht.1 z hz; omega
        · exact h1
theorem overL_iff {a b : List Pol} : srt a → srt b → ∀ z, z ∈ overL a b ↔ z ∈ b ∨ (z ∈ a ∧ ∀ y, y ∈ b → ¬ y.kind = z.kind) := by
  fun_induction overL a b with
  | case1 ys => intro _ _ z; simp
  | case2 x xs ih => intro _ _ z; rw [overL_nil_r]; simp
  | case3 x xs y ys h ih =>
    intro h1 h2 z
    have h2' := h2
    rw [srt_cons] at h1 h2
    rw [List.mem_cons, ih h1.2 h2' z]
    have hx : ∀ y', y' ∈ y :: ys → ¬ y'.kind = x.kind := by
      intro y' hy'
      rcases List.mem_cons.1 hy' with rfl | hy'
      · omega
      · have := h2.1 y' hy'; omega
    constructor
    · rintro (rfl | hz | ⟨hz, hn⟩)
      · exact .inr ⟨by simp, hx⟩
      · exact .inl hz
      · exact .inr ⟨by simp [hz], hn⟩
    · rintro (hz | ⟨hz, hn⟩)
      · exact .inr (.inl hz)
      · rcases List.mem_cons.1 hz with rfl | hz
        · exact .inl rfl
        · exact .inr (.inr ⟨hz, hn⟩)
  | case4 x xs y ys h h' ih =>
    intro h1 h2 z
    rw [srt_cons] at h1 h2
    rw [List.mem_cons, ih h1.2 h2.2 z]
    constructor
    · rintro (rfl | hz | ⟨hz, hn⟩)
      · exact .inl (by simp)
      · exact .inl (by simp [hz])
      · refine .inr ⟨by simp [hz], fun y' hy' => ?_⟩
        rcases List.mem_cons.1 hy' with rfl | hy'
        · have := h1.1 z hz; omega
        · exact hn y' hy'
    · rintro (hz | ⟨hz, hn⟩)
      · rcases List.mem_cons.1 hz with rfl | hz
        · exact .inl rfl
        · exact .inr (.inl hz)
      · rcases List.mem_cons.1 hz with rfl | hz
        · exact absurd h'.symm (hn y (by simp))
        · exact .inr (.inr ⟨hz, fun y' hy' => hn y' (by simp [hy'])⟩)
  | case5 x xs y ys h h' ih =>
    intro h1 h2 z
    have h1' := h1
    rw [srt_cons] at h1 h2
    rw [List.mem_cons, ih h1' h2.2 z]
    constructor
    · rintro (rfl | hz | ⟨hz, hn⟩)
      · exact .inl (by simp)
      · exact .inl (by simp [hz])
      · refine .inr ⟨hz, fun y' hy' => ?_⟩
        rcases List.mem_cons.1 hy' with rfl | hy'
        · rcases List.mem_cons.1 hz with rfl | hz
          · omega
          · have := h1.1 z hz; omega
        · exact hn y' hy'
    · rintro (hz | ⟨hz, hn⟩)
      · rcases List.mem_cons.1 hz with rfl | hz
        · exact .inl rfl
        · exact .inr (.inl hz)
      · exact .inr (.inr ⟨hz, fun y' hy' => hn y' (by simp [hy'])⟩)
theorem srt_unique {s : List Pol} (h : srt s) {x y : Pol} (hx : x ∈ s) (hy : y ∈ s) (hk : x.kind = y.kind) : x = y := by
  induction s with
  | nil => cases hx
  | cons z zs ih =>
    rw [srt_cons] at h
    rcases List.mem_cons.1 hx with e1 | h1
    · rcases List.mem_cons.1 hy with e2 | h2
      · rw [e1, e2]
      · have := h.1 y h2; rw [e1] at hk; omega
    · rcases List.mem_cons.1 hy with e2 | h2
      · have := h.1 x h1; rw [e2] at hk; omega
      · exact ih h.2 h1 h2
theorem over_assoc {a b c : List Pol} (ha : srt a) (hb : srt b) (hc : srt c) : overL (overL a b) c = overL a (overL b c) := by
  refine srt_ext (overL_srt (overL_srt ha hb) hc) (overL_srt ha (overL_srt hb hc)) fun z => ?_
  rw [overL_iff (overL_srt ha hb) hc, overL_iff ha hb, overL_iff ha (overL_srt hb hc), overL_iff hb hc]
  constructor
  · rintro (h | ⟨h | ⟨h1, h2⟩, h3⟩)
    · exact .inl (.inl h)
    · exact .inl (.inr ⟨h, h3⟩)
    · exact .inr ⟨h1, fun y hy => ((overL_iff hb hc y).1 hy).elim (h3 y) (fun h => h2 y h.1)⟩
  · rintro ((h | ⟨h1, h2⟩) | ⟨h1, h2⟩)
    · exact .inl h
    · exact .inr ⟨.inl h1, h2⟩
    · have hc' : ∀ y, y ∈ c → ¬ y.kind = z.kind := fun y hy => h2 y ((overL_iff hb hc y).2 (.inl hy))
      refine .inr ⟨.inr ⟨h1, fun y hy e => ?_⟩, hc'⟩
      exact h2 y ((overL_iff hb hc y).2 (.inr ⟨hy, fun y' hy' e' => hc' y' hy' (by omega)⟩)) e
theorem over_self {a : List Pol} (ha : srt a) : overL a a = a := by
  refine srt_ext (overL_srt ha ha) ha fun z => ?_
  rw [overL_iff ha ha]
  exact ⟨fun h => h.elim id (fun h => h.1), .inl⟩
theorem lastOf_mem {l : List Pol} {q : Int} {z : Pol} (h : lastOf l q = some z) : z ∈ l ∧ z.kind = q := by
  have := List.mem_of_getLast? h
  rw [List.mem_filter] at this
  exact ⟨this.1, by simpa using this.2⟩
theorem lastOf_srt {l : List Pol} (hl : srt l) {z : Pol} (hz : z ∈ l) : lastOf l z.kind = some z := by
  cases h : lastOf l z.kind with
  | none =>
    have : l.filter (fun p => decide (p.kind = z.kind)) = [] := List.getLast?_eq_none_iff.1 h
    rw [List.filter_eq_nil_iff] at this
    exact absurd (decide_eq_true rfl) (this z hz)
  | some y =>
    obtain ⟨h1, h2⟩ := lastOf_mem h
    rw [srt_unique hl h1 hz h2]
theorem lastOf_append {a b : List Pol} {q : Int} : lastOf (a ++ b) q = (lastOf b q).or (lastOf a q) := by
  unfold lastOf; rw [List.filter_append, List.getLast?_append]
theorem gath_mem {l : List Pol} {z : Pol} : z ∈ gath l ↔ (1 ≤ z.kind ∧ z.kind ≤ 13) ∧ lastOf l z.kind = some z := by
  unfold gath gathK
  rw [List.mem_filterMap]
  constructor
  · rintro ⟨i, hi, h⟩
    have hi := List.mem_range.1 hi
    have hk := (lastOf_mem h).2
    exact ⟨by omega, by rw [hk]; exact h⟩
  · rintro ⟨⟨h1, h2⟩, h3⟩
    refine ⟨z.kind.toNat - 1, List.mem_range.2 (by omega), ?_⟩
    have : ((z.kind.toNat - 1 : Nat) : Int) + 1 = z.kind := by omega
    rw [this]; exact h3
theorem gathK_srt (l : List Pol) (k : Nat) : srt (gathK l k) ∧ ∀ z, z ∈ gathK l k → z.kind ≤ (k : Int) := by
  induction k with
  | zero => exact ⟨List.Pairwise.nil, fun z h => by cases h⟩
  | succ k ih =>
    cases h : lastOf l ((k : Int) + 1) with
    | none => rw [gathK_none h]; exact ⟨ih.1, fun z hz => by have := ih.2 z hz; omega⟩
    | some x =>
      have hx := (lastOf_mem h).2
      rw [gathK_some h]
      refine ⟨?_, fun z hz => ?_⟩
      · rw [srt, List.pairwise_append]
        refine ⟨ih.1, List.pairwise_singleton _ _, fun u hu v hv => ?_⟩
        rw [List.mem_singleton] at hv; subst hv
        have := ih.2 u hu; omega
      · rcases List.mem_append.1 hz with hz | hz
        · have := ih.2 z hz; omega
        · rw [List.mem_singleton] at hz; subst hz; omega
theorem gath_step {x b : List Pol} (hb : validSet b = true) : gath (x ++ b) = overL (gath x) b := by
  rw [valid_iff] at hb
  refine srt_ext (gathK_srt _ _).1 (overL_srt (gathK_srt _ _).1 hb.1) fun z => ?_
  rw [gath_mem, overL_iff (gathK_srt _ _).1 hb.1, lastOf_append, gath_mem]
  constructor
  · rintro ⟨hk, h⟩
    cases h2 : lastOf b z.kind with
    | some y => rw [h2] at h; simp at h; subst h; exact .inl (lastOf_mem h2).1
    | none =>
      rw [h2] at h; simp at h
      refine .inr ⟨⟨hk, h⟩, fun y hy e => ?_⟩
      rw [← e, lastOf_srt hb.1 hy] at h2; cases h2
  · rintro (h | ⟨h1, h2⟩)
    · exact ⟨valid_kind (hb.2 z h), by rw [lastOf_srt hb.1 h]; rfl⟩
    · refine ⟨h1.1, ?_⟩
      have : lastOf b z.kind = none := lastOf_none (fun i y hy => h2 y (List.mem_of_getElem? hy))
      rw [this, h1.2]; rfl
theorem gath_nil : gath [] = [] := rfl
theorem gath_one {a : List Pol} (ha : validSet a = true) : gath a = a := by
  have := gath_step (x := []) ha
  rw [List.nil_append, gath_nil, overL_nil] at this; exact this
theorem gath_over {a b : List Pol} (ha : validSet a = true) (hb : validSet b = true) : gath (a ++ b) = overL a b := by
  rw [gath_step hb, gath_one ha]
theorem gath_fold {l : List (List Pol)} : ∀ {x : List Pol}, allV l = true → l.foldl overL (gath x) = gath (x ++ l.flatten) := by
  induction l with
  | nil => intro x _; simp
  | cons s l ih =>
    intro x h
    simp only [allV, List.all_cons, Bool.and_eq_true] at h
    rw [List.foldl_cons, ← gath_step h.1, ih (by simpa [allV] using h.2), List.flatten_cons, List.append_assoc]
theorem gath_flat {l : List (List Pol)} (h : allV l = true) : gath l.flatten = effL l := by
  have := gath_fold (x := []) h
  rw [gath_nil, List.nil_append] at this; exact this.symm
theorem over_eq (a b : List Pol) : overR a b = rOverR a b := by
  unfold overR rOverR
  split
  · rename_i h; exact (gath_over h.1 h.2).symm
  · rfl
theorem eff_eq (l : List (List Pol)) : effR l = rEffR l := by
  unfold effR rEffR
  split
  · rename_i h; exact (gath_flat h).symm
  · rfl
theorem plain_srt {a : List Pol} (h : validSet a = true) : srt (chosenL a keepPlain) := (valid_iff.1 (chosen_set h _)).1
theorem plain_mem {a : List Pol} (h : validSet a = true) {z : Pol} : z ∈ chosenL a keepPlain ↔ z ∈ a ∧ ¬ z.val = leastI z.kind := by
  rw [chosenL, if_pos h, List.mem_filter]; simp [keepPlain]
theorem plain_val {a : List Pol} (h : validSet a = true) {z : Pol} : (z ∈ a ∧ ¬ z.val = leastI z.kind) ↔ ((1 ≤ z.kind ∧ z.kind ≤ 13) ∧ valueOf a z.kind = z.val ∧ ¬ z.val = leastI z.kind) := by
  constructor
  · rintro ⟨h1, h2⟩; exact ⟨valid_kind (mem_valid h h1), valueOf_mem (valid_asc h) h1 rfl, h2⟩
  · rintro ⟨h0, h1, h2⟩
    refine ⟨?_, h2⟩
    by_cases hx : ∃ x, x ∈ a ∧ x.kind = z.kind
    · obtain ⟨x, hx1, hx2⟩ := hx
      have := valueOf_mem (valid_asc h) hx1 hx2
      have e : x = z := by
        cases x; cases z; simp at hx2 this h1 ⊢; exact ⟨hx2, by omega⟩
      rw [← e]; exact hx1
    · exact absurd (h1.symm.trans (valueOf_no (fun x hx1 hx2 => hx ⟨x, hx1, hx2⟩))) h2
theorem same_eq (a b : List Pol) : sameR a b = rSameR a b := by
  by_cases hv : validSet a = true ∧ validSet b = true
  · rw [sameR, if_pos hv]
    by_cases h : ∀ k : Nat, k < 13 → valueOf a ((k : Int) + 1) = valueOf b ((k : Int) + 1)
    · rw [rsame_yes hv h]
      refine decide_eq_true (srt_ext (plain_srt hv.1) (plain_srt hv.2) fun z => ?_)
      rw [plain_mem hv.1, plain_mem hv.2, plain_val hv.1, plain_val hv.2]
      have hk : (1 ≤ z.kind ∧ z.kind ≤ 13) → valueOf a z.kind = valueOf b z.kind := fun h0 => by
        have := h (z.kind.toNat - 1) (by omega)
        rwa [show ((z.kind.toNat - 1 : Nat) : Int) + 1 = z.kind by omega] at this
      constructor
      · rintro ⟨h0, h1, h2⟩; exact ⟨h0, by rw [← hk h0]; exact h1, h2⟩
      · rintro ⟨h0, h1, h2⟩; exact ⟨h0, by rw [hk h0]; exact h1, h2⟩
    · have ⟨k, hk1, hk2⟩ : ∃ k : Nat, k < 13 ∧ ¬ valueOf a ((k : Int) + 1) = valueOf b ((k : Int) + 1) := by
        apply Classical.byContradiction
        intro hn
        exact h fun k hk => Classical.byContradiction fun hc => hn ⟨k, hk, hc⟩
      rw [rsame_no hv hk1 hk2]
      refine decide_eq_false fun e => hk2 ?_
      rw [← valueOf_plain hv.1, ← valueOf_plain hv.2, e]
  · rw [sameR, rSameR, if_neg hv, if_neg hv]

theorem rdl3 {w : World} {b : Nat} {A1 A2 A3 : Option Addr} {n1 n2 n3 c1 c2 c3 : Nat} {x y z : List Pol} {T : TypeId} {fr : Nat × Nat} (hb : w.heap[b]? = some (.cells #[.slice A1 n1 c1, .slice A2 n2 c2, .slice A3 n3 c3] T fr))
    (h1 : RdP w A1 n1 x) (h2 : RdP w A2 n2 y) (h3 : RdP w A3 n3 z) (k1 : n1 ≤ c1) (k2 : n2 ≤ c2) (k3 : n3 ≤ c3) (l1 : n1 ≤ 200) (l2 : n2 ≤ 200) (l3 : n3 ≤ 200) : RdL w (some ⟨b, 0, none⟩) 3 [x, y, z] := by
  refine rd_of_rows (R := RLev) (xs := [x, y, z]) ⟨⟨[.slice A1 n1 c1], rfl, ⟨_, _, _, rfl, h1, k1, l1⟩, fun i v hi => ?_⟩, ⟨[.slice A2 n2 c2], rfl, ⟨_, _, _, rfl, h2, k2, l2⟩, fun i v hi => ?_⟩, ⟨[.slice A3 n3 c3], rfl, ⟨_, _, _, rfl, h3, k3, l3⟩, fun i v hi => ?_⟩, trivial⟩ rfl rfl
  all_goals
    cases i with
    | zero => simp at hi; subst hi; exact cell_blk hb rfl
    | succ i => simp at hi
theorem short3 {A1 A2 A3 : Option Addr} {n1 n2 n3 c1 c2 c3 : Nat} (h : shortH [⟨A1, n1, c1⟩, ⟨A2, n2, c2⟩, ⟨A3, n3, c3⟩] = true) : n1 ≤ 200 ∧ n2 ≤ 200 ∧ n3 ≤ 200 := by
  simp [shortH] at h; omega
theorem overR_len (a b : List Pol) : (overR a b).length ≤ a.length + b.length := by
  unfold overR; split
  · exact overL_len a b
  · simp
theorem effE_0 {a b c : List Pol} (h : effE [a, b, c] = 0) : validSet a = true ∧ validSet b = true ∧ validSet c = true := by
  unfold effE at h
  split at h
  · rename_i h'; simpa [allV, and_assoc] using h'
  · cases h

end Go.Eng
