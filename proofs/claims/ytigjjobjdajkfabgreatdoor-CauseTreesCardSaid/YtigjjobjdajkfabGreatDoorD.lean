/- Lemmas for a law of the seat: what functions of the program do, each stated as a contract of its own (D). -/
import Derived.Test.YtigjjobjdajkfabGreatDoorC
import Derived.Test.YtigjjobjdajkfabGreatDoorTZd
import Derived.Lib.ItoaNum
set_option linter.unusedVariables false
namespace Go.Ab

/-! layer 29: the reference's parents -/
theorem find_k {n : Int} {l : List Act} (hok : Ok n l) (hR : RA l) {K : Int} (hK : K = 4 ∨ K = 5) (c : Int) : Tot (f51 l K c) fun r => (r = -1 ∧ ∀ e, e < l.length → ¬ (kd l e = K ∧ cl l e = c)) ∨ ∃ e : Nat, e < l.length ∧ r = (e : Int) ∧ kd l e = K ∧ cl l e = c := by
  have hn : ∀ j, j < l.length → kd l j = K → num l j = cl l j := fun j hj hk => by
    rw [num_fl hR hj (code_zero (hok.2 j hj).2).2.1, if_neg (by omega)]
  refine (f51_t l K c).mono fun r hr => ?_
  rcases hr with ⟨h1, h2⟩ | ⟨j, h1, h2, h3, h4, _⟩
  · exact .inl ⟨h1, fun e he q => h2 e he ⟨q.1, (hn e he q.1).trans q.2⟩⟩
  · exact .inr ⟨j, h1, h2, h3, (hn j h1 h3).symm.trans h4⟩
theorem find_4 {n : Int} {l : List Act} (hok : Ok n l) (hR : RA l) {b : Nat} (hb : b < l.length) (hk : kd l b = 4) : f51 l 4 (cl l b) = some (b : Int) := by
  obtain ⟨r, e, ⟨h1, h2⟩ | ⟨j, h1, h2, h3, h4⟩⟩ := find_k hok hR (.inl rfl) (cl l b)
  · exact absurd ⟨hk, rfl⟩ (h2 b hb)
  · rw [e, h2, begin_uniq hok (.inl rfl) h1 hb h3 hk h4]

/-- A call that is open before an event. -/
def WithinE (l : List Act) (x i : Nat) : Prop := kd l i = 4 ∧ Pst l i x ∧ ∀ e, e < l.length → kd l e = 5 → cl l e = cl l i → ¬ Pst l e x
/-- The highest, and of these that of the greatest number. -/
def Best (l : List Act) (g : List Int) (S : Nat → Prop) (k : Nat) (v : Int) : Prop := (v = -1 ∧ ∀ i, i < k → ¬ S i) ∨ ∃ i : Nat, i < k ∧ v = (i : Int) ∧ S i ∧ ∀ j, j < k → S j → g.getD j default < g.getD i default ∨ (g.getD j default = g.getD i default ∧ cl l j ≤ cl l i)
def bestV (l : List Act) (v : Int) : Int := if v < 0 then 0 else cl l v.toNat
theorem Best.uniq {l : List Act} {g : List Int} {S : Nat → Prop} {k : Nat} {v w : Int} (h : Best l g S k v) (q : Best l g S k w) : bestV l v = bestV l w := by
  rcases h with ⟨h1, h2⟩ | ⟨i, h1, h2, h3, h4⟩ <;> rcases q with ⟨q1, q2⟩ | ⟨j, q1, q2, q3, q4⟩
  · rw [h1, q1]
  · exact absurd q3 (h2 j q1)
  · exact absurd h3 (q2 i h1)
  · have e1 : bestV l v = cl l i := by unfold bestV; rw [h2, if_neg (by omega), Int.toNat_natCast]
    have e2 : bestV l w = cl l j := by unfold bestV; rw [q2, if_neg (by omega), Int.toNat_natCast]
    rw [e1, e2]
    rcases h4 j q1 q3 with a | a <;> rcases q4 i h1 h3 with b | b <;> omega

theorem z29_t {n : Int} {l : List Act} (hok : Ok n l) (hR : RA l) {m : List (List Bool)} (hm : GMat l m) {g : List Int} (hg : GHgt l g) {b : Nat} (hb : b < l.length) (hk : kd l b = 4) : Tot (z29 l m g (cl l b)) fun r => ∃ v, Best l g (WithinE l b) l.length v ∧ r = bestV l v := by
  unfold z29
  rw [find_4 hok hR hb hk, toNat_len]
  simp only [Option.bind_some]
  have hmb := hm.2 b hb
  have hmlen := hm.1
  refine (tot_rng (fun i s => Best l g (WithinE l b) i s) (.inl ⟨rfl, fun i hi => absurd hi (by omega)⟩) fun i s hi H => ?_).bind fun o ho => ?_
  · unfold z29_b0
    have ekx : (l.getD i default).2.1 = kd l i := rfl
    have ecx : (l.getD i default).2.2.2.1 = cl l i := rfl
    have hskip : ∀ {i}, ¬ WithinE l b i → ∀ {s}, Best l g (WithinE l b) i s → Best l g (WithinE l b) (i + 1) s := fun {i} hn {s} H => by
      rcases H with ⟨h1, h2⟩ | ⟨j, h1, h2, h3, h4⟩
      · refine .inl ⟨h1, fun j hj => ?_⟩
        rcases Nat.lt_or_ge j i with q | q
        · exact h2 j q
        · rw [show j = i by omega]; exact hn
      · refine .inr ⟨j, by omega, h2, h3, fun x hx hs => ?_⟩
        rcases Nat.lt_or_ge x i with q | q
        · exact h4 x q hs
        · rw [show x = i by omega] at hs; exact absurd hs hn
    refine Tot.bind (Q := fun o => ∃ s', o = .inl s' ∧ Best l g (WithinE l b) (i + 1) s') ?_ fun o ho => ?_
    · refine tot_ix hi ?_
      rw [ix_getD (show b < m.length by omega), Option.getD_some, ix_getD (show i < (m.getD b default).length by rw [hmb.1]; exact hi), ekx, ecx]
      simp only [Option.isSome_some, Bool.or_true, cond_true, Option.getD_some]
      refine tot_if (fun h => tot_some ⟨s, rfl, hskip (fun q => ?_) H⟩) (fun h => ?_)
      · rw [Bool.or_eq_true, Bool.or_eq_true, Bool.not_eq_true', Bool.not_eq_true', decide_eq_false_iff_not, decide_eq_true_eq] at h
        rcases h with (h | h) | h
        · exact h q.1
        · have := begin_uniq hok (.inl rfl) hi hb q.1 hk h
          have := q.2.1.lt
          omega
        · rw [(hmb.2 i hi).2 q.2.1] at h; cases h
      · rw [Bool.or_eq_false_iff, Bool.or_eq_false_iff, Bool.not_eq_false', Bool.not_eq_false', decide_eq_true_eq, decide_eq_false_iff_not] at h
        obtain ⟨⟨h1, h2⟩, h3⟩ := h
        have hp : Pst l i b := (hmb.2 i hi).1 h3
        refine (find_k hok hR (.inr rfl) (cl l i)).bind fun e he => ?_
        have hcond : (!(decide (0 ≤ e)) || Option.isSome (ix (m.getD b default) e)) = true ∧ ((decide (0 ≤ e) && ((ix (m.getD b default) e).getD default)) = true ↔ ¬ WithinE l b i) := by
          rcases he with ⟨e1, e2⟩ | ⟨x, e1, e2, e3, e4⟩
          · refine ⟨by rw [e1]; rfl, ?_⟩
            rw [show decide (0 ≤ e) = false by rw [e1]; rfl, Bool.false_and]
            exact ⟨fun q => (by cases q), fun q => absurd ⟨h1, hp, fun y hy h5 h6 => absurd ⟨h5, h6⟩ (e2 y hy)⟩ q⟩
          · rw [e2, ix_getD (show x < (m.getD b default).length by rw [hmb.1]; exact e1), Option.getD_some]
            refine ⟨by simp, ?_⟩
            rw [Bool.and_eq_true, decide_eq_true_eq, hmb.2 x e1]
            constructor
            · rintro ⟨_, q⟩ w; exact w.2.2 x e1 e3 e4 q
            · intro q
              refine ⟨by omega, Classical.byContradiction fun w => q ⟨h1, hp, fun y hy h5 h6 => ?_⟩⟩
              rw [begin_uniq hok (.inr rfl) hy e1 h5 e3 (h6.trans e4.symm)]; exact w
        refine tot_need hcond.1 (tot_if (fun h => tot_some ⟨s, rfl, hskip (hcond.2.1 h) H⟩) (fun h => ?_))
        have hw : WithinE l b i := Classical.byContradiction fun q => by rw [hcond.2.2 q] at h; cases h
        have hnew : (∀ j, j < i → WithinE l b j → g.getD j default < g.getD i default ∨ (g.getD j default = g.getD i default ∧ cl l j ≤ cl l i)) → Best l g (WithinE l b) (i + 1) (i : Int) := fun q => .inr ⟨i, by omega, rfl, hw, fun j hj hs => by
          rcases Nat.lt_or_ge j i with k | k
          · exact q j k hs
          · rw [show j = i by omega]; exact .inr ⟨rfl, Int.le_refl _⟩⟩
        rw [ix_getD (show i < g.length by rw [hg.len]; exact hi)]
        rcases H with ⟨e1, e2⟩ | ⟨j, j1, j2, j3, j4⟩
        · rw [show decide (s < 0) = true by rw [e1]; rfl]
          simp only [Bool.not_true, Bool.not_false, Bool.true_or, Bool.false_and, cond_true]
          exact tot_some ⟨_, rfl, hnew fun j hj hs => absurd hs (e2 j hj)⟩
        · rw [j2, show decide ((j : Int) < 0) = false by rw [decide_eq_false_iff_not]; omega, ix_getD (show j < g.length by rw [hg.len]; omega), ix_getD (show j < l.length by omega)]
          simp only [Option.isSome_some, Bool.or_true, cond_true, Option.getD_some, Bool.false_or]
          have ecj : (l.getD j default).2.2.2.1 = cl l j := rfl
          refine tot_if (fun h => ?_) (fun h => ?_)
          · rw [Bool.or_eq_true, Bool.and_eq_true, decide_eq_true_eq, decide_eq_true_eq, decide_eq_true_eq] at h
            replace h : g.getD j default < g.getD i default ∨ g.getD i default = g.getD j default ∧ cl l j < cl l i := h
            refine tot_some ⟨_, rfl, hnew fun x hx hs => ?_⟩
            rcases j4 x hx hs with q | q <;> rcases h with w | w <;> omega
          · rw [Bool.or_eq_false_iff, Bool.and_eq_false_iff, decide_eq_false_iff_not, decide_eq_false_iff_not, decide_eq_false_iff_not] at h
            replace h : ¬ g.getD j default < g.getD i default ∧ (¬ g.getD i default = g.getD j default ∨ ¬ cl l j < cl l i) := h
            refine tot_some ⟨_, rfl, .inr ⟨j, by omega, rfl, j3, fun x hx hs => ?_⟩⟩
            rcases Nat.lt_or_ge x i with k | k
            · exact j4 x k hs
            · rw [show x = i by omega]; omega
    · obtain ⟨s', rfl, h⟩ := ho
      exact tot_some ⟨_, rfl, h⟩
  · obtain ⟨v, rfl, H⟩ := ho
    simp only
    refine tot_if (fun h => tot_some ⟨v, H, ?_⟩) (fun h => ?_)
    · unfold bestV; rw [if_pos (of_decide_eq_true h)]
    · have h := of_decide_eq_false h
      rcases H with ⟨e1, e2⟩ | ⟨j, j1, j2, j3, j4⟩
      · omega
      · rw [j2]
        refine tot_ix j1 (tot_some ⟨(j : Int), .inr ⟨j, j1, rfl, j3, j4⟩, ?_⟩)
        unfold bestV; rw [if_neg (by omega), Int.toNat_natCast]; rfl

theorem parF_best {w : Nat → Prop} {hh nm : Nat → Int} {N : Nat} (h0 : ∀ j, j < N → 0 ≤ hh j) (hn : ∀ i j, i < j → j < N → nm i < nm j) : ∀ {k : Nat}, k ≤ N → (parF w hh nm k = (0, -1) ∧ ∀ j, j < k → ¬ w j) ∨ ∃ j, j < k ∧ w j ∧ parF w hh nm k = (nm j, hh j) ∧ ∀ x, x < k → w x → hh x < hh j ∨ (hh x = hh j ∧ nm x ≤ nm j) := by
  intro k
  induction k with
  | zero => intro _; exact .inl ⟨rfl, fun j hj => absurd hj (by omega)⟩
  | succ k ih =>
    intro hk
    have ih := ih (by omega)
    have hk0 := h0 k (by omega)
    simp only [parF]
    by_cases c : w k ∧ (parF w hh nm k).2 ≤ hh k
    · rw [if_pos c]
      refine .inr ⟨k, by omega, c.1, rfl, fun x hx hw => ?_⟩
      rcases Nat.lt_or_ge x k with q | q
      · rcases ih with ⟨e, h2⟩ | ⟨j, j1, j2, j3, j4⟩
        · exact absurd hw (h2 x q)
        · have c2 := c.2
          rw [j3] at c2
          have := hn x k q (by omega)
          rcases j4 x q hw with a | a <;> simp only at c2 <;> omega
      · rw [show x = k by omega]; exact .inr ⟨rfl, Int.le_refl _⟩
    · rw [if_neg c]
      rcases ih with ⟨e, h2⟩ | ⟨j, j1, j2, j3, j4⟩
      · refine .inl ⟨e, fun j hj hw => ?_⟩
        rcases Nat.lt_or_ge j k with q | q
        · exact h2 j q hw
        · rw [show j = k by omega] at hw
          exact c ⟨hw, by rw [e]; simp only; omega⟩
      · refine .inr ⟨j, by omega, j2, j3, fun x hx hw => ?_⟩
        rcases Nat.lt_or_ge x k with q | q
        · exact j4 x q hw
        · rw [show x = k by omega] at hw ⊢
          left
          rw [j3] at c
          exact Int.not_le.1 fun q => c ⟨hw, q⟩

theorem numC_lt {l : List Act} {cs : List (Int × Int × Int)} (h : CallsOk l cs) {i j : Nat} (hi : i < j) (hj : j < cs.length) : numC cs i < numC cs j := by
  have := List.pairwise_iff_getElem.1 h.asc i j (by simp; omega) (by simpa using hj) hi
  rw [List.getElem_map, List.getElem_map] at this
  unfold numC
  rwa [List.getD_eq_getElem?_getD, List.getD_eq_getElem?_getD, List.getElem?_eq_getElem (show i < cs.length by omega), List.getElem?_eq_getElem hj]
theorem bgC_ok {l : List Act} {cs : List (Int × Int × Int)} (h : CallsOk l cs) {i : Nat} (hi : i < cs.length) : bgC cs i < l.length ∧ kd l (bgC cs i) = 4 ∧ cl l (bgC cs i) = numC cs i := by
  obtain ⟨b, b1, b2, b3, b4, _⟩ := h.each i hi
  have e : bgC cs i = b := by unfold bgC; rw [b2, Int.toNat_natCast]
  rw [e]; exact ⟨b1, b3, b4⟩
theorem within_iff {n : Int} {l : List Act} (hok : Ok n l) {cs : List (Int × Int × Int)} (h : CallsOk l cs) {i j : Nat} (hj : j < cs.length) : Within l cs i j ↔ WithinE l (bgC cs i) (bgC cs j) := by
  obtain ⟨c1, c2, c3⟩ := bgC_ok h hj
  obtain ⟨b, b1, b2, b3, b4, he⟩ := h.each j hj
  have ee : enC cs j = (cs.getD j default).2.2 := rfl
  have en : (cs.getD j default).1 = numC cs j := rfl
  rw [en] at he
  unfold Within WithinE
  rw [c3, ee]
  rcases he with ⟨e1, e2⟩ | ⟨e, e1, e2, e3, e4⟩
  · rw [e1]
    exact ⟨fun q => ⟨c2, q.1, fun x hx h5 h6 => absurd ⟨h5, h6⟩ (e2 x hx)⟩, fun q => ⟨q.2.1, .inl (by decide)⟩⟩
  · rw [e2, Int.toNat_natCast]
    constructor
    · rintro ⟨q1, q2⟩
      refine ⟨c2, q1, fun x hx h5 h6 => ?_⟩
      rw [begin_uniq hok (.inr rfl) hx e1 h5 e3 (h6.trans e4.symm)]
      exact q2.resolve_left (by omega)
    · rintro ⟨_, q1, q2⟩
      exact ⟨q1, .inr (q2 e e1 e3 e4)⟩
theorem pars_best {n : Int} {l : List Act} (hok : Ok n l) {r : List (Int × Int)} {cs : List (Int × Int × Int)} {g : List Int} (H : ParsOk l r cs g) {i : Nat} (hi : i < cs.length) : ∃ v, Best l g (WithinE l (bgC cs i)) l.length v ∧ (r.getD i default).2 = bestV l v := by
  rw [H.par i hi]
  have hb := fun j hj => bgC_ok H.calls (i := j) hj
  have surj : ∀ b, b < l.length → WithinE l (bgC cs i) b → ∃ j, j < cs.length ∧ bgC cs j = b := fun b h1 h2 => by
    obtain ⟨x, x1, x2⟩ := H.calls.all b h1 h2.1
    exact ⟨x, x1, begin_uniq hok (.inl rfl) (hb x x1).1 h1 (hb x x1).2.1 h2.1 ((hb x x1).2.2.trans x2)⟩
  rcases parF_best (w := Within l cs i) (hh := fun j => g.getD (bgC cs j) default) (nm := numC cs) (N := cs.length) (fun j hj => by have := (H.hgt.rg _ (hb j hj).1).1; show (0 : Int) ≤ g.getD (bgC cs j) default; omega) (fun a b hab hb => numC_lt H.calls hab hb) (Nat.le_refl _) with ⟨e, h2⟩ | ⟨j, j1, j2, j3, j4⟩
  · rw [e]
    refine ⟨-1, .inl ⟨rfl, fun b h1 h3 => ?_⟩, rfl⟩
    obtain ⟨x, x1, rfl⟩ := surj b h1 h3
    exact h2 x x1 ((within_iff hok H.calls x1).2 h3)
  · rw [j3]
    refine ⟨(bgC cs j : Int), .inr ⟨bgC cs j, (hb j j1).1, rfl, (within_iff hok H.calls j1).1 j2, fun b h1 h3 => ?_⟩, ?_⟩
    · obtain ⟨x, x1, rfl⟩ := surj b h1 h3
      rw [(hb j j1).2.2, (hb x x1).2.2]
      exact j4 x x1 ((within_iff hok H.calls x1).2 h3)
    · unfold bestV; rw [if_neg (by omega), Int.toNat_natCast, (hb j j1).2.2]

theorem z8_ok {n : Int} {l : List Act} (hok : Ok n l) (hR : RA l) {r : List (Int × Int)} {cs : List (Int × Int × Int)} {g : List Int} (H : ParsOk l r cs g) : z8 n l = some (r, 0) := by
  refine Tot.eq ?_
  unfold z8
  rw [valid_r n l hR]
  simp only [Option.bind_some, hok, decide_true, Bool.not_true, cond_false]
  have hN := hok.len
  refine (f23_t hN).bind fun m hm => (f55_t hN).bind fun g' hg' => ?_
  rw [hg'.uniq H.hgt]
  rw [toNat_len]
  refine (tot_rng (fun i (s : List Int) => s.Nodup ∧ s.length ≤ i ∧ ∀ c, c ∈ s ↔ ∃ b, b < i ∧ kd l b = 4 ∧ cl l b = c) ⟨by simp, by simp, fun c => ⟨fun q => absurd q (by simp), fun ⟨b, q, _⟩ => absurd q (by omega)⟩⟩ fun i s hi K => ?_).bind fun o ho => ?_
  · obtain ⟨K1, K2, K3⟩ := K
    unfold z8_b0
    have ekx : (l.getD i default).2.1 = kd l i := rfl
    have ecx : (l.getD i default).2.2.2.1 = cl l i := rfl
    refine Tot.bind (Q := fun o => ∃ s' : List Int, o = .inl s' ∧ (s'.Nodup ∧ s'.length ≤ i + 1 ∧ ∀ c, c ∈ s' ↔ ∃ b, b < i + 1 ∧ kd l b = 4 ∧ cl l b = c)) ?_ fun o ho => ?_
    · refine tot_ix hi ?_
      rw [ekx, ecx]
      refine tot_if (fun h => ?_) (fun h => ?_)
      · have hk : kd l i = 4 := of_decide_eq_true h
        refine tot_need (ap8 (by omega) (by simp)) (tot_some ⟨_, rfl, ?_, by simp; omega, fun c => ?_⟩)
        · rw [List.nodup_append]
          refine ⟨K1, by simp, fun u hu v hv e => ?_⟩
          simp at hv
          obtain ⟨b, b1, b2, b3⟩ := (K3 u).1 hu
          have := begin_uniq hok (.inl rfl) (show b < l.length by omega) hi b2 hk (by rw [b3, e, hv])
          omega
        · rw [List.mem_append, K3]
          constructor
          · rintro (⟨b, b1, b2, b3⟩ | q)
            · exact ⟨b, by omega, b2, b3⟩
            · exact ⟨i, by omega, hk, (List.mem_singleton.1 q).symm⟩
          · rintro ⟨b, b1, b2, b3⟩
            rcases Nat.lt_or_ge b i with q | q
            · exact .inl ⟨b, q, b2, b3⟩
            · right; rw [← b3, show b = i by omega]; simp
      · have hk : kd l i ≠ 4 := of_decide_eq_false h
        refine tot_some ⟨_, rfl, K1, by omega, fun c => ?_⟩
        rw [K3]
        constructor
        · rintro ⟨b, b1, b2, b3⟩
          exact ⟨b, by omega, b2, b3⟩
        · rintro ⟨b, b1, b2, b3⟩
          rcases Nat.lt_or_ge b i with q | q
          · exact ⟨b, q, b2, b3⟩
          · rw [show b = i by omega] at b2; exact absurd b2 hk
    · obtain ⟨s', rfl, h⟩ := ho
      exact tot_some ⟨_, rfl, h⟩
  · obtain ⟨s, rfl, K1, K2, K3⟩ := ho
    simp only
    have e74 : f74 s = some (isortI s) := by unfold f74; rw [f73_ok (by omega)]; rfl
    have hp := isortI_perm s
    have es : isortI s = cs.map (·.1) := by
      refine strict_uniq ?_ H.calls.asc fun c => ?_
      · have h1 := isortI_sorted s
        have h2 : (isortI s).Pairwise (· ≠ ·) := (hp.nodup_iff).2 K1
        exact (h1.and h2).imp fun ⟨q1, q2⟩ => by omega
      · rw [hp.mem_iff, K3]
        constructor
        · rintro ⟨b, b1, b2, rfl⟩
          obtain ⟨x, x1, x2⟩ := H.calls.all b b1 b2
          exact List.mem_map.2 ⟨_, getD_mem (d := default) x1, x2⟩
        · intro hc
          obtain ⟨y, hy, rfl⟩ := List.mem_map.1 hc
          obtain ⟨j, j1, rfl⟩ := mem_getD default hy
          obtain ⟨c1, c2, c3⟩ := bgC_ok H.calls j1
          exact ⟨_, c1, c2, c3⟩
    rw [e74, Option.bind_some, es, toNat_len]
    have hlen : (cs.map (·.1)).length = r.length := by rw [List.length_map, H.len]
    have hcl := H.calls.len
    refine (tot_rng (fun i s => s = r.take i) (by simp) fun i s hi K => ?_).bind fun o ho => ?_
    · subst K
      unfold z8_b1
      have hi' : i < cs.length := by simpa using hi
      refine tot_ix hi ?_
      obtain ⟨c1, c2, c3⟩ := bgC_ok H.calls hi'
      have enum : (cs.map (·.1)).getD i default = cl l (bgC cs i) := by
        rw [c3, getD_map (d := default) hi']; rfl
      rw [enum]
      refine (z29_t hok hR hm H.hgt c1 c2).bind fun v hv => ?_
      obtain ⟨v1, v2, rfl⟩ := hv
      refine tot_need (apOk_t (by simp; omega)) (tot_some ⟨_, rfl, ?_⟩)
      rw [take_snoc default (by omega)]
      obtain ⟨w, w1, w2⟩ := pars_best hok H hi'
      have e3 : r.getD i default = (cl l (bgC cs i), bestV l v1) := by
        rw [v2.uniq w1, ← w2, c3, ← show (r.getD i default).1 = numC cs i by rw [H.par i hi']]
      rw [e3]
    · obtain ⟨s', rfl, rfl⟩ := ho
      refine tot_some ?_
      rw [hlen, List.take_length]
end Go.Ab


set_option linter.unusedVariables false
namespace Go.Ab
open Go

/-! layer 29: trees of calls -/
theorem nDig_le : ∀ (k u : Nat), u < 10 ^ (k + 1) → Lib.nDigits u ≤ k + 1 := by
  intro k
  induction k with
  | zero => intro u h; rw [Lib.nDigits_small (by simpa using h)]; exact Nat.le_refl _
  | succ k ih =>
    intro u h
    by_cases h1 : u < 10
    · rw [Lib.nDigits_small h1]; omega
    · rw [Lib.nDigits_big h1]
      have := ih (u / 10) (by rw [Nat.pow_succ] at h; omega)
      omega
theorem itoa_len {n : Int} (h0 : 1 ≤ n) (h1 : n ≤ 9223372036854775807) : (Lib.itoa n).length ≤ 19 := by
  unfold Lib.itoa
  rw [if_neg (by omega), Lib.decDigits_length]
  exact nDig_le 18 _ (by omega)
theorem fItoa_ok {n : Int} (h0 : 1 ≤ n) (h1 : n ≤ 9223372036854775807) : fItoa n = some (Lib.itoa n) := by
  unfold fItoa
  rw [decide_eq_true (show -9223372036854775808 ≤ n by omega), decide_eq_true h1]; rfl

/-! sums -/
def sumTo (w : Nat → Nat) : Nat → Nat
  | 0 => 0
  | k + 1 => sumTo w k + w k
theorem sum_nodup (w : Nat → Nat) : ∀ (M : Nat) (L : List Nat), L.Nodup → (∀ x, x ∈ L → x < M) → (L.map w).sum ≤ sumTo w M := by
  intro M
  induction M with
  | zero =>
    intro L _ h
    cases L with
    | nil => exact Nat.le_refl _
    | cons x L => exact absurd (h x List.mem_cons_self) (by omega)
  | succ M ih =>
    intro L hn h
    simp only [sumTo]
    by_cases hm : M ∈ L
    · have hp := List.perm_cons_erase hm
      rw [(hp.map w).sum_nat, List.map_cons, List.sum_cons]
      have := ih (L.erase M) (hn.erase M) fun x hx => by
        rw [hn.mem_erase_iff] at hx
        have := h x hx.2
        omega
      omega
    · have := ih L hn fun x hx => by
        have := h x hx
        have : x ≠ M := fun e => hm (e ▸ hx)
        omega
      omega
/-- How long the text below a call may be. -/
def lenT (M : Nat) : Nat := 127 * 2 ^ M + 4 * M - 127
def wT (M m : Nat) : Nat := 133 - 2 * M + lenT m
theorem sum_wT : ∀ M, M < 41 → sumTo (wT M) M ≤ lenT M := by decide +kernel
theorem lenT_cap : ∀ M, M < 41 → lenT M ≤ 140737488355000 := by decide +kernel

theorem cntP_lt {P Q : Nat → Prop} : ∀ {k i : Nat}, (∀ a, a < k → P a → Q a) → i < k → Q i → ¬ P i → cntP P k < cntP Q k := by
  intro k
  induction k with
  | zero => intro i _ hi; omega
  | succ k ih =>
    intro i h hi hq hp
    simp only [cntP]
    rcases Nat.lt_or_ge i k with h1 | h1
    · have := ih (fun a ha => h a (by omega)) h1 hq hp
      by_cases c : P k
      · rw [if_pos c, if_pos (h k (by omega) c)]; omega
      · rw [if_neg c]; omega
    · have e : i = k := by omega
      subst e
      rw [if_neg hp, if_pos hq]
      have := cntP_le (P := P) (Q := Q) (k := i) fun a ha => h a (by omega)
      omega

/-- Calls, their parents, their begins and their texts. -/
structure Fam (l : List Act) (p : List (Int × Int)) (tx : List (Int × Str)) (bg : Nat → Nat) : Prop where
  len : p.length ≤ 40
  rg : ∀ i, i < p.length → 1 ≤ (p.getD i default).1 ∧ (p.getD i default).1 ≤ 9223372036854775807
  one : ∀ i j, i < p.length → j < p.length → (p.getD i default).1 = (p.getD j default).1 → i = j
  inj : ∀ i j, i < p.length → j < p.length → bg i = bg j → i = j
  lt : ∀ i, i < p.length → bg i < l.length
  find : ∀ i, i < p.length → f51 l 4 (p.getD i default).1 = some (bg i : Int)
  txt : ∀ i, i < p.length → (l.getD (bg i) default).2.2.2.2.length ≤ 32
  map : ∀ i, i < p.length → mget tx (p.getD i default).1 = some (l.getD (bg i) default).2.2.2.2
  par : ∀ i, i < p.length → (p.getD i default).2 = 0 ∨ ∃ j, j < p.length ∧ (p.getD i default).2 = (p.getD j default).1 ∧ bg j < bg i
noncomputable def rkC (p : List (Int × Int)) (bg : Nat → Nat) (i : Nat) : Nat := cntP (fun j => bg i < bg j) p.length
def lineC (l : List Act) (p : List (Int × Int)) (bg : Nat → Nat) (pre : Str) (i : Nat) : Str := (((pre ++ Lib.itoa (p.getD i default).1) ++ ([32] : Str)) ++ (l.getD (bg i) default).2.2.2.2) ++ ([10] : Str)
theorem rk_lt {p : List (Int × Int)} {bg : Nat → Nat} {i j : Nat} (hi : i < p.length) (hj : j < p.length) (h : bg j < bg i) : rkC p bg i < rkC p bg j :=
  cntP_lt (fun a _ q => by omega) hi h (by omega)
theorem rk_top {p : List (Int × Int)} {bg : Nat → Nat} {i : Nat} (hi : i < p.length) : rkC p bg i < p.length := by
  have h1 := cntP_lt (P := fun j => bg i < bg j) (Q := fun _ => True) (k := p.length) (fun _ _ _ => trivial) hi trivial (by omega)
  have h2 : cntP (fun _ => True) p.length ≤ p.length := cntP_len
  unfold rkC; omega
section
variable {l : List Act} {p : List (Int × Int)} {tx : List (Int × Str)} {bg : Nat → Nat} (F : Fam l p tx bg)
include F
theorem rk_inj {i j : Nat} (hi : i < p.length) (hj : j < p.length) (h : rkC p bg i = rkC p bg j) : i = j := by
  refine F.inj i j hi hj ?_
  rcases Nat.lt_trichotomy (bg i) (bg j) with q | q | q
  · have := rk_lt hj hi q; omega
  · exact q
  · have := rk_lt hi hj q; omega
theorem tree_t : ∀ (k : Nat) (v : Int) (M : Nat) (pre : Str), ((v = 0 ∧ M = p.length) ∨ ∃ i, i < p.length ∧ v = (p.getD i default).1 ∧ M = rkC p bg i) → M < k → pre.length + 2 * M ≤ 80 →
    ∃ t, z34 k l p v pre = some t ∧ t.length ≤ lenT M ∧ ∀ s : Str, s.length + lenT M ≤ 140737488355328 → z30 k v pre p s tx = some (s ++ t) := by
  intro k
  induction k with
  | zero => intro v M pre _ h; omega
  | succ k ih =>
    intro v M pre hv hM hpre
    have hM40 : M < 41 := by
      have := F.len
      rcases hv with ⟨_, h⟩ | ⟨i, h1, _, h2⟩
      · omega
      · have := rk_top (bg := bg) h1; omega
    have hkid : ∀ i, i < p.length → (p.getD i default).2 = v → rkC p bg i < M := fun i hi he => by
      rcases hv with ⟨_, h⟩ | ⟨j, h1, h2, h3⟩
      · rw [h]; exact rk_top hi
      · rw [h3]
        rcases F.par i hi with q | ⟨x, x1, x2, x3⟩
        · have := (F.rg j h1).1; omega
        · rw [F.one j x h1 x1 (by omega)]
          exact rk_lt hi x1 x3
    -- what each call gives
    obtain ⟨ch, hch⟩ := Classical.axiomOfChoice (r := fun (i : Nat) (c : Str) => i < p.length → ((p.getD i default).2 = v → ∃ t : Str, c = lineC l p bg pre i ++ t ∧ t.length ≤ lenT (rkC p bg i) ∧ z34 k l p (p.getD i default).1 (pre ++ ([32, 32] : Str)) = some t ∧ ∀ s : Str, s.length + lenT (rkC p bg i) ≤ 140737488355328 → z30 k (p.getD i default).1 (pre ++ ([32, 32] : Str)) p s tx = some (s ++ t)) ∧ ((p.getD i default).2 ≠ v → c = [])) fun i => by
      by_cases h : i < p.length ∧ (p.getD i default).2 = v
      · have hk := hkid i h.1 h.2
        obtain ⟨t, t1, t2, t3⟩ := ih (p.getD i default).1 (rkC p bg i) (pre ++ ([32, 32] : Str)) (.inr ⟨i, h.1, rfl, rfl⟩) (by omega) (by simp; omega)
        exact ⟨lineC l p bg pre i ++ t, fun _ => ⟨fun _ => ⟨t, rfl, t2, t1, t3⟩, fun q => absurd h.2 q⟩⟩
      · exact ⟨[], fun hi => ⟨fun q => absurd ⟨hi, q⟩ h, fun _ => rfl⟩⟩
    let kids : Nat → List Nat := fun k => ((List.range k).filter fun i => decide ((p.getD i default).2 = v)).map (rkC p bg)
    have hkm : ∀ n, n ≤ p.length → ((kids n).map (wT M)).sum ≤ lenT M := fun n hn => by
      refine Nat.le_trans (sum_nodup (wT M) M _ ?_ fun x hx => ?_) (sum_wT M hM40)
      · unfold List.Nodup
        rw [List.pairwise_map]
        refine List.Pairwise.imp_of_mem (fun {a b} ha hb q => ?_) (List.nodup_range.filter _ : List.Nodup _)
        have ha := List.mem_range.1 (List.mem_filter.1 ha).1
        have hb := List.mem_range.1 (List.mem_filter.1 hb).1
        exact fun e => q (rk_inj F (by omega) (by omega) e)
      · obtain ⟨i, hi, rfl⟩ := List.mem_map.1 hx
        obtain ⟨h1, h2⟩ := List.mem_filter.1 hi
        exact hkid i (by have := List.mem_range.1 h1; omega) (of_decide_eq_true h2)
    let cat : Nat → Str := fun n => ((List.range n).map ch).flatten
    have cat1 : ∀ n, cat (n + 1) = cat n ++ ch n := fun n => by
      show ((List.range (n + 1)).map ch).flatten = _
      rw [List.range_succ, List.map_append, List.flatten_append]
      show _ ++ (List.map ch [n]).flatten = _
      simp [cat]
    have kid1 : ∀ n, kids (n + 1) = kids n ++ if (p.getD n default).2 = v then [rkC p bg n] else [] := fun n => by
      show (((List.range (n + 1)).filter fun i => decide ((p.getD i default).2 = v)).map (rkC p bg)) = _
      rw [List.range_succ, List.filter_append, List.map_append]
      congr 1
      by_cases c : (p.getD n default).2 = v
      · rw [if_pos c, List.filter_cons_of_pos (by rw [decide_eq_true_eq]; exact c)]; rfl
      · rw [if_neg c, List.filter_cons_of_neg (by rw [decide_eq_true_eq]; exact c)]; rfl
    have hline : ∀ i, i < p.length → (lineC l p bg pre i).length ≤ 133 - 2 * M := fun i hi => by
      have h1 := F.txt i hi
      have h2 := itoa_len (F.rg i hi).1 (F.rg i hi).2
      unfold lineC
      rw [List.length_append, List.length_append, List.length_append, List.length_append]
      simp only [List.length_cons, List.length_nil]
      omega
    have catLen : ∀ n, n ≤ p.length → (cat n).length ≤ ((kids n).map (wT M)).sum := fun n => by
      induction n with
      | zero => intro _; exact Nat.zero_le _
      | succ n ihn =>
        intro hn
        have ihn := ihn (by omega)
        rw [cat1, kid1, List.length_append, List.map_append, List.sum_append_nat]
        by_cases c : (p.getD n default).2 = v
        · obtain ⟨t, t1, t2, _⟩ := (hch n (by omega)).1 c
          have := hline n (by omega)
          rw [if_pos c, t1, List.length_append]
          simp only [List.map_cons, List.map_nil, List.sum_cons, List.sum_nil]
          unfold wT
          unfold wT at ihn
          omega
        · rw [(hch n (by omega)).2 c, if_neg c]
          simp only [List.length_nil, List.map_nil, List.sum_nil]
          omega
    have catMax : ∀ n, n ≤ p.length → (cat n).length ≤ lenT M := fun n hn => Nat.le_trans (catLen n hn) (hkm n hn)
    have hcap := lenT_cap M hM40
    have hstep : ∀ i, i < p.length → (cat i).length + (ch i).length ≤ lenT M := fun i hi => by
      have := catMax (i + 1) (by omega)
      rwa [cat1, List.length_append] at this
    refine ⟨cat p.length, Tot.eq ?_, catMax _ (Nat.le_refl _), fun s hs => Tot.eq ?_⟩
    · unfold z34 z34_r
      rw [toNat_len]
      refine (tot_rng (fun i s => s = cat i) rfl fun i s hi H => ?_).bind fun o ho => ?_
      · subst H
        unfold z34_b0
        refine Tot.bind (Q := fun o => o = .inl (cat (i + 1))) ?_ fun o ho => ?_
        · refine tot_ix hi ?_
          have hst := hstep i hi
          refine tot_if (fun h => ?_) (fun h => ?_)
          · have c := of_decide_eq_true h
            obtain ⟨t, t1, t2, t3, _⟩ := (hch i hi).1 c
            have hl := hline i hi
            rw [t1, List.length_append] at hst
            unfold lineC at hst hl
            have h6 : ∀ {a b : Nat}, a + b ≤ 140737488355000 → strOk (a + b) = true := fun h => strOk_t (by omega)
            simp only [List.length_append] at hst hl
            rw [fItoa_ok (F.rg i hi).1 (F.rg i hi).2, Option.bind_some, F.find i hi]
            refine tot_need (h6 (by omega)) (tot_need (h6 (by simp only [List.length_append]; omega)) ?_)
            rw [Option.bind_some]
            refine tot_ix (F.lt i hi) ?_
            refine tot_need (h6 (by simp only [List.length_append]; omega)) (tot_need (h6 (by simp only [List.length_append]; omega)) (tot_need (h6 (by simp only [List.length_cons, List.length_nil]; omega)) ?_))
            rw [t3, Option.bind_some]
            refine tot_need (h6 (by simp only [List.length_append]; omega)) (tot_need (h6 (by simp only [List.length_append]; omega)) (tot_some ?_))
            rw [cat1, t1]; rfl
          · have c := of_decide_eq_false h
            refine tot_some ?_
            rw [cat1, (hch i hi).2 c, List.append_nil]
        · subst ho
          exact tot_some ⟨_, rfl, rfl⟩
      · obtain ⟨s', rfl, rfl⟩ := ho
        exact tot_some rfl
    · unfold z30 z30_r
      rw [toNat_len]
      refine (tot_rng (fun i s' => s' = s ++ cat i) (by show s = s ++ []; rw [List.append_nil]) fun i s' hi H => ?_).bind fun o ho => ?_
      · subst H
        unfold z30_b0
        refine Tot.bind (Q := fun o => o = .inl (s ++ cat (i + 1))) ?_ fun o ho => ?_
        · refine tot_ix hi ?_
          have hst := hstep i hi
          refine tot_if (fun h => ?_) (fun h => ?_)
          · have c := of_decide_eq_true h
            obtain ⟨t, t1, t2, _, t3⟩ := (hch i hi).1 c
            have hl := hline i hi
            have hk := hkid i hi c
            have hms : (cat i).length + (133 - 2 * M) + lenT (rkC p bg i) ≤ lenT M := by
              have h1 := hkm (i + 1) (by omega)
              have h2 := catLen i (by omega)
              rw [kid1, if_pos c, List.map_append, List.sum_append_nat] at h1
              simp only [List.map_cons, List.map_nil, List.sum_cons, List.sum_nil] at h1
              unfold wT at h1 h2
              omega
            have hln : (lineC l p bg pre i).length = pre.length + (Lib.itoa (p.getD i default).1).length + 1 + (l.getD (bg i) default).2.2.2.2.length + 1 := by
              unfold lineC; simp only [List.length_append, List.length_cons, List.length_nil]
            have h6 : ∀ {a b : Nat}, a + b ≤ 140737488355328 → strOk (a + b) = true := fun h => strOk_t h
            rw [fItoa_ok (F.rg i hi).1 (F.rg i hi).2, Option.bind_some, F.map i hi, Option.getD_some]
            refine tot_need (h6 (by omega)) (tot_need (h6 (by simp only [List.length_append, List.length_cons, List.length_nil]; omega)) (tot_need (h6 (by simp only [List.length_append, List.length_cons, List.length_nil]; omega)) (tot_need (h6 (by simp only [List.length_append, List.length_cons, List.length_nil]; omega)) ?_)))
            have ew : fWS (s ++ cat i) (lineC l p bg pre i) = some (((lineC l p bg pre i).length : Int), (s ++ cat i) ++ lineC l p bg pre i) := by
              unfold fWS
              rw [h6 (by rw [List.length_append]; omega)]; rfl
            unfold lineC at ew
            rw [ew, Option.bind_some]
            refine tot_need (h6 (by simp only [List.length_cons, List.length_nil]; omega)) ?_
            rw [t3 _ (by
              have : ((s ++ cat i) ++ lineC l p bg pre i).length + lenT (rkC p bg i) ≤ 140737488355328 := by
                rw [List.length_append, List.length_append]; omega
              exact this), Option.bind_some]
            refine tot_some ?_
            rw [cat1, t1]
            unfold lineC
            simp only [List.append_assoc]
          · have c := of_decide_eq_false h
            refine tot_some ?_
            rw [cat1, (hch i hi).2 c, List.append_nil]
        · subst ho
          exact tot_some ⟨_, rfl, rfl⟩
      · obtain ⟨s', rfl, rfl⟩ := ho
        exact tot_some rfl
end

theorem fam_of {n : Int} {l : List Act} (hok : Ok n l) (hR : RA l) (h40 : l.length ≤ 40) {r : List (Int × Int)} {cs : List (Int × Int × Int)} {g : List Int} (H : ParsOk l r cs g) {tx : List (Int × Str)} (ht : ∀ b, b < l.length → kd l b = 4 → mget tx (cl l b) = some (l.getD b default).2.2.2.2) : Fam l r tx (bgC cs) := by
  have hl := H.len
  have hb := fun j hj => bgC_ok H.calls (i := j) hj
  have e1 : ∀ i, i < cs.length → (r.getD i default).1 = numC cs i := fun i hi => by rw [H.par i hi]
  have hone : ∀ i j, i < cs.length → j < cs.length → numC cs i = numC cs j → i = j := fun i j hi hj e => by
    rcases Nat.lt_trichotomy i j with q | q | q
    · have := numC_lt H.calls q hj; omega
    · exact q
    · have := numC_lt H.calls q hi; omega
  constructor
  · have := H.calls.len; omega
  · intro i hi
    rw [hl] at hi
    rw [e1 i hi, ← (hb i hi).2.2]
    obtain ⟨b1, b2, b3⟩ := hb i hi
    have h1 := (code_zero (hok.2 _ b1).2).1
    have h0 : 1 ≤ cl l (bgC cs i) := Classical.byContradiction fun q => h1 (.inr (.inr ⟨.inl b2, by unfold cl at q; omega⟩))
    exact ⟨h0, (hR _ b1).2.2⟩
  · intro i j hi hj e
    rw [hl] at hi hj
    rw [e1 i hi, e1 j hj] at e
    exact hone i j hi hj e
  · intro i j hi hj e
    rw [hl] at hi hj
    exact hone i j hi hj (by rw [← (hb i hi).2.2, ← (hb j hj).2.2, e])
  · intro i hi
    rw [hl] at hi
    exact (hb i hi).1
  · intro i hi
    rw [hl] at hi
    rw [e1 i hi, ← (hb i hi).2.2]
    exact find_4 hok hR (hb i hi).1 (hb i hi).2.1
  · intro i hi
    rw [hl] at hi
    have := (code_zero (hok.2 _ (hb i hi).1).2).2.1.2
    omega
  · intro i hi
    rw [hl] at hi
    rw [e1 i hi, ← (hb i hi).2.2]
    exact ht _ (hb i hi).1 (hb i hi).2.1
  · intro i hi
    rw [hl] at hi
    obtain ⟨v, hv, e⟩ := pars_best hok H hi
    rw [e]
    rcases hv with ⟨h1, h2⟩ | ⟨b, b1, b2, b3, _⟩
    · left; rw [h1]; rfl
    · right
      obtain ⟨x, x1, x2⟩ := H.calls.all b b1 b3.1
      refine ⟨x, by omega, ?_, ?_⟩
      · rw [e1 x x1, b2]
        unfold bestV
        rw [if_neg (by omega), Int.toNat_natCast]
        exact x2.symm
      · have e2 : bgC cs x = b := begin_uniq hok (.inl rfl) (hb x x1).1 b1 (hb x x1).2.1 b3.1 ((hb x x1).2.2.trans x2)
        rw [e2]; exact b3.2.1.lt

/-- CauseTrees returns true. -/
theorem z3_t (n : Int) (l : List Act) (hR : RA l) : z3 n l = some true := by
  refine Tot.eq ?_
  unfold z3
  refine (f14_t l).bind fun x1 h1 => ?_
  refine tot_if (fun h => f8_tt (tot_some rfl)) (fun h => ?_)
  have h40 := h1 (by simpa using h)
  clear h h1
  obtain ⟨r, e, hr⟩ := f43_t n l hR
  by_cases hok : Ok n l
  rotate_left
  · have er : r = ([], 1) := (hr.resolve_right fun q => hok q.1).2
    subst er
    have e8 : z8 n l = some ([], 1) := by
      unfold z8
      rw [valid_r n l hR]
      simp [hok]
    have e9 : z9 n l = some ([], 1) := by unfold z9; rw [e]; rfl
    have e10 : z10 n l = some ([], 1) := by unfold z10; rw [e8]; rfl
    rw [e, e8, e9, e10]
    simp only [Option.bind_some, decide_true, Bool.not_true, Bool.or_self, cond_false]
    exact f8_tt (tot_some rfl)
  obtain ⟨_, hr0, cs, g, H⟩ := hr.resolve_left fun q => q.1 hok
  obtain ⟨p, c⟩ := r
  simp only at hr0 H
  subst hr0
  have e8 := z8_ok hok hR H
  have e9 : ∃ t, z9 n l = some (t, 0) ∧ z10 n l = some (t, 0) := by
    obtain ⟨o, eo, tx, rfl, htx⟩ := tot_rng (g := z9_b0 l) (n := l.length) (s := []) (fun i (s : List (Int × Str)) => ∀ b, b < i → kd l b = 4 → mget s (cl l b) = some (l.getD b default).2.2.2.2) (fun b hb => absurd hb (by omega)) (fun i s hi K => by
      unfold z9_b0
      refine Tot.bind (Q := fun o => ∃ s', o = .inl s' ∧ ∀ b, b < i + 1 → kd l b = 4 → mget s' (cl l b) = some (l.getD b default).2.2.2.2) ?_ fun o ho => ?_
      · refine tot_ix hi ?_
        have ekx : (l.getD i default).2.1 = kd l i := rfl
        have ecx : (l.getD i default).2.2.2.1 = cl l i := rfl
        rw [ekx, ecx]
        refine tot_if (fun h => ?_) (fun h => ?_)
        · have hk := of_decide_eq_true h
          refine tot_some ⟨_, rfl, fun b hb hkb => ?_⟩
          rw [mget_mset]
          by_cases c : cl l b = cl l i
          · rw [if_pos c, begin_uniq hok (.inl rfl) (show b < l.length by omega) hi hkb hk c]
          · rw [if_neg c]
            exact K b (by
              rcases Nat.lt_or_ge b i with q | q
              · exact q
              · rw [show b = i by omega] at c; exact absurd rfl c) hkb
        · have hk := of_decide_eq_false h
          refine tot_some ⟨_, rfl, fun b hb hkb => ?_⟩
          rcases Nat.lt_or_ge b i with q | q
          · exact K b q hkb
          · rw [show b = i by omega] at hkb; exact absurd hkb hk
      · obtain ⟨s', rfl, h⟩ := ho
        exact tot_some ⟨_, rfl, h⟩)
    have F := fam_of hok hR h40 H htx
    obtain ⟨t, t1, t2, t3⟩ := tree_t F (p.length + 1) 0 p.length [] (.inl ⟨rfl, rfl⟩) (by omega) (by have := F.len; simp; omega)
    refine ⟨t, ?_, ?_⟩
    · unfold z9
      rw [e]
      simp only [Option.bind_some, decide_true, Bool.not_true, cond_false, toNat_len]
      rw [eo]
      simp only [Option.bind_some]
      rw [t3 [] (by have := lenT_cap p.length (by have := F.len; omega); simp; omega)]
      rfl
    · unfold z10
      rw [e8]
      simp only [Option.bind_some, decide_true, Bool.not_true, cond_false]
      rw [t1]; rfl
  obtain ⟨t, e9, e10⟩ := e9
  rw [e, e8, e9, e10]
  simp only [Option.bind_some, decide_true, Bool.not_true, Bool.or_self, cond_false, toNat_len]
  refine (tot_rng (fun _ _ => True) trivial fun k s hk _ => ?_).bind fun o ho' => ?_
  · unfold z3_b0
    refine tot_ix hk (tot_ix hk ?_)
    simp only [decide_true, Bool.and_self, Bool.not_true, cond_false]
    exact tot_some ⟨_, rfl, trivial⟩
  · obtain ⟨⟨⟩, rfl, _⟩ := ho'
    exact f8_tt (tot_some rfl)
end Go.Ab

