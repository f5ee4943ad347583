/- Lemmas for a law of the seat: what functions of the program do, each stated as a contract of its own (module AbK). -/
import Derived.Test.YtjagcoeihmhabaaAbJ
set_option linter.unusedVariables false
set_option linter.unusedSimpArgs false
namespace Go.Ab
open Go.RowKit Go.Shelf Go.Proofs Go.Eng

section
variable {P : Program} {N : Ev}
theorem text_tail {S : World → World → Prop} {Q : Post} {w : World} (hS : SR S) {ops : List Oper} {m : Nat} (hm : m ≤ ops.length) {Φ : List VP} {dep : List (List Nat)} {lb : Fr} (hok : drawOk N.n (ops.take m) dep lb = true) (hΦ : Φ.length = (ops.take m).length) (hmono : Monos S Φ) (hob : Obs P N S (ops.take m) Φ Q lb w (ops.take m) Φ dep)
    (hfin : ∀ a W listed, Mid N S (ops.take m) Φ lb w listed a W → (∀ i, i < m → listed[i]? = some true) → wpListIn (FW N.ro) 0 P ops.toArray (up N Q) (ops.drop m) a W) :
    ∀ (q k : Nat) (listed : Array Bool) (a : Act) (W : World), k + q = m → Mid N S (ops.take m) Φ lb w listed a W → listed.size = ops.length → (∀ j, j < k → listed[j]? = some true) →
      wpOpsIn (FW N.ro) 0 P ops.toArray (up N Q) (List.range' k (q + (ops.length - m))) a W := by
  have htk : ∀ (k : Nat) (o : Oper), (ops.take m)[k]? = some o → ops.toArray[k]? = some o := by
    intro k o h
    rw [List.getElem?_take] at h
    split at h
    · simpa using h
    · cases h
  intro q
  induction q with
  | zero =>
    intro k listed a W hk hmid hs hl
    have hkm : k = m := by omega
    subst hkm
    have := wpOpsIn_eq_wpListIn (F := FW N.ro) (n := 0) (P := P) (ops := ops.toArray) (Q := up N Q) (ops.drop k) k (fun j => by simp [List.getElem?_drop])
    rw [Nat.zero_add, show ops.length - k = (ops.drop k).length by simp, this]
    exact hfin a W listed hmid hl
  | succ q ih =>
    intro k listed a W hk hmid hs hl
    rw [show q + 1 + (ops.length - m) = (q + (ops.length - m)) + 1 by omega, List.range'_succ, wpOpsIn_cons]
    have ho : (ops.take m)[k]? = some ((ops.take m)[k]'(by simp; omega)) := List.getElem?_eq_getElem _
    refine mid_step hS hok hΦ hmono hob hmid ho (fun e he hb => hl _ (edges_of hok ho e he hb)) (fun a' W' hm => ih (k + 1) _ a' W' (by omega) hm (by simp [hs]) ?_) htk
    intro j hj
    by_cases e : k = j
    · subst e
      rw [Array.getElem?_setIfInBounds_self_of_lt (by omega)]
    · rw [Array.getElem?_setIfInBounds_ne e]
      exact hl j (by omega)
theorem wc_text_tail {Q : Post} {l : Fr} {w : World} {id : Nat} {ops : List Oper} (m : Nat) (lb : Fr) (hlb : Sub lb l) (Φ : List VP) (dep : List (List Nat)) (live : List Nat)
    (hml : Nat.ble m ops.length = true) (hok : drawOk N.n (ops.take m) dep lb = true) (hΦ : Nat.beq Φ.length m = true) (hlive : (live.all fun i => Nat.blt i m) = true) (hmono : Monos (fun w W => Below w.heap.size w W) Φ) (hob : Obs P N (fun w W => Below w.heap.size w W) (ops.take m) Φ Q lb w (ops.take m) Φ dep)
    (hfin : ∀ W, Below w.heap.size w W → Gather (depAt (ops.take m) Φ live) lb W fun l' => WL P N ops.toArray Q (ops.drop m) l' W) : WC P N (.region id ops.toArray false) Q l w := by
  intro a ha hg
  refine wpIn_region ?_
  have hml' := Nat.le_of_ble_eq_true hml
  have hΦ' : Φ.length = (ops.take m).length := by rw [Nat.eq_of_beq_eq_true hΦ, List.length_take]; omega
  rw [List.range_eq_range', List.size_toArray]
  have := text_tail (Q := Q) sr_below hml' hok hΦ' hmono hob ?_ m 0 (Array.replicate ops.length false) a w (by omega) ⟨sr_below.refl _, ha.sub hlb, hg, ?_⟩ (by simp) (fun j hj => absurd hj (by omega))
  · rwa [show m + (ops.length - m) = ops.length by omega] at this
  · intro a' W listed hmid hall
    obtain ⟨l', hl', h⟩ := Gather.use (hfin W hmid.below) hmid.base (live_told hmid (m := m) (by simp; omega) (by rw [hΦ', List.length_take]; omega) hlive hall)
    exact h a' hl' hmid.good
  · intro i o φ _ _ hi
    simp [Array.getElem?_replicate] at hi
end
section
variable {P : Program} {N : Ev} {X : Cx} {Q : APost} {st : AS}
/-- A region in the text's order, with guards, but for its tail. -/
theorem awc_text_tail {id : Nat} {ops : List Oper} (q : Nat) (ks : List Nat) (Ts : List TT) (dep : List (List Nat)) (live : List Nat) (hks : (ks.all fun t => (st.l.look t).isSome) = true) (hq : Nat.ble q ops.length = true) (hok : drawOkK N.n (ops.take q) dep ks = true) (hTs : Nat.beq Ts.length q = true) (hlv : (live.all fun i => Nat.blt i q) = true) (hdp : depsOk (ops.take q) (live :: dep) = true)
    (hob : AObs P N X (ops.take q) Ts (keepF st.l ks) st.H st.n (ops.take q) Ts dep) (hall : ∀ j ∈ live, (ttAt Ts j).1 = true) (k : AWL P N X ops.toArray Q (ops.drop q) ⟨depF (ops.take q) Ts live (keepF st.l ks), st.H, st.n⟩) : AWC P N X (.region id ops.toArray false) Q st := by
  intro fr w m ρ φ hc
  obtain ⟨lb, h1, h2, h3⟩ := keep_conc hc hks
  have hq' := Nat.le_of_ble_eq_true hq
  have hl : Ts.length = (ops.take q).length := by rw [Nat.eq_of_beq_eq_true hTs, List.length_take]; omega
  simp only [depsOk, List.all_cons, Bool.and_eq_true] at hdp
  refine wc_text_tail q lb h2 (Ts.map (phi X.e m ρ (φ.flatten ++ X.F))) dep live hq (draw_keys (by rw [h1]; exact hok)) (by rw [List.length_map]; exact hTs) hlv (monos_phi Ts) (obs_of hl h3 hdp.2 hob) ?_
  intro W hW
  refine gather_df (phi_at hl) hdp.1 fun l' hl' => ?_
  obtain ⟨m', h4, h5⟩ := conc_df hl' (Mem.le_refl _) (h3.grow (Mem.le_refl _) (h3.sh.ext hW)) hall
  exact k _ _ _ _ _ h5
end
end Go.Ab
