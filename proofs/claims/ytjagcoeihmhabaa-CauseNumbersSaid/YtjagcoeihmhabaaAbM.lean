/- Lemmas for a law of the seat: what functions of the program do, each stated as a contract of its own (module AbM). -/
import Derived.Test.YtjagcoeihmhabaaAbL
set_option linter.unusedVariables false
set_option linter.unusedSimpArgs false
namespace Go.Ab
open Go.RowKit Go.Shelf Go.Proofs Go.Eng

/-! regions whose order is drawn, with a tail that waits for the rest by way of others -/
/-- In the tail each operation waits for the one ahead. -/
def Consec (m : Nat) (ops : List Oper) : Prop := ∀ (i : Nat) (o : Oper), m < i → ops[i]? = some o → ∃ e ∈ o.after, Region.binds .any e = true ∧ e.on = i - 1
/-- What is listed has what it waits for listed. -/
def Shut (ops : List Oper) (listed : Array Bool) : Prop := ∀ (i : Nat) (o : Oper), ops[i]? = some o → listed[i]? = some true → ∀ e ∈ o.after, Region.binds .any e = true → listed[e.on]? = some true
/-- Of each operation one that waits for it, towards the tail. -/
def nextOk (m : Nat) (ops : List Oper) (nx : List Nat) : Bool := (nx.zipIdx).all (fun (q, j) => Nat.blt j q && Nat.ble q m && (match ops[q]? with
  | some o => o.after.toList.any fun e => Region.binds .any e && Nat.beq e.on j
  | none => false)) && Nat.beq nx.length m
theorem next_all {m : Nat} {ops : List Oper} {nx : List Nat} (h : nextOk m ops nx = true) {listed : Array Bool} (hs : listed.size = ops.length) (hcl : Shut ops listed) {k : Nat} {o : Oper} (hk : m ≤ k) (ho : ops[k]? = some o) (hrd : ∀ e ∈ o.after, Region.binds .any e = true → listed[e.on]? = some true) (hcons : Consec m ops) :
    ∀ j, j < m → listed[j]? = some true := by
  simp only [nextOk, Bool.and_eq_true, List.all_eq_true] at h
  obtain ⟨h1, h2⟩ := h
  have h2 := Nat.eq_of_beq_eq_true h2
  -- the tail's first operation is listed, or it is this one
  have hm : m = k ∨ listed[m]? = some true := by
    have key : ∀ d, m + d = k → m = k ∨ listed[m]? = some true := by
      intro d hd
      by_cases e : d = 0
      · left; omega
      · right
        have : ∀ q, q < d → listed[k - 1 - q]? = some true := by
          intro q
          induction q with
          | zero =>
            intro _
            obtain ⟨e, he, hb, hon⟩ := hcons k o (by omega) ho
            have := hrd e he hb
            rw [hon] at this; simpa using this
          | succ q ih =>
            intro hq
            have h3 := ih (by omega)
            have hlt := (Array.getElem?_eq_some_iff.1 h3).1
            have ho' : ops[k - 1 - q]? = some (ops[k - 1 - q]'(by omega)) := List.getElem?_eq_getElem _
            obtain ⟨e, he, hb, hon⟩ := hcons _ _ (by omega) ho'
            have := hcl _ _ ho' h3 e he hb
            rw [hon] at this
            rw [show k - 1 - (q + 1) = k - 1 - q - 1 by omega]; exact this
        have := this (d - 1) (by omega)
        rwa [show k - 1 - (d - 1) = m by omega] at this
    exact key (k - m) (by omega)
  have key : ∀ d j, m - j ≤ d → j < m → listed[j]? = some true := by
    intro d
    induction d with
    | zero => intro j h1 h2; omega
    | succ d ih =>
      intro j hd hj
      obtain ⟨q, hq⟩ : ∃ q, nx[j]? = some q := ⟨_, List.getElem?_eq_getElem (by omega)⟩
      have h3 := h1 (q, j) (by rw [List.mem_zipIdx_iff_getElem?]; simpa using hq)
      simp only [Bool.and_eq_true, Nat.blt_eq] at h3
      obtain ⟨⟨h4, h5⟩, h6⟩ := h3
      have h5 := Nat.le_of_ble_eq_true h5
      split at h6
      · rename_i o' ho'
        rw [List.any_eq_true] at h6
        obtain ⟨e, he, hb⟩ := h6
        simp only [Bool.and_eq_true] at hb
        have hon := Nat.eq_of_beq_eq_true hb.2
        have hq' : (∀ e ∈ o'.after, Region.binds .any e = true → listed[e.on]? = some true) := by
          rcases Nat.lt_or_ge q m with h7 | h7
          · exact hcl q o' ho' (ih q (by omega) h7)
          · have hqm : q = m := by omega
            subst hqm
            rcases hm with rfl | hm
            · rw [ho] at ho'; cases ho'; exact hrd
            · exact hcl _ o' ho' hm
        rw [← hon]; exact hq' e (Array.mem_toList_iff.1 he) hb.1
      · cases h6
  exact fun j hj => key m j (by omega) hj
theorem shut_set {ops : List Oper} {listed : Array Bool} (hcl : Shut ops listed) (hs : listed.size = ops.length) {i : Nat} {o : Oper} (ho : ops[i]? = some o) (hrd : ∀ e ∈ o.after, Region.binds .any e = true → listed[e.on]? = some true) : Shut ops (listed.setIfInBounds i true) := by
  have hset : ∀ (j : Nat), listed[j]? = some true → (listed.setIfInBounds i true)[j]? = some true := by
    intro j hj
    by_cases e : i = j
    · subst e; rw [Array.getElem?_setIfInBounds_self_of_lt (Array.getElem?_eq_some_iff.1 hj).1]
    · rw [Array.getElem?_setIfInBounds_ne e]; exact hj
  intro j o' ho' hj e he hb
  by_cases e1 : i = j
  · subst e1
    rw [ho] at ho'; cases ho'
    exact hset _ (hrd e he hb)
  · rw [Array.getElem?_setIfInBounds_ne e1] at hj
    exact hset _ (hcl j o' ho' hj e he hb)

section
variable {P : Program} {N : Ev} {Q : Post} {l : Fr} {w : World}
theorem ready_tail2 {ops : List Oper} {m : Nat} (hch : Consec m ops) (hback : ∀ (i : Nat) (o : Oper), ops[i]? = some o → ∀ e ∈ o.after, Region.binds .any e = true → e.on < i) {listed : Array Bool} (hs : listed.size = ops.length) {k : Nat} (hk : m ≤ k)
    (hl : ∀ j, j < ops.length → listed[j]? = some (decide (j < k))) : Region.ready .any ops.toArray listed = if k < ops.length then [k] else [] := by
  have hmem : ∀ i, i ∈ Region.ready .any ops.toArray listed ↔ i < ops.length ∧ i = k := by
    intro i
    simp only [Region.ready, List.mem_filter, List.mem_range, List.size_toArray]
    constructor
    · rintro ⟨hi, h⟩
      refine ⟨hi, ?_⟩
      rw [Bool.and_eq_true] at h
      obtain ⟨h1, h2⟩ := h
      have ho0 : ops[i]? = some (ops[i]'hi) := List.getElem?_eq_getElem hi
      have ho : ops.toArray[i]? = some (ops[i]'hi) := by simp
      have hik : ¬ i < k := by
        intro hik
        simp [Array.getD_eq_getD_getElem?, hl i hi, hik] at h1
      rcases Nat.lt_or_ge k i with h3 | h3
      · exfalso
        obtain ⟨e, he, hb, hon⟩ := hch i _ (by omega) ho0
        simp only [ho, Option.map_some, Option.getD_some, Array.all_eq_true'] at h2
        have := h2 e he
        have hkl : i - 1 < ops.length := by omega
        have hnk : ¬ i - 1 < k := by omega
        simp [hb, hon, Array.getD_eq_getD_getElem?, hl (i - 1) hkl] at this
        omega
      · omega
    · rintro ⟨hi, rfl⟩
      refine ⟨hi, ?_⟩
      have ho0 : ops[i]? = some (ops[i]'hi) := List.getElem?_eq_getElem hi
      have ho : ops.toArray[i]? = some (ops[i]'hi) := by simp
      rw [Bool.and_eq_true]
      refine ⟨by simp [Array.getD_eq_getD_getElem?, hl i hi], ?_⟩
      simp only [ho, Option.map_some, Option.getD_some, Array.all_eq_true']
      intro e he
      by_cases hb : Region.binds .any e = true
      · have hlt := hback i _ ho0 e he hb
        simp [hb, Array.getD_eq_getD_getElem?, hl e.on (by omega), hlt]
      · simp [hb]
  have hnd : (Region.ready .any ops.toArray listed).Nodup := by
    unfold Region.ready
    exact List.Pairwise.filter _ List.nodup_range
  generalize Region.ready .any ops.toArray listed = r at hmem hnd
  match r, hmem, hnd with
  | [], hmem, _ =>
    by_cases h : k < ops.length
    · have := (hmem k).2 ⟨h, rfl⟩; cases this
    · rw [if_neg h]
  | [x], hmem, _ =>
    have := (hmem x).1 (by simp)
    obtain ⟨h1, rfl⟩ := this
    rw [if_pos h1]
  | x :: y :: r, hmem, hnd =>
    have h1 := (hmem x).1 (by simp)
    have h2 := (hmem y).1 (by simp)
    have hxy : x = y := by omega
    subst hxy
    simp at hnd

theorem tail_any2 {ops : List Oper} {m : Nat} (hch : Consec m ops) (hback : ∀ (i : Nat) (o : Oper), ops[i]? = some o → ∀ e ∈ o.after, Region.binds .any e = true → e.on < i) :
    ∀ (fuel k : Nat) (listed : Array Bool) (a : Act) (W : World), m ≤ k → k + fuel ≥ ops.length → k ≤ ops.length → listed.size = ops.length → (∀ j, j < ops.length → listed[j]? = some (decide (j < k))) →
      wpListIn (FW N.ro) 0 P ops.toArray (up N Q) (ops.drop k) a W → wpAnyIn (FW N.ro) 0 P .any ops.toArray (up N Q) fuel listed a W := by
  intro fuel
  induction fuel with
  | zero =>
    intro k listed a W hmk hkf hkl hs hl h
    have hk : k = ops.length := by omega
    subst hk
    rw [List.drop_length] at h
    refine ⟨?_, h⟩
    rw [ready_tail2 hch hback hs hmk hl, if_neg (by omega)]
  | succ fuel ih =>
    intro k listed a W hmk hkf hkl hs hl h
    by_cases hk : k < ops.length
    · refine ⟨fun hr => ?_, ?_⟩
      · rw [ready_tail2 hch hback hs hmk hl, if_pos hk] at hr; cases hr
      · intro i hi
        rw [ready_tail2 hch hback hs hmk hl, if_pos hk] at hi
        simp only [List.mem_singleton] at hi
        subst hi
        rw [List.drop_eq_getElem_cons hk] at h
        have ho : ops.toArray[i]? = some (ops[i]'hk) := by simp [List.getElem?_eq_getElem hk]
        have hl' : ∀ j, j < ops.length → (listed.setIfInBounds i true)[j]? = some (decide (j < i + 1)) := by
          intro j hj
          by_cases e : i = j
          · subst e
            rw [Array.getElem?_setIfInBounds_self_of_lt (by omega)]; simp
          · rw [Array.getElem?_setIfInBounds_ne e, hl j hj]
            congr 1
            by_cases h1 : j < i
            · simp [h1]; omega
            · simp [h1]; omega
        have hnext : ∀ a' W', wpListIn (FW N.ro) 0 P ops.toArray (up N Q) (ops.drop (i + 1)) a' W' → wpAnyIn (FW N.ro) 0 P .any ops.toArray (up N Q) fuel (listed.setIfInBounds i true) a' W' :=
          fun a' W' h' => ih (i + 1) _ a' W' (by omega) (by omega) (by omega) (by simp [hs]) hl' h'
        unfold wpOpIn
        rw [ho]
        simp only []
        unfold wpListIn at h
        split
        · rename_i hw
          rw [if_pos hw] at h
          exact Oper.wpIn_mono hnext h
        · rename_i hw
          rw [if_neg hw] at h
          exact ⟨h.1, hnext _ _ h.2⟩
    · have hk' : k = ops.length := by omega
      subst hk'
      rw [List.drop_length] at h
      refine ⟨fun _ => h, ?_⟩
      intro i hi
      rw [ready_tail2 hch hback hs hmk hl, if_neg hk] at hi
      cases hi

theorem draw_tail2 {S : World → World → Prop} (hS : SR S) {ops : List Oper} {m : Nat} (hm : m ≤ ops.length) {Φ : List VP} {dep : List (List Nat)} {lb : Fr} (hok : drawOk N.n (ops.take m) dep lb = true) (hch : Consec m ops) {nx : List Nat} (hnx : nextOk m ops nx = true) (hback : ∀ (i : Nat) (o : Oper), ops[i]? = some o → ∀ e ∈ o.after, Region.binds .any e = true → e.on < i)
    (hΦ : Φ.length = m) (hmono : Monos S Φ) (hob : Obs P N S (ops.take m) Φ Q lb w (ops.take m) Φ dep)
    (hfin : ∀ a W listed, Mid N S (ops.take m) Φ lb w listed a W → (∀ i, i < m → listed[i]? = some true) → wpListIn (FW N.ro) 0 P ops.toArray (up N Q) (ops.drop m) a W) :
    ∀ (fuel : Nat) (listed : Array Bool) (a : Act) (W : World), Mid N S (ops.take m) Φ lb w listed a W → listed.size = ops.length → Shut ops listed → (∀ j, m ≤ j → j < ops.length → listed[j]? = some false) → (listed.toList.filter (! ·)).length ≤ fuel →
      wpAnyIn (FW N.ro) 0 P .any ops.toArray (up N Q) fuel listed a W := by
  have hlen : (ops.take m).length = m := by simp; omega
  have htk : ∀ (k : Nat) (o : Oper), (ops.take m)[k]? = some o → ops.toArray[k]? = some o := by
    intro k o h
    rw [List.getElem?_take] at h
    split at h
    · simpa using h
    · cases h
  intro fuel
  induction fuel with
  | zero =>
    intro listed a W hmid hs hcl hB hf
    have hnil : ∀ i, i < ops.length → listed[i]? = some true := by
      intro i hi
      have hfl : listed.toList.filter (! ·) = [] := List.eq_nil_of_length_eq_zero (by omega)
      rw [List.filter_eq_nil_iff] at hfl
      have hlt : i < listed.size := by omega
      have hm := hfl listed[i] (by simp)
      rw [Array.getElem?_eq_getElem hlt]
      simpa using hm
    have hmn : m = ops.length := by
      rcases Nat.lt_or_ge m ops.length with h | h
      · have h1 := hnil m h
        rw [hB m (Nat.le_refl _) h] at h1; cases h1
      · omega
    refine tail_any2 hch hback 0 ops.length listed a W (by omega) (by omega) (by omega) hs (fun j hj => by rw [hnil j hj]; simp [hj]) ?_
    have := hfin a W listed hmid (fun i hi => hnil i (by omega))
    rwa [hmn] at this
  | succ fuel ih =>
    intro listed a W hmid hs hcl hB hf
    by_cases hall : ∀ i, i < m → listed[i]? = some true
    · -- the line begins
      have hl : ∀ j, j < ops.length → listed[j]? = some (decide (j < m)) := by
        intro j hj
        by_cases h : j < m
        · rw [hall j h]; simp [h]
        · rw [hB j (by omega) hj]; simp [h]
      have hcnt : ops.length - m ≤ (listed.toList.filter (! ·)).length := by
        have e : listed.toList = listed.toList.take m ++ listed.toList.drop m := (List.take_append_drop m _).symm
        rw [e, List.filter_append, List.length_append]
        have e2 : (listed.toList.drop m).filter (! ·) = listed.toList.drop m := by
          rw [List.filter_eq_self]
          intro x hx
          obtain ⟨j, hj, rfl⟩ := List.getElem_of_mem hx
          simp only [List.length_drop, Array.length_toList] at hj
          have := hB (m + j) (by omega) (by omega)
          rw [Array.getElem?_eq_getElem (by omega)] at this
          simp only [Option.some.injEq] at this
          simp [this]
        rw [e2]; simp; omega
      exact tail_any2 hch hback (fuel + 1) m listed a W (Nat.le_refl _) (by omega) hm hs hl (hfin a W listed hmid hall)
    · refine ⟨fun hr => ?_, ?_⟩
      · -- something of the first part is ready
        exfalso
        apply hall
        intro i
        induction i using Nat.strongRecOn with
        | _ i ihi =>
          intro him
          rcases hli : listed[i]? with _ | b
          · simp at hli; omega
          · cases b with
            | true => rfl
            | false =>
              exfalso
              have hi : i < ops.length := by omega
              have : i ∈ Region.ready .any ops.toArray listed := by
                simp only [Region.ready, List.mem_filter, List.mem_range, List.size_toArray]
                refine ⟨hi, ?_⟩
                simp only [Array.getD_eq_getD_getElem?, hli, Option.getD_some, Bool.not_false, Bool.true_and]
                have ho0 : ops[i]? = some (ops[i]'hi) := List.getElem?_eq_getElem hi
                have ho : ops.toArray[i]? = some (ops[i]'hi) := by simp
                simp only [ho, Option.map_some, Option.getD_some, Array.all_eq_true']
                intro e he
                by_cases hb : Region.binds .any e = true
                · have hlt := hback i _ ho0 e he hb
                  simp only [hb, Bool.not_true, Bool.false_or]
                  rw [ihi e.on hlt (by omega)]; rfl
                · simp [hb]
              rw [hr] at this
              cases this
      · intro i hi
        simp only [Region.ready, List.mem_filter, List.mem_range, List.size_toArray] at hi
        obtain ⟨hlt, hi⟩ := hi
        rw [Bool.and_eq_true] at hi
        obtain ⟨hun, hrd⟩ := hi
        have ho : ops[i]? = some (ops[i]'hlt) := List.getElem?_eq_getElem hlt
        have ho' : ops.toArray[i]? = some (ops[i]'hlt) := by simp
        have hrd' : ∀ e ∈ (ops[i]'hlt).after, Region.binds .any e = true → listed[e.on]? = some true := by
          intro e he hb
          rw [ho'] at hrd
          simp only [Option.map_some, Option.getD_some, Array.all_eq_true'] at hrd
          have := hrd e he
          simp only [hb, Bool.not_true, Bool.false_or] at this
          rcases hlj : listed[e.on]? with _ | b
          · simp [Array.getD_eq_getD_getElem?, hlj] at this
          · simp [Array.getD_eq_getD_getElem?, hlj] at this; rw [this]
        have him : i < m := by
          rcases Nat.lt_or_ge i m with h | h
          · exact h
          · exfalso
            exact hall fun j hj => next_all hnx hs hcl h ho hrd' hch j hj
        have hun' : listed[i]? = some false := by
          have hlt' : i < listed.size := by omega
          rw [Array.getElem?_eq_getElem hlt']
          simp only [Array.getD_eq_getD_getElem?, Array.getElem?_eq_getElem hlt', Option.getD_some] at hun
          simpa using hun
        have hcount : ((listed.setIfInBounds i true).toList.filter (! ·)).length ≤ fuel := by
          have hlt' : i < listed.toList.length := by simp; omega
          have e1 : (listed.setIfInBounds i true).toList = listed.toList.set i true := by simp
          rw [e1]
          have e2 : listed.toList = listed.toList.take i ++ false :: listed.toList.drop (i + 1) := by
            have hg : listed.toList[i] = false := by
              have := hun'
              rw [Array.getElem?_eq_getElem (by simpa using hlt')] at this
              simpa using this
            rw [← hg, ← List.drop_eq_getElem_cons hlt']; simp
          have e3 : listed.toList.set i true = listed.toList.take i ++ true :: listed.toList.drop (i + 1) := by
            rw [List.set_eq_take_append_cons_drop, if_pos hlt']
          rw [e3]
          rw [e2] at hf
          simp only [List.filter_append, List.length_append, List.filter_cons, Bool.not_false, Bool.not_true, if_true, List.length_cons] at hf ⊢
          simp at hf ⊢
          omega
        have hot : (ops.take m)[i]? = some (ops[i]'hlt) := by rw [List.getElem?_take, if_pos him]; exact ho
        refine mid_step hS hok (by rw [hlen]; exact hΦ) hmono hob hmid hot hrd' (fun a' W' hm' => ih _ a' W' hm' (by simp [hs]) (shut_set hcl hs ho hrd') ?_ hcount) htk
        intro j hj hjl
        rw [Array.getElem?_setIfInBounds_ne (by omega)]
        exact hB j hj hjl

def consecOk (m : Nat) (ops : List Oper) : Bool := (ops.zipIdx).all fun (o, i) => Nat.ble i m || o.after.toList.any fun e => Region.binds .any e && Nat.beq e.on (i - 1)
theorem consec_of {m : Nat} {ops : List Oper} (h : consecOk m ops = true) : Consec m ops := by
  intro i o hi ho
  simp only [consecOk, List.all_eq_true] at h
  have := h (o, i) (by rw [List.mem_zipIdx_iff_getElem?]; simpa using ho)
  simp only [Bool.or_eq_true, List.any_eq_true, Bool.and_eq_true] at this
  rcases this with h1 | ⟨e, he, hb, hon⟩
  · have := Nat.le_of_ble_eq_true h1; omega
  · exact ⟨e, Array.mem_toList_iff.1 he, hb, Nat.eq_of_beq_eq_true hon⟩
theorem wc_draw_tail2 {id : Nat} {ops : List Oper} (m : Nat) (nx : List Nat) (hm : P.follows .mixedOrders = true) (lb : Fr) (hlb : Sub lb l) (Φ : List VP) (dep : List (List Nat)) (live : List Nat)
    (hml : Nat.ble m ops.length = true) (hok : drawOk N.n (ops.take m) dep lb = true) (hch : consecOk m ops = true) (hnx : nextOk m ops nx = true) (hback : backOk ops = true) (hΦ : Nat.beq Φ.length m = true) (hlive : (live.all fun i => Nat.blt i m) = true) (hmono : Monos (fun w W => Below w.heap.size w W) Φ) (hob : Obs P N (fun w W => Below w.heap.size w W) (ops.take m) Φ Q lb w (ops.take m) Φ dep)
    (hfin : ∀ W, Below w.heap.size w W → Gather (depAt (ops.take m) Φ live) lb W fun l' => WL P N ops.toArray Q (ops.drop m) l' W) : WC P N (.region id ops.toArray true) Q l w := by
  intro a ha hg
  refine wpIn_region_any hm ?_
  have hΦ' := Nat.eq_of_beq_eq_true hΦ
  have hml' := Nat.le_of_ble_eq_true hml
  refine draw_tail2 sr_below (w := { w with drawn := w.drawn + 1 }) hml' hok (consec_of hch) hnx (back_of hback) hΦ' hmono (hob.drawn sr_below) ?_ _ _ _ _ ?_ (by simp) ?_ ?_ ?_
  · intro a' W listed hmid hall
    obtain ⟨l', hl', h⟩ := Gather.use (hfin W (sr_below.drawn _ _ _ hmid.below)) hmid.base (live_told hmid (m := m) (by simp; omega) (by omega) hlive hall)
    exact h a' hl' hmid.good
  · refine ⟨sr_below.refl _, ha.sub hlb, hg.step rfl (fun _ _ h _ _ => h) (Nat.le_refl _), ?_⟩
    intro i o φ _ _ hi
    simp [Array.getElem?_replicate] at hi
  · intro i o _ hi
    simp [Array.getElem?_replicate] at hi
  · intro j hj hjl
    simp [Array.getElem?_replicate, hjl]
  · simp
end
section
variable {P : Program} {N : Ev} {X : Cx} {Q : APost} {st : AS}
theorem awc_draw_tail2 {id : Nat} {ops : List Oper} (q : Nat) (nx : List Nat) (hm : P.follows .mixedOrders = true) (ks : List Nat) (Ts : List TT) (dep : List (List Nat)) (live : List Nat) (hks : (ks.all fun t => (st.l.look t).isSome) = true) (hq : Nat.ble q ops.length = true) (hok : drawOkK N.n (ops.take q) dep ks = true) (hch : (consecOk q ops && nextOk q ops nx) = true) (hback : backOk ops = true) (hTs : Nat.beq Ts.length q = true) (hlv : (live.all fun i => Nat.blt i q) = true) (hdp : depsOk (ops.take q) (live :: dep) = true)
    (hob : AObs P N X (ops.take q) Ts (keepF st.l ks) st.H st.n (ops.take q) Ts dep) (hall : ∀ j ∈ live, (ttAt Ts j).1 = true) (k : AWL P N X ops.toArray Q (ops.drop q) ⟨depF (ops.take q) Ts live (keepF st.l ks), st.H, st.n⟩) : AWC P N X (.region id ops.toArray true) Q st := by
  intro fr w m ρ φ hc
  obtain ⟨lb, h1, h2, h3⟩ := keep_conc hc hks
  have hq' := Nat.le_of_ble_eq_true hq
  have hl : Ts.length = (ops.take q).length := by rw [Nat.eq_of_beq_eq_true hTs, List.length_take]; omega
  simp only [depsOk, List.all_cons, Bool.and_eq_true] at hdp
  rw [Bool.and_eq_true] at hch
  refine wc_draw_tail2 q nx hm lb h2 (Ts.map (phi X.e m ρ (φ.flatten ++ X.F))) dep live hq (draw_keys (by rw [h1]; exact hok)) hch.1 hch.2 hback (by rw [List.length_map]; exact hTs) hlv (monos_phi Ts) (obs_of hl h3 hdp.2 hob) ?_
  intro W hW
  refine gather_df (phi_at hl) hdp.1 fun l' hl' => ?_
  obtain ⟨m', h4, h5⟩ := conc_df hl' (Mem.le_refl _) (h3.grow (Mem.le_refl _) (h3.sh.ext hW)) hall
  exact k _ _ _ _ _ h5

variable {d : Nat} {T U T' : TypeId} {pos : String} {aft : Array Edge} {g : Option (Nat × Bool)} {x y : Operand}
/-! a slice against nil: what a list does not tell -/
theorem aop_eqnil {t : Ty} {xs : List t.den} {K : AS → Prop} {E : Nat} (hU : Und P T (.slice E)) (hx : aev st.l x = some (.sl t xs)) (hy : aev st.l y = some .nils) (k : ∀ b : Bool, (b = true → xs = []) → K (st.put d (.bool b))) (hN : Nat.blt d N.n = true := by rfl) : AOp P N X ⟨some d, .binOp .eql T x y T', U, pos, aft, g⟩ K st :=
  aop_of fun Q fr w m ρ φ hc K' hK => by
    obtain ⟨v, h1, h2⟩ := hc.ev hx
    obtain ⟨u, h3, h4⟩ := hc.ev hy
    simp only [RepA] at h2 h4
    subst h4
    obtain ⟨A, c, rfl, h5, h6, h7⟩ := rc_slice h2
    refine op_val (v := .bool A.isNone) rfl hN (fun ac ha => ?_) (hK _ _ _ _ _ _ (hc.put (d := d) (a := .bool A.isNone) rep_bool) (k _ (fun hb => ?_)))
    · have he : (Op.equal T (.slice A xs.length c) (.slice none 0 0)).run P w = .ok A.isNone w := by
        unfold Op.equal
        rw [show Op.maxDepth = 9999 + 1 from rfl]
        unfold Op.equalIn
        cases A <;> simp [run_underlying hU]
      simp [execOp, eqGuard, binOp, ha.eval h1, ha.eval h3, he]
    · rcases h7 with h7 | ⟨b, o, vs, rfl, _⟩
      · exact h7
      · simp at hb
end
end Go.Ab
