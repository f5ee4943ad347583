/- Lemmas for a law of the seat: what functions of the program do, each stated as a contract of its own (Ab3). -/
import Derived.Test.YtigjjobjdajkfaaDoorAb2
import Derived.Maps.RangeRun
set_option linter.unusedVariables false
set_option linter.unusedSimpArgs false
namespace Go.Ab
open Go.RowKit Go.Shelf Go.Proofs Go.Eng

/-! maps of what the call owns -/
section
variable {m : Mem} {ρ : List Value} {k : Ty} {v : OT} {hs hs' : List (k.den × Nat)}
end

/-! what is put in -/
end Go.Ab


set_option linter.unusedVariables false
set_option linter.unusedSimpArgs false
namespace Go.Ab
open Go.RowKit Go.Shelf Go.Proofs Go.Eng

section
variable {P : Program} {N : Ev} {X : Cx} {Q : APost} {st : AS}
variable {d : Nat} {T U T' : TypeId} {pos : String} {aft : Array Edge} {g : Option (Nat × Bool)} {x y z : Operand}

/-- Objects are told anew. -/
theorem Conc.re {fr : Fr} {w w' : World} {m m' : Mem} {ρ : List Value} {φ : List Frag} (hc : Conc X st fr w m ρ φ) (hm : m.le m') {H' : AH} {ρ2 : List Value} {φ1 φ2 : List Frag} (h1 : φ1.length = φ.length) (h2 : φ2.length = ρ2.length) (ho : ∀ (q : Nat) (h : Value) (f : Frag), ρ[q]? = some h → φ1[q]? = some f → ORep m' (ρ ++ ρ2) (H'.get q) h f) (ho2 : ∀ (q : Nat) (h : Value) (f : Frag), ρ2[q]? = some h → φ2[q]? = some f → ORep m' (ρ ++ ρ2) (H'.get (st.n + q)) h f) (hs : SH X.e w' m' (φ1.flatten ++ φ2.flatten ++ X.F)) :
    Conc X ⟨st.l, H', st.n + ρ2.length⟩ fr w' m' (ρ ++ ρ2) (φ1 ++ φ2) := by
  have hpre : ∀ (i : Nat) (h : Value), ρ[i]? = some h → (ρ ++ ρ2)[i]? = some h := fun i h hi => by
    rw [List.getElem?_append_left (List.getElem?_eq_some_iff.1 hi).1]; exact hi
  refine ⟨hc.mle.trans hm, fun i h hi => hpre i h (hc.pre i h hi), by simp [hc.nρ], by simp [h1, h2, hc.nφ], ?_, ?_, ?_⟩
  · intro t a ha
    obtain ⟨u, q1, q2⟩ := hc.slots t a ha
    exact ⟨u, q1, RepA.mono hm hpre a q2⟩
  · intro i h f hi hf
    rcases Nat.lt_or_ge i ρ.length with hl | hl
    · rw [List.getElem?_append_left hl] at hi
      rw [List.getElem?_append_left (by rw [h1, hc.nφ, ← hc.nρ]; exact hl)] at hf
      exact ho i h f hi hf
    · rw [List.getElem?_append_right hl] at hi
      rw [List.getElem?_append_right (by rw [h1, hc.nφ, ← hc.nρ]; exact hl)] at hf
      rw [show φ1.length = ρ.length by rw [h1, hc.nφ, hc.nρ]] at hf
      have := ho2 (i - ρ.length) h f hi hf
      rw [show st.n + (i - ρ.length) = i by rw [← hc.nρ]; omega] at this
      exact this
  · rw [List.flatten_append]; exact hs

def killF : List Frag → List Nat → List Frag
  | φ, [] => φ
  | φ, j :: js => killF (φ.set j []) js
theorem killF_perm : ∀ {js : List Nat} {φ : List Frag}, js.Nodup → (∀ j ∈ js, j < φ.length) → φ.flatten.Perm ((js.flatMap fun j => φ.getD j []) ++ (killF φ js).flatten) := by
  intro js
  induction js with
  | nil => intro φ _ _; simp [killF]
  | cons j js ih =>
    intro φ hnd hl
    rw [List.nodup_cons] at hnd
    have hj := hl j (by simp)
    have hg : φ[j]? = some (φ.getD j []) := by rw [List.getD_eq_getElem?_getD, List.getElem?_eq_getElem hj]; rfl
    have h1 := frag_split hg []
    have h2 := ih (φ := φ.set j []) hnd.2 (fun q hq => by simpa using hl q (by simp [hq]))
    have h3 : (js.flatMap fun q => (φ.set j []).getD q []) = js.flatMap fun q => φ.getD q [] := by
      rw [List.flatMap_def, List.flatMap_def]
      congr 1
      apply List.map_congr_left
      intro q hq
      rw [List.getD_eq_getElem?_getD, List.getD_eq_getElem?_getD, List.getElem?_set_ne (fun e : j = q => hnd.1 (by rw [e]; exact hq))]
    rw [h3] at h2
    refine h1.1.trans ?_
    rw [List.flatMap_cons, List.append_assoc]
    refine List.Perm.append_left _ ?_
    have h4 := h1.2
    rw [List.nil_append] at h4
    exact h4.symm.trans h2

end
end Go.Ab


set_option linter.unusedVariables false
set_option linter.unusedSimpArgs false
namespace Go.Ab
open Go.RowKit Go.Shelf Go.Proofs Go.Eng

section
variable {P : Program} {N : Ev} {X : Cx} {Q : APost} {st : AS}
variable {d : Nat} {T U T' : TypeId} {pos : String} {aft : Array Edge} {g : Option (Nat × Bool)} {x y z : Operand}

theorem Conc.before {fr : Fr} {w : World} {m : Mem} {ρ : List Value} {φ : List Frag} (hc : Conc X st fr w m ρ φ) {js : List Nat} (hnd : js.Nodup) (hl : ∀ j ∈ js, j < st.n) : SH X.e w m ((js.flatMap fun j => φ.getD j []) ++ ((killF φ js).flatten ++ X.F)) := by
  refine hc.sh.perm ?_
  rw [← List.append_assoc]
  exact (killF_perm hnd (fun j hj => by rw [hc.nφ]; exact hl j hj)).append_right _
end
end Go.Ab


set_option linter.unusedVariables false
set_option linter.unusedSimpArgs false
namespace Go.Ab
open Go.RowKit Go.Shelf Go.Proofs Go.Eng

/-! what is taken out -/
/-- Roots, their handles, where they lie. -/
def Roots (m : Mem) (ρ : List Value) : List AO → List Value → List Frag → Prop
  | [], [], [] => True
  | o :: os, h :: hs, g :: gs => ORep m ρ o h g ∧ Roots m ρ os hs gs
  | _, _, _ => False
theorem Roots.mono {m : Mem} {ρ ρ' : List Value} (hρ : ∀ (i : Nat) (h : Value), ρ[i]? = some h → ρ'[i]? = some h) : ∀ {os : List AO} {hs : List Value} {gs : List Frag}, Roots m ρ os hs gs → Roots m ρ' os hs gs := by
  intro os
  induction os with
  | nil => intro hs gs h; cases hs with
    | nil => cases gs with
      | nil => trivial
      | cons => exact h.elim
    | cons => exact h.elim
  | cons o os ih => intro hs gs h; cases hs with
    | nil => exact h.elim
    | cons u hs => cases gs with
      | nil => exact h.elim
      | cons g gs => exact ⟨h.1.mono (Mem.le_refl _) hρ, ih h.2⟩
theorem Roots.app {m : Mem} {ρ : List Value} : ∀ {os os' : List AO} {hs hs' : List Value} {gs gs' : List Frag}, Roots m ρ os hs gs → Roots m ρ os' hs' gs' → Roots m ρ (os ++ os') (hs ++ hs') (gs ++ gs') := by
  intro os
  induction os with
  | nil => intro os' hs hs' gs gs' h k; cases hs with
    | nil => cases gs with
      | nil => exact k
      | cons => exact h.elim
    | cons => exact h.elim
  | cons o os ih => intro os' hs hs' gs gs' h k; cases hs with
    | nil => exact h.elim
    | cons u hs => cases gs with
      | nil => exact h.elim
      | cons g gs => exact ⟨h.1, ih h.2 k⟩
theorem Roots.get {m : Mem} {ρ : List Value} : ∀ {os : List AO} {hs : List Value} {gs : List Frag}, Roots m ρ os hs gs → os.length = hs.length ∧ gs.length = hs.length ∧ ∀ (q : Nat) (h : Value) (f : Frag), hs[q]? = some h → gs[q]? = some f → ∃ o, os[q]? = some o ∧ ORep m ρ o h f := by
  intro os
  induction os with
  | nil => intro hs gs h; cases hs with
    | nil => cases gs with
      | nil => exact ⟨rfl, rfl, fun q h f hq => by simp at hq⟩
      | cons => exact h.elim
    | cons => exact h.elim
  | cons o os ih => intro hs gs h; cases hs with
    | nil => exact h.elim
    | cons u hs => cases gs with
      | nil => exact h.elim
      | cons g gs =>
        obtain ⟨h1, h2, h3⟩ := ih h.2
        refine ⟨by simp [h1], by simp [h2], fun q h' f a b => ?_⟩
        cases q with
        | zero => simp at a b; subst a b; exact ⟨o, rfl, h.1⟩
        | succ q => simpa using h3 q h' f (by simpa using a) (by simpa using b)
theorem pre_apps {ρ hs : List Value} : ∀ (i : Nat) (u : Value), ρ[i]? = some u → (ρ ++ hs)[i]? = some u := by
  intro i u hi
  rw [List.getElem?_append_left (List.getElem?_eq_some_iff.1 hi).1]; exact hi
end Go.Ab


set_option linter.unusedVariables false
set_option linter.unusedSimpArgs false
namespace Go.Ab
open Go.RowKit Go.Shelf Go.Proofs Go.Eng

section
variable {P : Program} {N : Ev} {X : Cx} {Q : APost} {st : AS}

end
end Go.Ab


set_option linter.unusedVariables false
set_option linter.unusedSimpArgs false
namespace Go.Ab
open Go.RowKit Go.Shelf Go.Proofs Go.Eng

/-! regions whose order is drawn, in which values are read ahead of a turn or behind it -/
section
variable {P : Program} {N : Ev} {Q : Post} {l : Fr} {w : World}

theorem count_set {listed : Array Bool} {i fuel : Nat} (hun : listed[i]? = some false) (hf : (listed.toList.filter (! ·)).length ≤ fuel + 1) : ((listed.setIfInBounds i true).toList.filter (! ·)).length ≤ fuel := by
  have hlt := (Array.getElem?_eq_some_iff.1 hun).1
  have hlt' : i < listed.toList.length := by simpa using hlt
  have e1 : (listed.setIfInBounds i true).toList = listed.toList.set i true := by simp
  rw [e1]
  have e2 : listed.toList = listed.toList.take i ++ false :: listed.toList.drop (i + 1) := by
    have hg : listed.toList[i] = false := by
      have := hun
      rw [Array.getElem?_eq_getElem hlt] at this
      simpa using this
    rw [← hg, ← List.drop_eq_getElem_cons hlt']; simp
  have e3 : listed.toList.set i true = listed.toList.take i ++ true :: listed.toList.drop (i + 1) := by
    rw [List.set_eq_take_append_cons_drop, if_pos hlt']
  rw [e3]
  rw [e2] at hf
  simp only [List.filter_append, List.length_append, List.filter_cons, Bool.not_false, Bool.not_true, if_true, List.length_cons] at hf ⊢
  simp at hf ⊢
  omega

/-- What is known of the values that are read late. -/
def LateA (ops : List Oper) (fl : List Nat) (Ψ : Nat → Value → Prop) (listed : Array Bool) (a : Act) : Prop :=
  ∀ j ∈ fl, listed[j]? = some true → ∀ o, ops[j]? = some o → ∃ d v, o.dst = some d ∧ a.tmps[d]? = some v ∧ Ψ j v
structure LateOk (P : Program) (N : Ev) (ops : List Oper) (m : Nat) (fl : List Nat) (Ψ : Nat → Value → Prop) (Q : Post) (l2 : Fr) (W2 : World) : Prop where
  run : ∀ j ∈ fl, ∀ o, ops[j]? = some o → o.guard = none ∧ ∃ d, o.dst = some d ∧ d < N.n ∧ l2.look d = none ∧ (∀ j' ∈ fl, ∀ o', ops[j']? = some o' → o'.dst = some d → j' = j) ∧
    ∃ ds : List Nat, (∀ k ∈ ds, k ∈ fl ∧ ∃ e ∈ o.after, Region.binds .any e = true ∧ e.on = k) ∧ ∀ a W, Below W2.heap.size W2 W → Holds N l2 a → Eng.Good N a W → (∀ k ∈ ds, ∀ o', ops[k]? = some o' → ∃ d v, o'.dst = some d ∧ a.tmps[d]? = some v ∧ Ψ k v) → ∃ l1, Holds N l1 a ∧ OpW P N o (fun l' W' => (∃ v, l'.look d = some v ∧ Ψ j v) ∧ Below W.heap.size W W') Q l1 W

theorem late_any {ops : List Oper} {m : Nat} (hml : m < ops.length) (hch : Consec m ops) (hback : ∀ (i : Nat) (o : Oper), ops[i]? = some o → ∀ e ∈ o.after, Region.binds .any e = true → e.on < i) {fl : List Nat} (hfl : ∀ j ∈ fl, j < m) {Ψ : Nat → Value → Prop} {l2 : Fr} {W2 : World}
    (hob : LateOk P N ops m fl Ψ Q l2 W2) (hnx : ∀ j ∈ fl, ∃ o, ops[m + 1]? = some o ∧ ∃ e ∈ o.after, Region.binds .any e = true ∧ e.on = j)
    (hfin : ∀ a W, Below W2.heap.size W2 W → Holds N l2 a → Eng.Good N a W → (∀ j ∈ fl, ∀ o, ops[j]? = some o → ∃ d v, o.dst = some d ∧ a.tmps[d]? = some v ∧ Ψ j v) → wpListIn (FW N.ro) 0 P ops.toArray (up N Q) (ops.drop (m + 1)) a W) :
    ∀ (fuel : Nat) (listed : Array Bool) (a : Act) (W : World), Below W2.heap.size W2 W → Holds N l2 a → Eng.Good N a W → LateA ops fl Ψ listed a → listed.size = ops.length → (∀ j, j ≤ m → j ∉ fl → listed[j]? = some true) → (∀ j, m < j → j < ops.length → listed[j]? = some false) → (listed.toList.filter (! ·)).length ≤ fuel →
      wpAnyIn (FW N.ro) 0 P .any ops.toArray (up N Q) fuel listed a W := by
  intro fuel
  have start : ∀ (fuel : Nat) (listed : Array Bool) (a : Act) (W : World), Below W2.heap.size W2 W → Holds N l2 a → Eng.Good N a W → LateA ops fl Ψ listed a → listed.size = ops.length → (∀ j, j ≤ m → listed[j]? = some true) → (∀ j, m < j → j < ops.length → listed[j]? = some false) → (listed.toList.filter (! ·)).length ≤ fuel →
      wpAnyIn (FW N.ro) 0 P .any ops.toArray (up N Q) fuel listed a W := by
    intro fuel listed a W h1 h2 h3 h4 hs hA hB hf
    have hl : ∀ j, j < ops.length → listed[j]? = some (decide (j < m + 1)) := by
      intro j hj
      by_cases h : j ≤ m
      · rw [hA j h]; simp; omega
      · rw [hB j (by omega) hj]; simp; omega
    have hcnt : ops.length - (m + 1) ≤ (listed.toList.filter (! ·)).length := by
      have e : listed.toList = listed.toList.take (m + 1) ++ listed.toList.drop (m + 1) := (List.take_append_drop _ _).symm
      rw [e, List.filter_append, List.length_append]
      have e2 : (listed.toList.drop (m + 1)).filter (! ·) = listed.toList.drop (m + 1) := by
        rw [List.filter_eq_self]
        intro x hx
        obtain ⟨j, hj, rfl⟩ := List.getElem_of_mem hx
        simp only [List.length_drop, Array.length_toList] at hj
        have := hB (m + 1 + j) (by omega) (by omega)
        rw [Array.getElem?_eq_getElem (by omega)] at this
        simp only [Option.some.injEq] at this
        simp [this]
      rw [e2]; simp; omega
    refine tail_any2 hch hback fuel (m + 1) listed a W (by omega) (by omega) (by omega) hs hl (hfin a W h1 h2 h3 fun j hj o ho => h4 j hj (hA j (by have := hfl j hj; omega)) o ho)
  induction fuel with
  | zero =>
    intro listed a W h1 h2 h3 h4 hs hA hB hf
    have hnil : ∀ i, i < ops.length → listed[i]? = some true := by
      intro i hi
      have hfl : listed.toList.filter (! ·) = [] := List.eq_nil_of_length_eq_zero (by omega)
      rw [List.filter_eq_nil_iff] at hfl
      have hlt : i < listed.size := by omega
      have hm := hfl listed[i] (by simp)
      rw [Array.getElem?_eq_getElem hlt]
      simpa using hm
    exact start 0 listed a W h1 h2 h3 h4 hs (fun j hj => hnil j (by omega)) hB hf
  | succ fuel ih =>
    intro listed a W h1 h2 h3 h4 hs hA hB hf
    by_cases hall : ∀ i, i ≤ m → listed[i]? = some true
    · exact start (fuel + 1) listed a W h1 h2 h3 h4 hs hall hB hf
    · refine ⟨fun hr => ?_, ?_⟩
      · exfalso
        apply hall
        intro i
        induction i using Nat.strongRecOn with
        | _ i ihi =>
          intro him
          rcases hli : listed[i]? with _ | b
          · simp at hli; omega
          · cases b with
            | true => rfl
            | false =>
              exfalso
              have hi : i < ops.length := by omega
              have : i ∈ Region.ready .any ops.toArray listed := by
                simp only [Region.ready, List.mem_filter, List.mem_range, List.size_toArray]
                refine ⟨hi, ?_⟩
                simp only [Array.getD_eq_getD_getElem?, hli, Option.getD_some, Bool.not_false, Bool.true_and]
                have ho0 : ops[i]? = some (ops[i]'hi) := List.getElem?_eq_getElem hi
                have ho : ops.toArray[i]? = some (ops[i]'hi) := by simp
                simp only [ho, Option.map_some, Option.getD_some, Array.all_eq_true']
                intro e he
                by_cases hb : Region.binds .any e = true
                · have hlt := hback i _ ho0 e he hb
                  simp only [hb, Bool.not_true, Bool.false_or]
                  rw [ihi e.on hlt (by omega)]; rfl
                · simp [hb]
              rw [hr] at this
              cases this
      · intro i hi
        simp only [Region.ready, List.mem_filter, List.mem_range, List.size_toArray] at hi
        obtain ⟨hlt, hi⟩ := hi
        rw [Bool.and_eq_true] at hi
        obtain ⟨hun, hrd⟩ := hi
        have ho : ops[i]? = some (ops[i]'hlt) := List.getElem?_eq_getElem hlt
        have ho' : ops.toArray[i]? = some (ops[i]'hlt) := by simp
        have hrd' : ∀ e ∈ (ops[i]'hlt).after, Region.binds .any e = true → listed[e.on]? = some true := by
          intro e he hb
          rw [ho'] at hrd
          simp only [Option.map_some, Option.getD_some, Array.all_eq_true'] at hrd
          have := hrd e he
          simp only [hb, Bool.not_true, Bool.false_or] at this
          rcases hlj : listed[e.on]? with _ | b
          · simp [Array.getD_eq_getD_getElem?, hlj] at this
          · simp [Array.getD_eq_getD_getElem?, hlj] at this; rw [this]
        have hun' : listed[i]? = some false := by
          have hlt' : i < listed.size := by omega
          rw [Array.getElem?_eq_getElem hlt']
          simp only [Array.getD_eq_getD_getElem?, Array.getElem?_eq_getElem hlt', Option.getD_some] at hun
          simpa using hun
        have him : i < m ∧ i ∈ fl := by
          rcases Nat.lt_or_ge m i with h | h
          · exfalso
            obtain ⟨e, he, hb, hon⟩ := hch i _ h ho
            have h5 := hrd' e he hb
            rw [hon] at h5
            have him : i = m + 1 := by
              rcases Nat.lt_or_ge m (i - 1) with h6 | h6
              · rw [hB (i - 1) h6 (by omega)] at h5; cases h5
              · omega
            subst him
            apply hall
            intro j hj
            by_cases hjf : j ∈ fl
            · obtain ⟨o', ho2, e', he', hb', hon'⟩ := hnx j hjf
              rw [ho] at ho2; cases ho2
              rw [← hon']; exact hrd' e' he' hb'
            · exact hA j hj hjf
          · have hif : i ∈ fl := by
              apply Classical.byContradiction
              intro hc
              rw [hA i h hc] at hun'; cases hun'
            exact ⟨hfl i hif, hif⟩
        obtain ⟨hgu, d, hd, hdN, hd2, huq, ds, hds, hop⟩ := hob.run i him.2 _ ho
        obtain ⟨l0, hl0, hop⟩ := hop a W h1 h2 h3 fun k hk o' ho3 => h4 k (hds k hk).1 (by obtain ⟨_, e, he, hb, hon⟩ := hds k hk; rw [← hon]; exact hrd' e he hb) o' ho3
        unfold wpOpIn
        rw [ho']
        simp only []
        rw [if_pos (by simp [Region.wanted, hgu])]
        refine Oper.wpIn_mono ?_ (Oper.wpIn_frame (hop a hl0 h3))
        rintro a' W' ⟨⟨l₁, hl₁, hgd, ⟨v, hv1, hv2⟩, hBW⟩, u, hu⟩
        have hget : ∀ t, d ≠ t → a'.tmps[t]? = a.tmps[t]? := by
          intro t hne
          rw [hu, hd]
          simp only [Act.put, Array.getElem?_setIfInBounds_ne hne]
        refine ih _ a' W' (sr_below.trans _ _ _ h1 hBW) ⟨?_, ?_⟩ hgd ?_ (by simp [hs]) ?_ ?_ (count_set hun' hf)
        · rw [hu, hd]; simp [Act.put, h2.size]
        · intro t x htx
          rw [hget t (by rintro rfl; rw [hd2] at htx; cases htx)]
          exact h2.slot t x htx
        · intro j hj hlj o' ho2
          by_cases e : i = j
          · subst e
            rw [ho] at ho2; cases ho2
            exact ⟨d, v, hd, hl₁.slot _ _ hv1, hv2⟩
          · rw [Array.getElem?_setIfInBounds_ne e] at hlj
            obtain ⟨d', v', q1, q2, q3⟩ := h4 j hj hlj o' ho2
            refine ⟨d', v', q1, ?_, q3⟩
            rw [hget d' (by rintro rfl; exact e (huq j hj o' ho2 q1).symm)]
            exact q2
        · intro j hj hjf
          have : i ≠ j := by rintro rfl; exact hjf him.2
          rw [Array.getElem?_setIfInBounds_ne this]
          exact hA j hj hjf
        · intro j hj hjl
          rw [Array.getElem?_setIfInBounds_ne (by omega)]
          exact hB j hj hjl
end
end Go.Ab


set_option linter.unusedVariables false
set_option linter.unusedSimpArgs false
namespace Go.Ab
open Go.RowKit Go.Shelf Go.Proofs Go.Eng

/-- Of each operation but the late ones one that waits for it, towards the turn. -/
def nextL (m : Nat) (ops : List Oper) (fl nx : List Nat) : Bool := (nx.zipIdx).all (fun (q, j) => memB j fl || (Nat.blt j q && Nat.ble q m && !memB q fl && (match ops[q]? with
  | some o => o.after.toList.any fun e => Region.binds .any e && Nat.beq e.on j
  | none => false))) && Nat.beq nx.length m
theorem nextL_all {m : Nat} {ops : List Oper} {fl nx : List Nat} (h : nextL m ops fl nx = true) {listed : Array Bool} (hcl : Shut ops listed) {o : Oper} (ho : ops[m]? = some o) (hrd : ∀ e ∈ o.after, Region.binds .any e = true → listed[e.on]? = some true) :
    ∀ j, j < m → j ∉ fl → listed[j]? = some true := by
  simp only [nextL, Bool.and_eq_true, List.all_eq_true] at h
  obtain ⟨h1, h2⟩ := h
  have h2 := Nat.eq_of_beq_eq_true h2
  have key : ∀ d j, m - j ≤ d → j < m → j ∉ fl → listed[j]? = some true := by
    intro d
    induction d with
    | zero => intro j h1 h2; omega
    | succ d ih =>
      intro j hd hj hjf
      obtain ⟨q, hq⟩ : ∃ q, nx[j]? = some q := ⟨_, List.getElem?_eq_getElem (by omega)⟩
      have h3 := h1 (q, j) (by rw [List.mem_zipIdx_iff_getElem?]; simpa using hq)
      simp only [Bool.or_eq_true, Bool.and_eq_true, Nat.blt_eq] at h3
      rcases h3 with h3 | ⟨⟨⟨h4, h5⟩, h7⟩, h6⟩
      · exact absurd (memB_iff.1 h3) hjf
      · have h5 := Nat.le_of_ble_eq_true h5
        have h7 : q ∉ fl := fun hc => by rw [memB_iff.2 hc] at h7; cases h7
        split at h6
        · rename_i o' ho'
          rw [List.any_eq_true] at h6
          obtain ⟨e, he, hb⟩ := h6
          simp only [Bool.and_eq_true] at hb
          have hon := Nat.eq_of_beq_eq_true hb.2
          rw [← hon]
          by_cases hqm : q = m
          · subst hqm
            rw [ho] at ho'; cases ho'
            exact hrd e (Array.mem_toList_iff.1 he) hb.1
          · exact hcl q o' ho' (ih q (by omega) (by omega) h7) e (Array.mem_toList_iff.1 he) hb.1
        · cases h6
  exact fun j hj hjf => key m j (by omega) hj hjf

section
variable {P : Program} {N : Ev} {Q : Post} {l : Fr} {w : World}
theorem draw_late {ops : List Oper} {m : Nat} (hml : m < ops.length) {Φ : List VP} {dep : List (List Nat)} {lb : Fr} (hok : drawOk N.n (ops.take m) dep lb = true) (hch : Consec m ops) (hback : ∀ (i : Nat) (o : Oper), ops[i]? = some o → ∀ e ∈ o.after, Region.binds .any e = true → e.on < i)
    {fl nx : List Nat} (hfl : ∀ j ∈ fl, j < m) (hnx : nextL m ops fl nx = true) (hΦ : Φ.length = m) (hmono : Monos (fun w W => Below w.heap.size w W) Φ) (hob : Obs P N (fun w W => Below w.heap.size w W) (ops.take m) Φ Q lb w (ops.take m) Φ dep)
    {live : List Nat} (hlive : ∀ j ∈ live, j < m ∧ j ∉ fl) {op : Oper} (hp : ops[m]? = some op) (hgu : op.guard = none) (hdp : ∀ j ∈ fl, ∀ o, ops[j]? = some o → ∃ d, o.dst = some d ∧ op.dst ≠ some d) {Ψ : Nat → Value → Prop} (hΨ : ∀ j ∈ fl, ∀ φ, Φ[j]? = some φ → ∀ v W, φ v W → Ψ j v) {R : Fr → World → Prop}
    (hrun : ∀ W, Below w.heap.size w W → Gather (depAt (ops.take m) Φ live) lb W fun l' => OpW P N op R Q l' W)
    (hnx2 : ∀ j ∈ fl, ∃ o, ops[m + 1]? = some o ∧ ∃ e ∈ o.after, Region.binds .any e = true ∧ e.on = j)
    (hR : ∀ l2 W2, R l2 W2 → LateOk P N ops m fl Ψ Q l2 W2 ∧ ∀ a W, Below W2.heap.size W2 W → Holds N l2 a → Eng.Good N a W → (∀ j ∈ fl, ∀ o, ops[j]? = some o → ∃ d v, o.dst = some d ∧ a.tmps[d]? = some v ∧ Ψ j v) → wpListIn (FW N.ro) 0 P ops.toArray (up N Q) (ops.drop (m + 1)) a W) :
    ∀ (fuel : Nat) (listed : Array Bool) (a : Act) (W : World), Mid N (fun w W => Below w.heap.size w W) (ops.take m) Φ lb w listed a W → listed.size = ops.length → Shut ops listed → (∀ j, m ≤ j → j < ops.length → listed[j]? = some false) → (listed.toList.filter (! ·)).length ≤ fuel →
      wpAnyIn (FW N.ro) 0 P .any ops.toArray (up N Q) fuel listed a W := by
  have hlen : (ops.take m).length = m := by simp; omega
  have htk : ∀ (k : Nat) (o : Oper), (ops.take m)[k]? = some o → ops.toArray[k]? = some o := by
    intro k o h
    rw [List.getElem?_take] at h
    split at h
    · simpa using h
    · cases h
  intro fuel
  induction fuel with
  | zero =>
    intro listed a W hmid hs hcl hB hf
    exfalso
    have hfl : listed.toList.filter (! ·) = [] := List.eq_nil_of_length_eq_zero (by omega)
    rw [List.filter_eq_nil_iff] at hfl
    have hlt : m < listed.size := by omega
    have hm := hfl listed[m] (by simp)
    have := hB m (Nat.le_refl _) hml
    rw [Array.getElem?_eq_getElem hlt] at this
    simp only [Option.some.injEq] at this
    rw [this] at hm; simp at hm
  | succ fuel ih =>
    intro listed a W hmid hs hcl hB hf
    refine ⟨fun hr => ?_, ?_⟩
    · exfalso
      have hall : ∀ i, i ≤ m → listed[i]? = some true := by
        intro i
        induction i using Nat.strongRecOn with
        | _ i ihi =>
          intro him
          rcases hli : listed[i]? with _ | b
          · simp at hli; omega
          · cases b with
            | true => rfl
            | false =>
              exfalso
              have hi : i < ops.length := by omega
              have : i ∈ Region.ready .any ops.toArray listed := by
                simp only [Region.ready, List.mem_filter, List.mem_range, List.size_toArray]
                refine ⟨hi, ?_⟩
                simp only [Array.getD_eq_getD_getElem?, hli, Option.getD_some, Bool.not_false, Bool.true_and]
                have ho0 : ops[i]? = some (ops[i]'hi) := List.getElem?_eq_getElem hi
                have ho : ops.toArray[i]? = some (ops[i]'hi) := by simp
                simp only [ho, Option.map_some, Option.getD_some, Array.all_eq_true']
                intro e he
                by_cases hb : Region.binds .any e = true
                · have hlt := hback i _ ho0 e he hb
                  simp only [hb, Bool.not_true, Bool.false_or]
                  rw [ihi e.on hlt (by omega)]; rfl
                · simp [hb]
              rw [hr] at this
              cases this
      have h1 := hall m (Nat.le_refl _)
      rw [hB m (Nat.le_refl _) hml] at h1; cases h1
    · intro i hi
      simp only [Region.ready, List.mem_filter, List.mem_range, List.size_toArray] at hi
      obtain ⟨hlt, hi⟩ := hi
      rw [Bool.and_eq_true] at hi
      obtain ⟨hun, hrd⟩ := hi
      have ho : ops[i]? = some (ops[i]'hlt) := List.getElem?_eq_getElem hlt
      have ho' : ops.toArray[i]? = some (ops[i]'hlt) := by simp
      have hrd' : ∀ e ∈ (ops[i]'hlt).after, Region.binds .any e = true → listed[e.on]? = some true := by
        intro e he hb
        rw [ho'] at hrd
        simp only [Option.map_some, Option.getD_some, Array.all_eq_true'] at hrd
        have := hrd e he
        simp only [hb, Bool.not_true, Bool.false_or] at this
        rcases hlj : listed[e.on]? with _ | b
        · simp [Array.getD_eq_getD_getElem?, hlj] at this
        · simp [Array.getD_eq_getD_getElem?, hlj] at this; rw [this]
      have hun' : listed[i]? = some false := by
        have hlt' : i < listed.size := by omega
        rw [Array.getElem?_eq_getElem hlt']
        simp only [Array.getD_eq_getD_getElem?, Array.getElem?_eq_getElem hlt', Option.getD_some] at hun
        simpa using hun
      have hcount := count_set hun' hf
      rcases Nat.lt_trichotomy i m with him | him | him
      · have hot : (ops.take m)[i]? = some (ops[i]'hlt) := by rw [List.getElem?_take, if_pos him]; exact ho
        refine mid_step sr_below hok (by rw [hlen]; exact hΦ) hmono hob hmid hot hrd' (fun a' W' hm' => ih _ a' W' hm' (by simp [hs]) (shut_set hcl hs ho hrd') ?_ hcount) htk
        intro j hj hjl
        rw [Array.getElem?_setIfInBounds_ne (by omega)]
        exact hB j hj hjl
      · subst him
        rw [ho] at hp
        cases hp
        have hnf := nextL_all hnx hcl ho hrd'
        have hdeps : ∀ p ∈ depAt (ops.take i) Φ live, toldP p a W := by
          intro p hp
          simp only [depAt, List.mem_map] at hp
          obtain ⟨j, hjm, rfl⟩ := hp
          obtain ⟨hj1, hj2⟩ := hlive j hjm
          have hoj : (ops.take i)[j]? = some ((ops.take i)[j]'(by omega)) := List.getElem?_eq_getElem (by omega)
          have hφj : Φ[j]? = some (Φ[j]'(by omega)) := List.getElem?_eq_getElem (by omega)
          exact told_dep hoj hφj (hmid.done j _ _ hoj hφj (hnf j hj1 hj2))
        obtain ⟨l', hl', hG⟩ := Gather.use (hrun W hmid.below) hmid.base hdeps
        unfold wpOpIn
        rw [ho']
        simp only []
        rw [if_pos (by simp [Region.wanted, hgu])]
        refine Oper.wpIn_mono ?_ (Oper.wpIn_frame (hG a hl' hmid.good))
        rintro a' W' ⟨⟨l₁, hl₁, hgd, hr⟩, u, hu⟩
        obtain ⟨q1, q2⟩ := hR l₁ W' hr
        refine late_any hml hch hback hfl q1 hnx2 q2 fuel _ a' W' (sr_below.refl _) hl₁ hgd ?_ (by simp [hs]) ?_ ?_ hcount
        · intro j hj hlj o hoj
          have hji : i ≠ j := by have := hfl j hj; omega
          rw [Array.getElem?_setIfInBounds_ne hji] at hlj
          obtain ⟨d, hd, hne⟩ := hdp j hj o hoj
          have hjl := hfl j hj
          have hot : (ops.take i)[j]? = some o := by rw [List.getElem?_take, if_pos hjl]; exact hoj
          have hφj : Φ[j]? = some (Φ[j]'(by omega)) := List.getElem?_eq_getElem (by omega)
          have hdn := hmid.done j o _ hot hφj hlj
          unfold toldA at hdn
          rw [hd] at hdn
          obtain ⟨v, hv, hφv⟩ := hdn
          refine ⟨d, v, hd, ?_, hΨ j hj _ hφj v W hφv⟩
          rw [hu]
          cases hx : (ops[i]'hlt).dst with
          | none => exact hv
          | some d' =>
            rw [hx] at hne
            simp only [Act.put, Array.getElem?_setIfInBounds_ne (fun e : d' = d => hne (by rw [e]))]
            exact hv
        · intro j hj hjf
          by_cases e : i = j
          · subst e; rw [Array.getElem?_setIfInBounds_self_of_lt (by omega)]
          · rw [Array.getElem?_setIfInBounds_ne e]
            exact hnf j (by omega) hjf
        · intro j hj hjl
          rw [Array.getElem?_setIfInBounds_ne (by omega)]
          exact hB j (by omega) hjl
      · exfalso
        obtain ⟨e, he, hb, hon⟩ := hch i _ him ho
        have h5 := hrd' e he hb
        rw [hon, hB (i - 1) (by omega) (by omega)] at h5
        cases h5
end
end Go.Ab


set_option linter.unusedVariables false
set_option linter.unusedSimpArgs false
namespace Go.Ab
open Go.RowKit Go.Shelf Go.Proofs Go.Eng

/-- What is told with no look at memory. -/
def flatL (n : Nat) : AV → Bool
  | .int _ _ => true
  | .bool _ => true
  | .str _ => true
  | .nils => true
  | .nilp => true
  | .nilf => true
  | .nili => true
  | .nilm => true
  | .val _ => true
  | .map i => Nat.blt i n
  | .osl i => Nat.blt i n
  | .ptr i _ => Nat.blt i n
  | .sog i => Nat.blt i n
  | _ => false
theorem flat_down {m m0 : Mem} {ρ ρ2 : List Value} {T : AV} {v : Value} (hT : flatL ρ.length T = true) (hp : ∀ (i : Nat) (h : Value), ρ[i]? = some h → ρ2[i]? = some h) (h : RepA m ρ2 T v) : RepA m0 ρ T v := by
  have back : ∀ {i : Nat} {u : Value}, i < ρ.length → ρ2[i]? = some u → ρ[i]? = some u := by
    intro i u hi hu
    have h1 : ρ[i]? = some (ρ[i]'hi) := List.getElem?_eq_getElem hi
    rw [hp _ _ h1] at hu
    rw [h1, hu]
  cases T <;> simp only [flatL, Bool.false_eq_true, Nat.blt_eq] at hT <;> simp only [RepA] at h ⊢ <;> first
    | exact h
    | exact ⟨back hT h.1, h.2⟩
    | (obtain ⟨b, h1, h2⟩ := h; exact ⟨b, back hT h1, h2⟩)

section
variable {P : Program} {N : Ev} {X : Cx} {Q : APost} {st : AS}

def lateB (ops : List Oper) (Ts : List TT) (q n : Nat) (op : Oper) (ks2 fl : List Nat) : Bool := nodupB (fl.map (dstAt ops)) && fl.all fun j => Nat.blt j q && flatL n (ttAt Ts j).2 && (ttAt Ts j).1 && !memB (dstAt ops j) ks2 && (match op.dst with
  | some d => !Nat.beq d (dstAt ops j)
  | none => true) && (match ops[j]? with
  | some o => o.guard.isNone && (match o.dst with
    | some d => Nat.beq d (dstAt ops j) && Nat.blt d N.n
    | none => false)
  | none => false) && (match ops[q + 1]? with
  | some o => o.after.toList.any fun e => Region.binds .any e && Nat.beq e.on j
  | none => false)

/-- Late values that wait for others of their kind. -/
def lateD (ops : List Oper) (dl : List (List Nat)) (fl : List Nat) : Bool := fl.all fun j => ((dl[j]?).getD []).all fun k => memB k fl && (match ops[j]? with
  | some o => o.after.toList.any fun e => Region.binds .any e && Nat.beq e.on k
  | none => false)
/-- What is owed of the values that are read late, behind the turn. -/
def LateV (P : Program) (N : Ev) (ops : List Oper) (Ts : List TT) (dl : List (List Nat)) (l : AFr) (H : AH) (n : Nat) : List Nat → Prop
  | [] => True
  | j :: r => (∀ X' o, ops[j]? = some o → AOpV P N X' o (ttAt Ts j).2 ⟨depF ops Ts ((dl[j]?).getD []) l, H, n⟩) ∧ LateV P N ops Ts dl l H n r
theorem LateV.at {ops : List Oper} {Ts : List TT} {dl : List (List Nat)} {l : AFr} {H : AH} {n : Nat} : ∀ {fl : List Nat}, LateV P N ops Ts dl l H n fl → ∀ j ∈ fl, ∀ X' o, ops[j]? = some o → AOpV P N X' o (ttAt Ts j).2 ⟨depF ops Ts ((dl[j]?).getD []) l, H, n⟩ := by
  intro fl
  induction fl with
  | nil => intro _ j hj; simp at hj
  | cons a r ih =>
    intro h j hj
    rcases List.mem_cons.1 hj with rfl | hj
    · exact h.1
    · exact ih h.2 j hj

theorem late_frame {ops : List Oper} {Ts : List TT} {a : Act} {H : AH} {n : Nat} {W : World} {m : Mem} {ρ : List Value} {φ : List Frag} : ∀ {js : List Nat} {lA : AFr} {l : Fr}, Conc X ⟨lA, H, n⟩ l W m ρ φ → Holds N l a → (∀ j ∈ js, ∃ v, a.tmps[dstAt ops j]? = some v ∧ RepA m ρ (ttAt Ts j).2 v) → ∃ l', Holds N l' a ∧ Conc X ⟨depF ops Ts js lA, H, n⟩ l' W m ρ φ := by
  intro js
  induction js with
  | nil => intro lA l hc hl _; exact ⟨l, hl, hc⟩
  | cons j r ih =>
    intro lA l hc hl h
    obtain ⟨v, h1, h2⟩ := h j (by simp)
    refine ih (l := (dstAt ops j, v) :: l) (hc.put (st := ⟨lA, H, n⟩) h2) ⟨hl.size, fun t u ht => ?_⟩ fun q hq => h q (by simp [hq])
    rw [Fr.look_cons] at ht
    split at ht
    · rename_i e; subst e; cases ht; exact h1
    · exact hl.slot t u ht

def subS (l : AFr) : AFr → Prop
  | [] => True
  | (t, a) :: r => l.look t = some a ∧ subS l r
def subH (H : AH) : AH → Prop
  | [] => True
  | (i, o) :: r => H.get i = o ∧ subH H r
theorem subS_get {l : AFr} : ∀ {l' : AFr}, subS l l' → ∀ t a, l'.look t = some a → l.look t = some a := by
  intro l'
  induction l' with
  | nil => intro _ t a h; simp [AFr.look] at h
  | cons p r ih =>
    intro h t a ht
    rw [AFr.look_cons] at ht
    split at ht
    · rename_i e; subst e; cases ht; exact h.1
    · exact ih h.2 t a ht
theorem subH_get {H : AH} : ∀ {H' : AH}, subH H H' → ∀ i, memB i (H'.map (·.1)) = true → H.get i = H'.get i := by
  intro H'
  induction H' with
  | nil => intro _ i h; simp [memB] at h
  | cons p r ih =>
    intro h i hi
    obtain ⟨j, o⟩ := p
    rw [AH.get_cons]
    by_cases e : j = i
    · subst e; rw [if_pos rfl]; exact h.1
    · rw [if_neg e]
      refine ih h.2 i ?_
      simp only [List.map_cons, memB, Bool.or_eq_true] at hi
      rcases hi with hi | hi
      · exact absurd (Nat.eq_of_beq_eq_true hi).symm e
      · exact hi
/-- The same state, told otherwise. -/
def SubA (s st2 : AS) : Prop := subS s.l st2.l ∧ subH s.H st2.H ∧ s.n = st2.n
def compH (st2 : AS) : Bool := (List.range st2.n).all fun i => memB i (st2.H.map (·.1))
theorem conc_sub {s st2 : AS} {fr : Fr} {w : World} {m : Mem} {ρ : List Value} {φ : List Frag} (h : Conc X s fr w m ρ φ) (hs : SubA s st2) (hc : compH st2 = true) : Conc X st2 fr w m ρ φ := by
  refine ⟨h.mle, h.pre, by rw [← hs.2.2]; exact h.nρ, by rw [← hs.2.2]; exact h.nφ, fun t a ha => h.slots t a (subS_get hs.1 t a ha), fun i hd f hi hf => ?_, h.sh⟩
  have hil := (List.getElem?_eq_some_iff.1 hi).1
  rw [h.nρ, hs.2.2] at hil
  rw [← subH_get hs.2.1 i ((List.all_eq_true.1 hc) i (List.mem_range.2 hil))]
  exact h.objs i hd f hi hf

theorem awc_draw_late {id : Nat} {ops : List Oper} (q : Nat) (fl nx : List Nat) (dl : List (List Nat)) (hm : P.follows .mixedOrders = true) (ks : List Nat) (Ts : List TT) (dep : List (List Nat)) (live : List Nat) (ks2 : List Nat) {op : Oper} {st2 : AS} (hks : (ks.all fun t => (st.l.look t).isSome) = true) (hq : Nat.blt q ops.length = true) (hok : drawOkK N.n (ops.take q) dep ks = true) (hch : (consecOk q ops && nextL q ops fl nx) = true) (hback : backOk ops = true) (hTs : Nat.beq Ts.length q = true) (hlv : (live.all fun i => Nat.blt i q && !memB i fl) = true) (hdp : depsOk (ops.take q) (live :: dep) = true)
    (hop : ops[q]? = some op) (hgu : op.guard = none) (hlb : lateB (N := N) ops Ts q st.n op ks2 fl = true) (hks2 : (ks2.all fun t => (st2.l.look t).isSome) = true)
    (hob : AObs P N X (ops.take q) Ts (keepF st.l ks) st.H st.n (ops.take q) Ts dep) (hall : ∀ j ∈ live, (ttAt Ts j).1 = true)
    (hld : lateD ops dl fl = true) (hlate : LateV P N ops Ts dl (keepF st2.l ks2) st2.H st2.n fl) (hcomp : compH st2 = true) (hrun : ∀ X', AOp P N X' op (fun s => SubA s st2) ⟨depF (ops.take q) Ts live (keepF st.l ks), st.H, st.n⟩)
    (k : AWL P N X ops.toArray Q (ops.drop (q + 1)) ⟨depF ops Ts fl (keepF st2.l ks2), st2.H, st2.n⟩) : AWC P N X (.region id ops.toArray true) Q st := by
  intro fr w m ρ φ hc
  obtain ⟨lb, h1, h2, h3⟩ := keep_conc hc hks
  have hq' : q < ops.length := by simpa using hq
  have hl : Ts.length = (ops.take q).length := by rw [Nat.eq_of_beq_eq_true hTs, List.length_take]; omega
  have hTl := Nat.eq_of_beq_eq_true hTs
  simp only [depsOk, List.all_cons, Bool.and_eq_true] at hdp
  rw [Bool.and_eq_true] at hch
  simp only [lateB, Bool.and_eq_true, List.all_eq_true] at hlb
  obtain ⟨hnd, hlb⟩ := hlb
  have hnd := nodup_of hnd
  have hfl : ∀ j ∈ fl, j < q := fun j hj => by have := (hlb j hj).1.1.1.1.1.1; simpa using this
  have hflat : ∀ j ∈ fl, flatL ρ.length (ttAt Ts j).2 = true := fun j hj => by rw [hc.nρ]; exact (hlb j hj).1.1.1.1.1.2
  have htt : ∀ j ∈ fl, (ttAt Ts j).1 = true := fun j hj => (hlb j hj).1.1.1.1.2
  have hk2 : ∀ j ∈ fl, memB (dstAt ops j) ks2 = false := fun j hj => by have := (hlb j hj).1.1.1.2; simpa using this
  have hpd : ∀ j ∈ fl, ∀ d, op.dst = some d → d ≠ dstAt ops j := fun j hj d hd => by
    have := (hlb j hj).1.1.2
    rw [hd] at this
    intro e; subst e; simp at this
  have hod : ∀ j ∈ fl, ∀ o, ops[j]? = some o → o.guard = none ∧ o.dst = some (dstAt ops j) ∧ dstAt ops j < N.n := fun j hj o ho => by
    have := (hlb j hj).1.2
    rw [ho] at this
    simp only [Bool.and_eq_true] at this
    obtain ⟨g1, g2⟩ := this
    cases hd : o.dst with
    | none => rw [hd] at g2; cases g2
    | some d =>
      rw [hd] at g2
      simp only [Bool.and_eq_true] at g2
      have e := Nat.eq_of_beq_eq_true g2.1
      subst e
      exact ⟨by simpa using g1, rfl, by simpa using g2.2⟩
  have hb2 : ∀ j ∈ fl, ∃ o, ops[q + 1]? = some o ∧ ∃ e ∈ o.after, Region.binds .any e = true ∧ e.on = j := fun j hj => by
    have := (hlb j hj).2
    split at this
    · rename_i o ho
      rw [List.any_eq_true] at this
      obtain ⟨e, he, hb⟩ := this
      simp only [Bool.and_eq_true] at hb
      exact ⟨o, ho, e, Array.mem_toList_iff.1 he, hb.1, Nat.eq_of_beq_eq_true hb.2⟩
    · cases this
  let X' : Cx := ⟨X.e, m, ρ, X.F⟩
  have toX' : ∀ {s : AS} {fr : Fr} {W : World} {m1 : Mem} {φ1 : List Frag}, m.le m1 → Conc X s fr W m1 ρ φ1 → Conc X' s fr W m1 ρ φ1 := fun hm h => ⟨hm, fun i h hi => hi, h.nρ, h.nφ, h.slots, h.objs, h.sh⟩
  have ofX' : ∀ {s : AS} {fr : Fr} {W : World} {m1 : Mem} {ρ1 : List Value} {φ1 : List Frag}, Conc X' s fr W m1 ρ1 φ1 → Conc X s fr W m1 ρ1 φ1 := fun h => ⟨hc.mle.trans h.mle, fun i u hi => h.pre i u (hc.pre i u hi), h.nρ, h.nφ, h.slots, h.objs, h.sh⟩
  intro a ha hg
  refine wpIn_region_any hm ?_
  refine draw_late (w := { w with drawn := w.drawn + 1 }) (Φ := Ts.map (phi X.e m ρ (φ.flatten ++ X.F))) (dep := dep) (lb := lb) hq' (draw_keys (by rw [h1]; exact hok)) (consec_of hch.1) (back_of hback) hfl hch.2 (by rw [List.length_map]; exact hTl) (monos_phi Ts) ((obs_of hl h3 hdp.2 hob).drawn sr_below) (live := live) ?_ hop hgu ?_ (Ψ := fun j v => RepA (fun _ => none) ρ (ttAt Ts j).2 v) ?_
    (R := fun l2 W2 => l2.map (·.1) = ks2 ∧ ∃ m2 ρ2 φ2, Conc X' ⟨keepF st2.l ks2, st2.H, st2.n⟩ l2 W2 m2 ρ2 φ2) ?_ hb2 ?_ _ _ _ _ ?_ (by simp) ?_ ?_ ?_
  · intro j hj
    have := (List.all_eq_true.1 hlv) j hj
    simp only [Bool.and_eq_true] at this
    exact ⟨by simpa using this.1, fun hc => by have h := this.2; rw [memB_iff.2 hc] at h; cases h⟩
  · intro j hj o ho
    refine ⟨_, (hod j hj o ho).2.1, fun e => hpd j hj _ e rfl⟩
  · intro j hj φj hφ v W hv
    have hjl : j < Ts.length := by rw [hTl]; exact hfl j hj
    rw [List.getElem?_map, List.getElem?_eq_getElem hjl] at hφ
    simp only [Option.map_some, Option.some.injEq] at hφ
    have htj : ttAt Ts j = Ts[j] := by simp only [ttAt, List.getElem?_eq_getElem hjl]
    rw [← hφ, ← htj] at hv
    obtain ⟨m', g1, g2, g3⟩ := hv.1 (htt j hj)
    exact flat_down (hflat j hj) (fun _ _ h => h) g3
  · intro W hW
    refine gather_df (phi_at hl) hdp.1 fun l' hl' => ?_
    obtain ⟨m', g4, g5⟩ := conc_df hl' (Mem.le_refl _) (h3.grow (Mem.le_refl _) (h3.sh.ext (sr_below.drawn _ _ _ hW))) hall
    intro a1 ha1 hg1
    refine Oper.wpIn_mono ?_ (hrun X' (upQ X Q) _ _ _ _ _ (toX' g4 g5) a1 ha1 hg1)
    rintro a2 W2 ⟨l2, hl2, hg2, st', m2, ρ2, φ2, g6, g7⟩
    have g6 := conc_sub g6 g7 hcomp
    obtain ⟨lb2, q1, q2, q3⟩ := keep_conc g6 hks2
    exact ⟨lb2, hl2.sub q2, hg2, q1, m2, ρ2, φ2, q3⟩
  · rintro l2 W2 ⟨hk, m2, ρ2, φ2, hc2⟩
    refine ⟨⟨fun j hj o ho => ⟨(hod j hj o ho).1, dstAt ops j, (hod j hj o ho).2.1, (hod j hj o ho).2.2, ?_, ?_, ?_⟩⟩, ?_⟩
    · have := look_keys (l := l2) (d := dstAt ops j)
      rw [hk, hk2 j hj] at this
      simpa using this
    · intro j' hj' o' ho' hd'
      have h5 := (hod j' hj' o' ho').2.1
      rw [hd'] at h5
      have h6 : dstAt ops j = dstAt ops j' := by simpa using h5
      obtain ⟨p, hp⟩ := List.getElem?_of_mem hj
      obtain ⟨p', hp'⟩ := List.getElem?_of_mem hj'
      have e1 : (fl.map (dstAt ops))[p]? = some (dstAt ops j) := by rw [List.getElem?_map, hp]; rfl
      have e2 : (fl.map (dstAt ops))[p']? = some (dstAt ops j) := by rw [List.getElem?_map, hp', h6]; rfl
      have l1 := (List.getElem?_eq_some_iff.1 e1).1
      have := (List.getElem?_inj l1 hnd).1 (e1.trans e2.symm)
      subst this
      rw [hp] at hp'; cases hp'; rfl
    · have hldj := (List.all_eq_true.1 hld) j hj
      rw [List.all_eq_true] at hldj
      have hdk : ∀ k ∈ (dl[j]?).getD [], k ∈ fl ∧ ∃ e ∈ o.after, Region.binds .any e = true ∧ e.on = k := fun k hk => by
        have := hldj k hk
        rw [Bool.and_eq_true, ho] at this
        obtain ⟨u1, u2⟩ := this
        simp only [List.any_eq_true] at u2
        obtain ⟨e, he, hb⟩ := u2
        simp only [Bool.and_eq_true] at hb
        exact ⟨memB_iff.1 u1, e, Array.mem_toList_iff.1 he, hb.1, Nat.eq_of_beq_eq_true hb.2⟩
      refine ⟨_, hdk, fun a1 W hW ha1 hg1 hfs => ?_⟩
      have hcW := hc2.grow (Mem.le_refl _) (hc2.sh.ext hW)
      obtain ⟨l', g1, g2⟩ := late_frame (ops := ops) (Ts := Ts) (a := a1) (js := (dl[j]?).getD []) hcW ha1 (fun k hk => by
        have hkl : k < ops.length := by have := hfl k (hdk k hk).1; omega
        obtain ⟨d, v, g1, g2, g3⟩ := hfs k hk _ (List.getElem?_eq_getElem hkl)
        have hd0 := (hod k (hdk k hk).1 _ (List.getElem?_eq_getElem hkl)).2.1
        rw [g1] at hd0; cases hd0
        exact ⟨v, g2, RepA.mono (fun b o h => by cases h) (fun i h hi => hc2.pre i h hi) _ g3⟩)
      refine ⟨l', g1, ?_⟩
      have hv := hlate.at j hj X' o ho (upQ X Q) _ _ _ _ _ g2
      intro a2 ha2 hg2
      refine Oper.wpIn_mono ?_ (hv a2 ha2 hg2)
      rintro a3 W3 ⟨l3, hl3, hg3, d, v, hd, rfl, hB, m3, _, _, hr⟩
      have hd0 := (hod j hj o ho).2.1
      rw [hd] at hd0; cases hd0
      exact ⟨_, hl3, hg3, ⟨v, by rw [Fr.look_cons, if_pos rfl], flat_down (hflat j hj) (fun i h hi => hc2.pre i h hi) hr⟩, hB⟩
    · intro a1 W hW ha1 hg1 hfs
      have hcW := hc2.grow (Mem.le_refl _) (hc2.sh.ext hW)
      obtain ⟨l', g1, g2⟩ := late_frame (ops := ops) (Ts := Ts) (a := a1) (js := fl) hcW ha1 (fun j hj => by
        have hjl : j < ops.length := by have := hfl j hj; omega
        obtain ⟨d, v, g1, g2, g3⟩ := hfs j hj _ (List.getElem?_eq_getElem hjl)
        have hd0 := (hod j hj _ (List.getElem?_eq_getElem hjl)).2.1
        rw [g1] at hd0; cases hd0
        exact ⟨v, g2, RepA.mono (fun b o h => by cases h) (fun i h hi => hc2.pre i h hi) _ g3⟩)
      exact k _ _ _ _ _ (ofX' g2) a1 g1 hg1
  · refine ⟨sr_below.refl _, ha.sub h2, hg.step rfl (fun _ _ h _ _ => h) (Nat.le_refl _), ?_⟩
    intro i o φ _ _ hi
    simp [Array.getElem?_replicate] at hi
  · intro i o _ hi
    simp [Array.getElem?_replicate] at hi
  · intro j hj hjl
    simp [Array.getElem?_replicate, hjl]
  · simp
end
end Go.Ab


set_option linter.unusedVariables false
set_option linter.unusedSimpArgs false
namespace Go.Ab
open Go.RowKit Go.Shelf Go.Proofs Go.Eng

section
variable {P : Program} {N : Ev} {X : Cx} {Q : APost} {st : AS}
variable {d : Nat} {T U T' : TypeId} {pos : String} {aft : Array Edge} {g : Option (Nat × Bool)} {x y : Operand}
/-! a pointer against nil -/
end
end Go.Ab


set_option linter.unusedVariables false
set_option linter.unusedSimpArgs false
namespace Go.Ab
open Go.RowKit Go.Shelf Go.Proofs Go.Eng

/-! calls of closures that turn what they hold -/
section
variable {P : Program} {N : Ev} {X : Cx} {Q : APost} {st : AS}
variable {d : Nat} {U : TypeId} {pos : String} {aft : Array Edge} {g : Option (Nat × Bool)}
end
end Go.Ab


set_option linter.unusedVariables false
set_option linter.unusedSimpArgs false
namespace Go.Ab
open Go.RowKit Go.Shelf Go.Proofs Go.Eng

/-! maps that are read alone -/
section
variable {P : Program} {N : Ev} {X : Cx} {Q : APost} {st : AS}
variable {d : Nat} {T U T' : TypeId} {pos : String} {aft : Array Edge} {g : Option (Nat × Bool)} {x y z : Operand} {k ky : IntKind} {a b : Int}

/-! loops over maps -/
/-! the next one -/
end

end Go.Ab


set_option linter.unusedVariables false
set_option linter.unusedSimpArgs false
namespace Go.Ab
open Go.RowKit Go.Shelf Go.Proofs Go.Eng

/-! functions that may give more than one thing: told by what holds of all of them -/
section
variable {P : Program} {N : Ev} {X : Cx} {Q : APost} {st : AS}
variable {d : Nat} {T U T' : TypeId} {pos : String} {aft : Array Edge} {g : Option (Nat × Bool)} {x y z : Operand}
end
end Go.Ab


set_option linter.unusedVariables false
set_option linter.unusedSimpArgs false
namespace Go.Ab
open Go.RowKit Go.Shelf Go.Proofs Go.Eng

/-! tables that lie in the memory that is read alone -/
abbrev Tabs := List (Nat × Array Value)
def TabM (L : Tabs) (m : Mem) : Prop := ∀ p ∈ L, ∃ T fr, m p.1 = some (.cells p.2 T fr)
theorem TabM.mono {L : Tabs} {m m' : Mem} (hm : m.le m') (h : TabM L m) : TabM L m' := fun p hp => let ⟨T, fr, h1⟩ := h p hp; ⟨T, fr, hm _ _ h1⟩
theorem runs_wT {L : Tabs} {P : Program} {f : FuncId} {fn : Func} {c : Code} {n : Nat} {args : List AV} {H : List AO} {R : List AV → List AO → Prop} {rs : List ResultVar} (hf : P.funcs[f]? = some fn) (hN : fn.ntmps = n) (hb : fn.body = some c) (hr : fn.results = rs.toArray) (hle : Nat.ble args.length n = true)
    (h : ∀ (w0 : World) (X : Cx), TabM L X.m → X.ρ.length = H.length → AWC P ⟨n, none, w0, none, false⟩ X c (retW P X rs H.length R) ⟨argA 0 args, zipH 0 H, H.length⟩) : RunsT (TabM L) P f args H R := by
  intro m0 hT e w m ρ φ F vs hm0 hv ho hs
  have hl := hv.len
  refine ret_of hf hb hN (by rw [hl]; exact hle) hr ?_
  refine WC.mono ?_ (h w ⟨e, m, ρ, F⟩ (hT.mono hm0) ho.nρ _ _ _ _ _ (args_conc hv ho hs))
  rintro ex l w' ⟨st, m', ρ', φ', hc', hq⟩
  cases ex with
  | normal => obtain ⟨st', h3, h4⟩ := hq; obtain ⟨m'', ρ'', φ'', h5⟩ := h3 _ _ _ _ _ hc'; exact outs_conc (w := w) (m := m) h5 h4
  | ret => obtain ⟨st', h3, h4⟩ := hq; obtain ⟨m'', ρ'', φ'', h5⟩ := h3 _ _ _ _ _ hc'; exact outs_conc (w := w) (m := m) h5 h4
  | _ => exact hq.elim
/-! the kit's contracts of functions of whole numbers and texts -/
theorem repL_flat {m : Mem} {ρ : List Value} : ∀ {rs : List AV}, (rs.all flatB) = true → RepL m ρ rs (rs.map flatV) := by
  intro rs
  induction rs with
  | nil => intro _; simp [RepL]
  | cons a rs ih =>
    intro h
    simp only [List.all_cons, Bool.and_eq_true] at h
    simp only [List.map_cons, RepL]
    refine ⟨?_, ih h.2⟩
    cases a <;> simp_all [flatB, flatV, RepA]
theorem runs_flatT {L : Tabs} {P : Program} {f : FuncId} {as' rs : List AV} (ha : (as'.all flatB) = true) (hr : (rs.all flatB) = true)
    (h : ∀ w, (∀ p ∈ L, ∃ T fr, w.heap[p.1]? = some (.cells p.2 T fr)) → Calls P f (as'.map flatV).toArray w fun e w' => e = .returned (tupleOf (rs.map flatV)) ∧ Below w.heap.size w w') : RunsT (TabM L) P f as' [] fun r H' => r = rs ∧ H' = [] := by
  intro m0 hT e w m ρ φ F vs hm0 hv ho hs
  rw [flat_repL ha hv]
  refine Calls.mono (h w fun p hp => ?_) ?_
  · obtain ⟨T, fr, h1⟩ := hT p hp; exact ⟨T, fr, hs.fz _ _ (hm0 _ _ h1)⟩
  · rintro ex w' ⟨rfl, hb⟩
    exact ⟨_, rfl, ⟨DK.of_below hb, hb.size⟩, rs, [], m, ρ, φ, ⟨rfl, rfl⟩, Mem.le_refl _, fun _ _ h => h, Nat.le_refl _, ho, hs.ext hb, _, repL_flat hr, rfl⟩
end Go.Ab

