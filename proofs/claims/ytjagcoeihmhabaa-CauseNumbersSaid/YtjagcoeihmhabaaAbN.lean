/- Lemmas for a law of the seat: what functions of the program do, each stated as a contract of its own (module AbN). -/
import Derived.Test.YtjagcoeihmhabaaAbM
set_option linter.unusedVariables false
set_option linter.unusedSimpArgs false
namespace Go.Ab
open Go.RowKit Go.Shelf Go.Proofs Go.Eng

/-! calls that turn what is handed to them -/
theorem nodup_ne {α : Type} {l : List α} (h : l.Nodup) {i j : Nat} (hij : i < j) (hj : j < l.length) : l[i]? ≠ l[j]? := by
  rw [List.getElem?_eq_getElem (by omega), List.getElem?_eq_getElem hj]
  have := List.pairwise_iff_getElem.1 h i j (by omega) hj hij
  simpa using this
theorem nodup_of_ne {α : Type} {l : List α} (h : ∀ i j, i < j → j < l.length → l[i]? ≠ l[j]?) : l.Nodup := by
  refine List.pairwise_iff_getElem.2 fun i j hi hj hij => ?_
  have := h i j hij hj
  rw [List.getElem?_eq_getElem hi, List.getElem?_eq_getElem hj] at this
  simpa using this
theorem flatMap_eq {α β : Type} {l : List α} {f g : α → List β} (h : ∀ a ∈ l, f a = g a) : l.flatMap f = l.flatMap g := by
  induction l with
  | nil => rfl
  | cons a l ih => rw [List.flatMap_cons, List.flatMap_cons, h a (by simp), ih (fun b hb => h b (by simp [hb]))]
def updH : Nat → List Nat → List AO → AH → AH
  | _, [], _, H => H
  | _, _, [], H => H
  | k, i :: σ, o :: os, H => (i, o) :: updH k σ os H
/-- The numbers behind n. -/
def fromN : Nat → Nat → List Nat
  | _, 0 => []
  | n, k + 1 => n :: fromN (n + 1) k
theorem fromN_get : ∀ {k n i : Nat}, i < k → (fromN n k)[i]? = some (n + i) := by
  intro k
  induction k with
  | zero => intro n i h; omega
  | succ k ih =>
    intro n i h
    cases i with
    | zero => simp [fromN]
    | succ i => simp only [fromN, List.getElem?_cons_succ]; rw [ih (by omega)]; congr 1; omega
theorem fromN_len : ∀ {k n : Nat}, (fromN n k).length = k := by
  intro k
  induction k with
  | zero => intro n; rfl
  | succ k ih => intro n; simp [fromN, ih]
theorem updH_get : ∀ {σ : List Nat} {os : List AO} {H : AH} {k : Nat}, σ.Nodup → os.length = σ.length → (∀ (j i : Nat) (o : AO), σ[j]? = some i → os[j]? = some o → AH.get (updH k σ os H) i = o) ∧ (∀ i, i ∉ σ → AH.get (updH k σ os H) i = AH.get H i) := by
  intro σ
  induction σ with
  | nil => intro os H k _ _; exact ⟨fun j i o h => by simp at h, fun i _ => rfl⟩
  | cons a σ ih =>
    intro os H k hn hl
    cases os with
    | nil => simp at hl
    | cons o os =>
      rw [List.nodup_cons] at hn
      obtain ⟨h1, h2⟩ := ih (H := H) (k := k) hn.2 (by simpa using hl)
      refine ⟨fun j i q hj hq => ?_, fun i hi => ?_⟩
      · simp only [updH, AH.get_cons]
        cases j with
        | zero => simp at hj hq; subst hj hq; simp
        | succ j =>
          have hj' : σ[j]? = some i := by simpa using hj
          rw [if_neg (by intro e; rw [e] at hn; exact hn.1 (List.mem_of_getElem? hj'))]
          exact h1 j i q hj' (by simpa using hq)
      · simp only [List.mem_cons, not_or] at hi
        simp only [updH, AH.get_cons]
        rw [if_neg (fun e => hi.1 e.symm)]
        exact h2 i hi.2

section
variable {P : Program} {N : Ev} {X : Cx} {Q : APost} {st : AS}
variable {d : Nat} {T U T' : TypeId} {pos : String} {aft : Array Edge} {g : Option (Nat × Bool)} {x y : Operand}

/-- Behind a call: the objects σ turned, new ones behind them. -/
theorem conc_call {fr : Fr} {w w' : World} {m m' : Mem} {ρ ρ1' : List Value} {φ φ1' : List Frag} {σ : List Nat} {H' : List AO} {v : Value} {av : AV} (hc : Conc X st fr w m ρ φ) (hnd : σ.Nodup) (hlt : ∀ i ∈ σ, i < st.n) (hm : m.le m') (hk : σ.length ≤ H'.length)
    (hpre : ∀ (i j : Nat) (h : Value), σ[i]? = some j → ρ[j]? = some h → ρ1'[i]? = some h) (ho : OsRep m' ρ1' H' φ1')
    (hs : SH X.e w' m' (φ1'.flatten ++ (((List.range st.n).filter fun i => !σ.contains i).flatMap (fun i => φ.getD i []) ++ X.F)))
    (hav : ∀ ρ', (∀ (i : Nat) (u : Value), ρ1'[i]? = some u → ∃ j, (σ ++ fromN st.n (H'.length - σ.length))[i]? = some j ∧ ρ'[j]? = some u) → RepA m' ρ' av v) :
    ∃ ρ' φ', Conc X ⟨(d, av) :: st.l, updH 0 (σ ++ fromN st.n (H'.length - σ.length)) (H'.map (AO.ren (σ ++ fromN st.n (H'.length - σ.length)))) st.H, st.n + (H'.length - σ.length)⟩ ((d, v) :: fr) w' m' ρ' φ' := by
  obtain ⟨τ, hτ⟩ : ∃ τ, τ = σ ++ fromN st.n (H'.length - σ.length) := ⟨_, rfl⟩
  have hτl : τ.length = H'.length := by rw [hτ, List.length_append, fromN_len]; omega
  have hfr : ∀ i, i ∈ fromN st.n (H'.length - σ.length) ↔ st.n ≤ i ∧ i < st.n + (H'.length - σ.length) := by
    intro i
    rw [List.mem_iff_getElem?]
    constructor
    · rintro ⟨j, hj⟩
      have hjl := (List.getElem?_eq_some_iff.1 hj).1
      rw [fromN_len] at hjl
      rw [fromN_get hjl] at hj
      cases hj; omega
    · rintro ⟨h1, h2⟩
      exact ⟨i - st.n, by rw [fromN_get (by omega)]; congr 1; omega⟩
  have hfnd : (fromN st.n (H'.length - σ.length)).Nodup := by
    refine nodup_of_ne fun i j hij hjl => ?_
    rw [fromN_len] at hjl
    rw [fromN_get (by omega), fromN_get hjl]
    intro e; simp at e; omega
  have hτn : τ.Nodup := by
    rw [hτ, List.nodup_append]
    refine ⟨hnd, hfnd, fun a ha b hb e => ?_⟩
    subst e
    have := hlt a ha
    have := ((hfr a).1 hb).1
    omega
  have hτlt : ∀ i ∈ τ, i < st.n + (H'.length - σ.length) := by
    intro i hi
    rw [hτ, List.mem_append] at hi
    rcases hi with hi | hi
    · have := hlt i hi; omega
    · exact ((hfr i).1 hi).2
  -- the handles, the fragments
  let pos : Nat → Option Nat := posN τ
  let ρ' : List Value := (List.range (st.n + (H'.length - σ.length))).map fun i => match posN τ i with
    | some j => ρ1'.getD j undef
    | none => ρ.getD i undef
  let φ' : List Frag := (List.range (st.n + (H'.length - σ.length))).map fun i => match posN τ i with
    | some j => φ1'.getD j []
    | none => φ.getD i []
  have posτ : ∀ {j i : Nat}, τ[j]? = some i → posN τ i = some j := by
    intro j i hj
    cases hp : posN τ i with
    | none => exact absurd (List.mem_of_getElem? hj) (posN_none hp)
    | some q =>
      have h1 := posN_get hp
      by_cases e : q = j
      · rw [e]
      · exfalso
        rcases Nat.lt_or_ge q j with h | h
        · exact nodup_ne hτn h (List.getElem?_eq_some_iff.1 hj).1 (by rw [h1, hj])
        · exact nodup_ne hτn (show j < q by omega) (List.getElem?_eq_some_iff.1 h1).1 (by rw [h1, hj])
  have hρτ : ∀ {j i : Nat} {u : Value}, τ[j]? = some i → ρ1'[j]? = some u → ρ'[i]? = some u := by
    intro j i u hj hu
    simp only [ρ', List.getElem?_map, List.getElem?_range (hτlt i (List.mem_of_getElem? hj)), Option.map_some, posτ hj, List.getD_eq_getElem?_getD, hu, Option.getD_some]
  have hρold : ∀ (i : Nat) (h : Value), ρ[i]? = some h → ρ'[i]? = some h := by
    intro i h hi
    have hil : i < st.n := by rw [← hc.nρ]; exact (List.getElem?_eq_some_iff.1 hi).1
    simp only [ρ', List.getElem?_map, List.getElem?_range (show i < st.n + (H'.length - σ.length) by omega), Option.map_some]
    cases hp : posN τ i with
    | none => simp [List.getD_eq_getElem?_getD, hi]
    | some j =>
      have h1 := posN_get hp
      have hjσ : j < σ.length := by
        rcases Nat.lt_or_ge j σ.length with h2 | h2
        · exact h2
        · exfalso
          rw [hτ, List.getElem?_append_right h2] at h1
          have := ((hfr i).1 (List.mem_of_getElem? h1)).1
          omega
      rw [hτ, List.getElem?_append_left hjσ] at h1
      have := hpre j i h h1 hi
      simp [List.getD_eq_getElem?_getD, this]
  have hbwd : ∀ (i : Nat) (u : Value), ρ1'[i]? = some u → ∃ j, τ[i]? = some j ∧ ρ'[j]? = some u := by
    intro i u hi
    have hil : i < τ.length := by rw [hτl, ← ho.nρ]; exact (List.getElem?_eq_some_iff.1 hi).1
    exact ⟨τ[i], List.getElem?_eq_getElem hil, hρτ (List.getElem?_eq_getElem hil) hi⟩
  refine ⟨ρ', φ', hc.mle.trans hm, fun i h hi => hρold i h (hc.pre i h hi), by simp [ρ'], by simp [φ'], ?_, ?_, ?_⟩
  · intro t b hb
    simp only [AFr.look_cons] at hb
    rw [Fr.look_cons]
    split
    · rename_i e; rw [if_pos e] at hb; cases hb; exact ⟨v, rfl, hav ρ' (by rw [← hτ]; exact hbwd)⟩
    · rename_i e; rw [if_neg e] at hb
      obtain ⟨u, h1, h2⟩ := hc.slots t b hb
      exact ⟨u, h1, RepA.mono hm hρold b h2⟩
  · intro i h f hi hf
    rw [← hτ]
    have hil : i < st.n + (H'.length - σ.length) := by
      have := (List.getElem?_eq_some_iff.1 hi).1
      simpa [ρ'] using this
    obtain ⟨g1, g2⟩ := updH_get (σ := τ) (os := H'.map (AO.ren τ)) (H := st.H) (k := 0) hτn (by simp [hτl])
    simp only [ρ', List.getElem?_map, List.getElem?_range hil, Option.map_some, Option.some.injEq] at hi
    simp only [φ', List.getElem?_map, List.getElem?_range hil, Option.map_some, Option.some.injEq] at hf
    cases hp : posN τ i with
    | some j =>
      rw [hp] at hi hf
      simp only at hi hf
      have h1 := posN_get hp
      have hjl : j < H'.length := by rw [← hτl]; exact (List.getElem?_eq_some_iff.1 h1).1
      have hH : H'[j]? = some (H'[j]'hjl) := List.getElem?_eq_getElem hjl
      have h2 : ρ1'[j]? = some h := by
        have : ρ1'[j]? = some (ρ1'[j]'(by rw [ho.nρ]; exact hjl)) := List.getElem?_eq_getElem _
        rw [List.getD_eq_getElem?_getD, this] at hi
        rw [this]; simpa using hi
      have h3 : φ1'[j]? = some f := by
        have : φ1'[j]? = some (φ1'[j]'(by rw [ho.nφ]; exact hjl)) := List.getElem?_eq_getElem _
        rw [List.getD_eq_getElem?_getD, this] at hf
        rw [this]; simpa using hf
      rw [g1 j i _ h1 (by rw [List.getElem?_map, hH]; rfl)]
      exact (ho.at_ j _ h f hH h2 h3).bwd hbwd
    | none =>
      rw [hp] at hi hf
      simp only at hi hf
      have hni := posN_none hp
      rw [g2 i hni]
      have hin : i < st.n := by
        rcases Nat.lt_or_ge i st.n with h1 | h1
        · exact h1
        · exfalso
          apply hni
          rw [hτ, List.mem_append]
          exact .inr ((hfr i).2 ⟨h1, hil⟩)
      have h2 : ρ[i]? = some h := by
        have : ρ[i]? = some (ρ[i]'(by rw [hc.nρ]; exact hin)) := List.getElem?_eq_getElem _
        rw [List.getD_eq_getElem?_getD, this] at hi
        rw [this]; simpa using hi
      have h3 : φ[i]? = some f := by
        have : φ[i]? = some (φ[i]'(by rw [hc.nφ]; exact hin)) := List.getElem?_eq_getElem _
        rw [List.getD_eq_getElem?_getD, this] at hf
        rw [this]; simpa using hf
      exact (hc.objs i h f h2 h3).mono hm hρold
  · refine hs.perm ?_
    rw [← List.append_assoc]
    refine List.Perm.append_right _ ?_
    have h1 : φ'.flatten = (List.range (st.n + (H'.length - σ.length))).flatMap fun i => match posN τ i with
        | some j => φ1'.getD j []
        | none => φ.getD i [] := by rw [List.flatMap_def]
    rw [h1]
    refine List.Perm.symm (((range_split hτn hτlt).flatMap_right _).trans ?_)
    rw [List.flatMap_append]
    have h2 : (τ.flatMap fun i => match posN τ i with
        | some j => φ1'.getD j []
        | none => φ.getD i []) = φ1'.flatten := by
      rw [flatten_range, ho.nφ, ← hτl]
      have : τ = (List.range τ.length).map fun j => τ.getD j 0 := by
        apply List.ext_getElem?
        intro j
        rw [List.getElem?_map]
        rcases Nat.lt_or_ge j τ.length with h | h
        · rw [List.getElem?_range h, Option.map_some, List.getD_eq_getElem?_getD, List.getElem?_eq_getElem h]; rfl
        · rw [List.getElem?_eq_none h, List.getElem?_eq_none (by simpa using h)]; rfl
      have this2 : ∀ g : Nat → Frag, τ.flatMap g = ((List.range τ.length).map fun j => τ.getD j 0).flatMap g := fun g => by rw [← this]
      rw [this2, List.flatMap_map]
      refine flatMap_eq fun j hj => ?_
      rw [List.mem_range] at hj
      have h3 : τ[j]? = some (τ.getD j 0) := by rw [List.getD_eq_getElem?_getD, List.getElem?_eq_getElem hj]; rfl
      rw [posτ h3]
    rw [h2]
    refine List.Perm.append_left _ ?_
    -- what no name of the call's reaches
    have h4 : ((List.range (st.n + (H'.length - σ.length))).filter fun i => !τ.contains i) = (List.range st.n).filter fun i => !σ.contains i := by
      rw [List.range_add, List.filter_append]
      have h5 : ((List.range (H'.length - σ.length)).map (st.n + ·)).filter (fun i => !τ.contains i) = [] := by
        rw [List.filter_eq_nil_iff]
        intro a ha
        obtain ⟨q, hq, rfl⟩ := List.mem_map.1 ha
        rw [List.mem_range] at hq
        simp only [List.contains_eq_mem, Bool.not_eq_true', decide_eq_false_iff_not, Decidable.not_not]
        rw [hτ, List.mem_append]
        exact .inr ((hfr _).2 ⟨by omega, by omega⟩)
      rw [h5, List.append_nil]
      refine List.filter_congr fun a ha => ?_
      rw [List.mem_range] at ha
      congr 1
      simp only [List.contains_eq_mem]
      rw [hτ]
      simp only [List.mem_append, decide_eq_decide]
      constructor
      · rintro (h | h)
        · exact h
        · have := ((hfr a).1 h).1; omega
      · exact .inl
    rw [h4]
    refine List.Perm.of_eq (flatMap_eq fun i hi => ?_)
    simp only [List.mem_filter, List.mem_range, Bool.not_eq_true', List.contains_eq_mem, decide_eq_false_iff_not] at hi
    have : posN τ i = none := by
      cases hp : posN τ i with
      | none => rfl
      | some j =>
        have h5 := List.mem_of_getElem? (posN_get hp)
        rw [hτ, List.mem_append] at h5
        rcases h5 with h5 | h5
        · exact absurd h5 hi.2
        · have := ((hfr i).1 h5).1; omega
    rw [this]

theorem ret_own {f : FuncId} {as1 : List AV} {H1 : List AO} {R : List AV → List AO → Prop} {σ : List Nat} {fr : Fr} {w : World} {m : Mem} {ρ : List Value} {φ : List Frag} {vs : List Value} (hr : Runs P f as1 H1 R) (hc : Conc X st fr w m ρ φ) (hσ : (nodupB σ && σ.all fun i => Nat.blt i st.n) = true) (hH : σ.map st.H.get = H1.map (AO.ren σ)) (hv : RepL m ρ (renL σ as1) vs) :
    Ret P f vs.toArray w fun v w' => ∃ rs H' m' ρ1' φ1', R rs H' ∧ m.le m' ∧ σ.length ≤ H'.length ∧ (∀ (i j : Nat) (h : Value), σ[i]? = some j → ρ[j]? = some h → ρ1'[i]? = some h) ∧ OsRep m' ρ1' H' φ1' ∧
      SH X.e w' m' (φ1'.flatten ++ (((List.range st.n).filter fun i => !σ.contains i).flatMap (fun i => φ.getD i []) ++ X.F)) ∧ ∃ us, RepL m' ρ1' rs us ∧ v = tupleOf us := by
  rw [Bool.and_eq_true] at hσ
  have hnd := nodup_of hσ.1
  have hlt : ∀ i ∈ σ, i < st.n := by
    intro i hi
    have := hσ.2
    rw [List.all_eq_true] at this
    simpa using this i hi
  have hlen : σ.length = H1.length := by simpa using congrArg List.length hH
  let ρ1 : List Value := σ.map fun i => ρ.getD i undef
  let φ1 : List Frag := σ.map fun i => φ.getD i []
  have hfwd : ∀ (i j : Nat) (u : Value), σ[i]? = some j → ρ[j]? = some u → ρ1[i]? = some u := by
    intro i j u hi hj
    simp only [ρ1, List.getElem?_map, hi, Option.map_some, List.getD_eq_getElem?_getD, hj, Option.getD_some]
  have hsh : SH X.e w m (φ1.flatten ++ (((List.range st.n).filter fun i => !σ.contains i).flatMap (fun i => φ.getD i []) ++ X.F)) := by
    refine hc.sh.perm ?_
    rw [← List.append_assoc]
    refine List.Perm.append_right _ ?_
    rw [flatten_range, hc.nφ]
    refine ((range_split hnd hlt).flatMap_right _).trans ?_
    rw [List.flatMap_append]
    refine List.Perm.of_eq ?_
    show _ = φ1.flatten ++ _
    rw [show φ1.flatten = σ.flatMap fun i => φ.getD i [] from flatMap_getD φ σ]
  have hos : OsRep m ρ1 H1 φ1 := by
    refine ⟨by simp [ρ1, hlen], by simp [φ1, hlen], fun i o h f hi hh hf => ?_⟩
    have hil : i < σ.length := by rw [hlen]; exact (List.getElem?_eq_some_iff.1 hi).1
    have hσi : σ[i]? = some (σ[i]'hil) := List.getElem?_eq_getElem hil
    have hn := hlt _ (List.getElem_mem hil)
    have e1 := congrArg (fun l => l[i]?) hH
    simp only [List.getElem?_map, hσi, hi, Option.map_some, Option.some.injEq] at e1
    have hρi : ρ[σ[i]'hil]? = some (ρ[σ[i]'hil]'(by rw [hc.nρ]; exact hn)) := List.getElem?_eq_getElem _
    have hφi : φ[σ[i]'hil]? = some (φ[σ[i]'hil]'(by rw [hc.nφ]; exact hn)) := List.getElem?_eq_getElem _
    have h1 := hc.objs _ _ _ hρi hφi
    rw [e1] at h1
    have h2 := h1.fwd hfwd
    have eh : h = ρ[σ[i]'hil]'(by rw [hc.nρ]; exact hn) := by
      have := hfwd i _ _ hσi hρi
      rw [this] at hh; exact (Option.some.inj hh).symm
    have ef : f = φ[σ[i]'hil]'(by rw [hc.nφ]; exact hn) := by
      simp only [φ1, List.getElem?_map, hσi, Option.map_some, List.getD_eq_getElem?_getD, hφi, Option.getD_some, Option.some.injEq] at hf
      exact hf.symm
    rw [eh, ef]; exact h2
  refine Ret.mono (hr X.e w m ρ1 φ1 _ vs (renL_fwd hfwd as1 hv) hos hsh) ?_
  rintro v w' ⟨rs, H', m', ρ1', φ1', h1, h2, h3, h4, h5, h6, h7⟩
  exact ⟨rs, H', m', ρ1', φ1', h1, h2, by rw [hlen]; exact h4, fun i j h hi hj => h3 i h (hfwd i j h hi hj), h5, h6, h7⟩

/-- A call that turns what is handed to it. -/
theorem aop_callO {f : FuncId} {xs : List Operand} {as1 as' rs : List AV} {H1 H' : List AO} {σ : List Nat} {ts : Array TypeId} {K : AS → Prop} {r : AV} (hr : Runs P f as1 H1 fun q Hq => q = rs ∧ Hq = H') (hf : Enters P f) (hx : xs.map (aev st.l) = as'.map some) (hcv : cvL (renL σ as1) as') (hσ : (nodupB σ && σ.all fun i => Nat.blt i st.n) = true) (hH : σ.map st.H.get = H1.map (AO.ren σ))
    (hrs : tupA (renL (σ ++ fromN st.n (H'.length - σ.length)) rs) = r) (k : K ⟨(d, r) :: st.l, updH 0 (σ ++ fromN st.n (H'.length - σ.length)) (H'.map (AO.ren (σ ++ fromN st.n (H'.length - σ.length)))) st.H, st.n + (H'.length - σ.length)⟩) (hN : Nat.blt d N.n = true := by rfl) :
    AOp P N X ⟨some d, .call ⟨.value (.func f), xs.toArray, ts⟩, U, pos, aft, g⟩ K st :=
  aop_of fun Q fr w m ρ φ hc K' hK => by
    obtain ⟨vs, h1, h2⟩ := hc.evl hx
    have hσ' := hσ
    rw [Bool.and_eq_true] at hσ'
    refine op_call hf h1 (ret_own hr hc hσ hH (cvL_rep hcv h2)) hN ?_
    rintro v w' ⟨rs', H'', m', ρ1', φ1', ⟨rfl, rfl⟩, g1, g2, g3, g4, g5, us, g6, rfl⟩
    subst hrs
    obtain ⟨ρ', φ', hcc⟩ := conc_call (d := d) (av := tupA (renL (σ ++ fromN st.n (H''.length - σ.length)) rs')) (v := tupleOf us) hc (nodup_of hσ'.1) (fun i hi => by have := hσ'.2; rw [List.all_eq_true] at this; simpa using this i hi) g1 g2 g3 g4 g5 (fun ρ' hb => rep_tup (renL_bwd hb _ g6))
    exact hK _ _ _ _ _ _ hcc k
end

/-- A function that ends with what was handed to it. -/
theorem ret_o {P : Program} {X : Cx} {rs : List ResultVar} {k n : Nat} {st : AS} {as' r : List AV} {l' : AFr} {Hs : AH} {H' : List AO} (h : Wk X st ⟨l', Hs, n⟩) (hr : as' = r) (hH : (List.range n).map (AH.get Hs) = H') (hk : Nat.ble k n = true) (ho : AOuts P l' rs as') : retW P X rs k (fun q Hq => q = r ∧ Hq = H') .ret st :=
  ⟨⟨l', Hs, n⟩, h, as', _, ho, hH, hk, hr, rfl⟩
end Go.Ab
