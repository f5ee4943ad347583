/- Lemmas for a law of the seat: what functions of the program do, each stated as a contract of its own (module AbD). -/
import Derived.Test.YtjagcoeihmhabaaAbC
set_option linter.unusedVariables false
set_option linter.unusedSimpArgs false
namespace Go.Ab
open Go.RowKit Go.Shelf Go.Proofs Go.Eng

/-! other handles for the same values -/
mutual
def renA (σ : List Nat) : AV → AV
  | .rp cs => .rp (renL σ cs)
  | .agg cs => .agg (renL σ cs)
  | .tup cs => .tup (renL σ cs)
  | .ptr i o => match σ[i]? with
    | some j => .ptr j o
    | none => .bad
  | .osl i => match σ[i]? with
    | some j => .osl j
    | none => .bad
  | .ep i sz z o => match σ[i]? with
    | some j => .ep j sz z o
    | none => .bad
  | .map i => match σ[i]? with
    | some j => .map j
    | none => .bad
  | .fn f first caps => .fn f (renL σ first) (renL σ caps)
  | .int k z => .int k z
  | .bool b => .bool b
  | .str s => .str s
  | .sl t x => .sl t x
  | .nils => .nils
  | .nilp => .nilp
  | .nilf => .nilf
  | .nili => .nili
  | .nilm => .nilm
  | .yld l => .yld l
  | .val v => .val v
  | .clo a => .clo a
  | .sog i => match σ[i]? with
    | some j => .sog j
    | none => .bad
  | .epg i k => match σ[i]? with
    | some j => .epg j k
    | none => .bad
  | .row i k => match σ[i]? with
    | some j => .row j k
    | none => .bad
  | .epr i k sz z o => match σ[i]? with
    | some j => .epr j k sz z o
    | none => .bad
  | .any => .any
  | .bad => .bad
def renL (σ : List Nat) : List AV → List AV
  | [] => []
  | a :: r => renA σ a :: renL σ r
end
def AO.ren (σ : List Nat) : AO → AO
  | .dead => .dead
  | .var T cs => .var T (renL σ cs)
  | .sl T t x => .sl T t x
  | .map tk tv x => .map tk tv x
  | .slo T T' t x => .slo T T' t x
  | .guest p => .guest p

section
variable {m : Mem} {ρ ρ1 : List Value} {σ : List Nat}
mutual
theorem ren_fwd (h : ∀ (i j : Nat) (u : Value), σ[i]? = some j → ρ[j]? = some u → ρ1[i]? = some u) : ∀ (a : AV) {v : Value}, RepA m ρ (renA σ a) v → RepA m ρ1 a v
  | .rp cs, v, H => by simp only [renA, RepA] at H ⊢; obtain ⟨b, o, us, h1, h2, h3⟩ := H; exact ⟨b, o, us, h1, renL_fwd h cs h2, h3⟩
  | .agg cs, v, H => by simp only [renA, RepA] at H ⊢; obtain ⟨us, h1, h2, h3⟩ := H; exact ⟨us, h1, renL_fwd h cs h2, h3⟩
  | .tup cs, v, H => by simp only [renA, RepA] at H ⊢; obtain ⟨us, h1, h2⟩ := H; exact ⟨us, h1, renL_fwd h cs h2⟩
  | .ptr i o, v, H => by
    simp only [renA] at H
    split at H
    · rename_i j hj; simp only [RepA] at H ⊢; obtain ⟨b, h1, h2⟩ := H; exact ⟨b, h _ _ _ hj h1, h2⟩
    · simp only [RepA] at H
  | .osl i, v, H => by
    simp only [renA] at H
    split at H
    · rename_i j hj; simp only [RepA] at H ⊢; exact ⟨h _ _ _ hj H.1, H.2⟩
    · simp only [RepA] at H
  | .ep i sz z o, v, H => by
    simp only [renA] at H
    split at H
    · rename_i j hj; simp only [RepA] at H ⊢; obtain ⟨b, n, c, h1, h2⟩ := H; exact ⟨b, n, c, h _ _ _ hj h1, h2⟩
    · simp only [RepA] at H
  | .map i, v, H => by
    simp only [renA] at H
    split at H
    · rename_i j hj; simp only [RepA] at H ⊢; exact ⟨h _ _ _ hj H.1, H.2⟩
    · simp only [RepA] at H
  | .fn f first caps, v, H => by simp only [renA, RepA] at H ⊢; obtain ⟨us, ws, h1, h2, h3⟩ := H; exact ⟨us, ws, h1, renL_fwd h first h2, renL_fwd h caps h3⟩
  | .int .., v, H => by simpa only [renA, RepA] using H
  | .bool .., v, H => by simpa only [renA, RepA] using H
  | .str .., v, H => by simpa only [renA, RepA] using H
  | .sl .., v, H => by simpa only [renA, RepA] using H
  | .nils, v, H => by simpa only [renA, RepA] using H
  | .nilp, v, H => by simpa only [renA, RepA] using H
  | .nilf, v, H => by simpa only [renA, RepA] using H
  | .nili, v, H => by simpa only [renA, RepA] using H
  | .nilm, v, H => by simpa only [renA, RepA] using H
  | .yld _, v, H => by simpa only [renA, RepA] using H
  | .val _, v, H => by simpa only [renA, RepA] using H
  | .clo _, v, H => by simpa only [renA, RepA] using H
  | .sog i, v, H => by
    simp only [renA] at H
    split at H
    · rename_i j hj; simp only [RepA] at H ⊢; obtain ⟨rs, h1, h2⟩ := H; exact ⟨rs, h _ _ _ hj h1, h2⟩
    · simp only [RepA] at H
  | .epg i k, v, H => by
    simp only [renA] at H
    split at H
    · rename_i j hj; simp only [RepA] at H ⊢; obtain ⟨b, n, c, rs, h1, h2⟩ := H; exact ⟨b, n, c, rs, h _ _ _ hj h1, h2⟩
    · simp only [RepA] at H
  | .row i k, v, H => by
    simp only [renA] at H
    split at H
    · rename_i j hj; simp only [RepA] at H ⊢; obtain ⟨hd, rs, h1, h2⟩ := H; exact ⟨hd, rs, h _ _ _ hj h1, h2⟩
    · simp only [RepA] at H
  | .epr i k sz z o, v, H => by
    simp only [renA] at H
    split at H
    · rename_i j hj; simp only [RepA] at H ⊢; obtain ⟨hd, rs, b, n, c, h1, h2⟩ := H; exact ⟨hd, rs, b, n, c, h _ _ _ hj h1, h2⟩
    · simp only [RepA] at H
  | .any, v, H => by simp only [RepA]
  | .bad, v, H => by simp only [renA, RepA] at H
theorem renL_fwd (h : ∀ (i j : Nat) (u : Value), σ[i]? = some j → ρ[j]? = some u → ρ1[i]? = some u) : ∀ (as' : List AV) {vs : List Value}, RepL m ρ (renL σ as') vs → RepL m ρ1 as' vs
  | [], [], H => by simp only [RepL]
  | [], _ :: _, H => by simp only [renL, RepL] at H
  | _ :: _, [], H => by simp only [renL, RepL] at H
  | a :: r, v :: vs, H => by simp only [renL, RepL] at H ⊢; exact ⟨ren_fwd h a H.1, renL_fwd h r H.2⟩
end
mutual
theorem ren_bwd (h : ∀ (i : Nat) (u : Value), ρ1[i]? = some u → ∃ j, σ[i]? = some j ∧ ρ[j]? = some u) : ∀ (a : AV) {v : Value}, RepA m ρ1 a v → RepA m ρ (renA σ a) v
  | .rp cs, v, H => by simp only [renA, RepA] at H ⊢; obtain ⟨b, o, us, h1, h2, h3⟩ := H; exact ⟨b, o, us, h1, renL_bwd h cs h2, h3⟩
  | .agg cs, v, H => by simp only [renA, RepA] at H ⊢; obtain ⟨us, h1, h2, h3⟩ := H; exact ⟨us, h1, renL_bwd h cs h2, h3⟩
  | .tup cs, v, H => by simp only [renA, RepA] at H ⊢; obtain ⟨us, h1, h2⟩ := H; exact ⟨us, h1, renL_bwd h cs h2⟩
  | .ptr i o, v, H => by
    simp only [RepA] at H
    obtain ⟨b, h1, h2⟩ := H
    obtain ⟨j, h3, h4⟩ := h _ _ h1
    simp only [renA, h3, RepA]; exact ⟨b, h4, h2⟩
  | .osl i, v, H => by
    simp only [RepA] at H
    obtain ⟨j, h3, h4⟩ := h _ _ H.1
    simp only [renA, h3, RepA]; exact ⟨h4, H.2⟩
  | .ep i sz z o, v, H => by
    simp only [RepA] at H
    obtain ⟨b, n, c, h1, h2⟩ := H
    obtain ⟨j, h3, h4⟩ := h _ _ h1
    simp only [renA, h3, RepA]; exact ⟨b, n, c, h4, h2⟩
  | .map i, v, H => by
    simp only [RepA] at H
    obtain ⟨j, h3, h4⟩ := h _ _ H.1
    simp only [renA, h3, RepA]; exact ⟨h4, H.2⟩
  | .fn f first caps, v, H => by simp only [renA, RepA] at H ⊢; obtain ⟨us, ws, h1, h2, h3⟩ := H; exact ⟨us, ws, h1, renL_bwd h first h2, renL_bwd h caps h3⟩
  | .int .., v, H => by simpa only [renA, RepA] using H
  | .bool .., v, H => by simpa only [renA, RepA] using H
  | .str .., v, H => by simpa only [renA, RepA] using H
  | .sl .., v, H => by simpa only [renA, RepA] using H
  | .nils, v, H => by simpa only [renA, RepA] using H
  | .nilp, v, H => by simpa only [renA, RepA] using H
  | .nilf, v, H => by simpa only [renA, RepA] using H
  | .nili, v, H => by simpa only [renA, RepA] using H
  | .nilm, v, H => by simpa only [renA, RepA] using H
  | .yld _, v, H => by simpa only [renA, RepA] using H
  | .val _, v, H => by simpa only [renA, RepA] using H
  | .clo _, v, H => by simpa only [renA, RepA] using H
  | .sog i, v, H => by
    simp only [RepA] at H
    obtain ⟨rs, h1, h2⟩ := H
    obtain ⟨j, h3, h4⟩ := h _ _ h1
    simp only [renA, h3, RepA]; exact ⟨rs, h4, h2⟩
  | .epg i k, v, H => by
    simp only [RepA] at H
    obtain ⟨b, n, c, rs, h1, h2⟩ := H
    obtain ⟨j, h3, h4⟩ := h _ _ h1
    simp only [renA, h3, RepA]; exact ⟨b, n, c, rs, h4, h2⟩
  | .row i k, v, H => by
    simp only [RepA] at H
    obtain ⟨hd, rs, h1, h2⟩ := H
    obtain ⟨j, h3, h4⟩ := h _ _ h1
    simp only [renA, h3, RepA]; exact ⟨hd, rs, h4, h2⟩
  | .epr i k sz z o, v, H => by
    simp only [RepA] at H
    obtain ⟨hd, rs, b, n, c, h1, h2⟩ := H
    obtain ⟨j, h3, h4⟩ := h _ _ h1
    simp only [renA, h3, RepA]; exact ⟨hd, rs, b, n, c, h4, h2⟩
  | .any, v, H => by simp only [renA, RepA]
  | .bad, v, H => by simp only [RepA] at H
theorem renL_bwd (h : ∀ (i : Nat) (u : Value), ρ1[i]? = some u → ∃ j, σ[i]? = some j ∧ ρ[j]? = some u) : ∀ (as' : List AV) {vs : List Value}, RepL m ρ1 as' vs → RepL m ρ (renL σ as') vs
  | [], [], H => by simp only [renL, RepL]
  | [], _ :: _, H => by simp only [RepL] at H
  | _ :: _, [], H => by simp only [RepL] at H
  | a :: r, v :: vs, H => by simp only [renL, RepL] at H ⊢; exact ⟨ren_bwd h a H.1, renL_bwd h r H.2⟩
end
theorem ORep.fwd (h : ∀ (i j : Nat) (u : Value), σ[i]? = some j → ρ[j]? = some u → ρ1[i]? = some u) {o : AO} {u : Value} {f : Frag} (H : ORep m ρ (o.ren σ) u f) : ORep m ρ1 o u f := by
  cases o with
  | dead => exact H
  | var T cs => obtain ⟨b, us, h1, h2, h3, h4⟩ := H; exact ⟨b, us, h1, h2, renL_fwd h cs h3, h4⟩
  | sl T t x => exact H
  | map tk tv x => exact H
  | slo => exact H
  | guest => exact H
theorem ORep.bwd (h : ∀ (i : Nat) (u : Value), ρ1[i]? = some u → ∃ j, σ[i]? = some j ∧ ρ[j]? = some u) {o : AO} {u : Value} {f : Frag} (H : ORep m ρ1 o u f) : ORep m ρ (o.ren σ) u f := by
  cases o with
  | dead => exact H
  | var T cs => obtain ⟨b, us, h1, h2, h3, h4⟩ := H; exact ⟨b, us, h1, h2, renL_bwd h cs h3, h4⟩
  | sl T t x => exact H
  | map tk tv x => exact H
  | slo => exact H
  | guest => exact H
end

/-! contracts -/
structure OsRep (m : Mem) (ρ : List Value) (H : List AO) (φ : List Frag) : Prop where
  nρ : ρ.length = H.length
  nφ : φ.length = H.length
  at_ : ∀ (i : Nat) (o : AO) (h : Value) (f : Frag), H[i]? = some o → ρ[i]? = some h → φ[i]? = some f → ORep m ρ o h f

/-- What a call does. -/
def Runs (P : Program) (f : FuncId) (args : List AV) (H : List AO) (R : List AV → List AO → Prop) : Prop :=
  ∀ (e w : World) (m : Mem) (ρ : List Value) (φ : List Frag) (F : Frag) (vs : List Value), RepL m ρ args vs → OsRep m ρ H φ → SH e w m (φ.flatten ++ F) →
    Ret P f vs.toArray w fun v w' => ∃ rs H' m' ρ' φ', R rs H' ∧ m.le m' ∧ (∀ (i : Nat) (h : Value), ρ[i]? = some h → ρ'[i]? = some h) ∧ H.length ≤ H'.length ∧ OsRep m' ρ' H' φ' ∧ SH e w' m' (φ'.flatten ++ F) ∧ ∃ us, RepL m' ρ' rs us ∧ v = tupleOf us

/-- A call that owns nothing, and gives 'rs'. -/
abbrev RunsP (P : Program) (f : FuncId) (args rs : List AV) : Prop := Runs P f args [] fun r H' => r = rs ∧ H' = []

def tupA : List AV → AV
  | [a] => a
  | l => .tup l
theorem rep_tup {m : Mem} {ρ : List Value} : ∀ {rs : List AV} {us : List Value}, RepL m ρ rs us → RepA m ρ (tupA rs) (tupleOf us) := by
  intro rs us h
  match rs, us with
  | [], [] => simp only [tupA, tupleOf, RepA]; exact ⟨[], rfl, h⟩
  | [], _ :: _ => simp [RepL] at h
  | _ :: _, [] => simp [RepL] at h
  | [a], [u] => simp only [RepL, and_true] at h; exact h
  | [a], _ :: _ :: _ => simp [RepL] at h
  | a :: b :: r, [u] => simp [RepL] at h
  | a :: b :: r, u :: v :: us => simp only [tupA, tupleOf, RepA]; exact ⟨_, rfl, h⟩

theorem flatten_range (φ : List Frag) : φ.flatten = (List.range φ.length).flatMap fun i => φ.getD i [] := by
  induction φ with
  | nil => rfl
  | cons f φ ih =>
    rw [List.flatten_cons, List.length_cons, List.range_succ_eq_map, List.flatMap_cons, List.flatMap_map, ih]
    simp

theorem range_split {n : Nat} {σ : List Nat} (hn : σ.Nodup) (hl : ∀ i ∈ σ, i < n) : (List.range n).Perm (σ ++ (List.range n).filter fun i => !σ.contains i) := by
  rw [List.perm_ext_iff_of_nodup List.nodup_range]
  · intro a
    simp only [List.mem_range, List.mem_append, List.mem_filter, Bool.not_eq_true', List.contains_eq_mem, decide_eq_false_iff_not]
    constructor
    · intro h
      by_cases e : a ∈ σ
      · exact .inl e
      · exact .inr ⟨h, e⟩
    · rintro (h | h)
      · exact hl a h
      · exact h.1
  · rw [List.nodup_append]
    refine ⟨hn, List.Pairwise.filter _ List.nodup_range, ?_⟩
    intro a ha b hb e
    subst e
    simp only [List.mem_filter, Bool.not_eq_true', List.contains_eq_mem, decide_eq_false_iff_not] at hb
    exact hb.2 ha

/-- All that is there and not owned is read alone. -/
def allM (w : World) (f : Frag) : Mem := fun b => if (f.map (·.1)).contains b then none else (w.heap[b]?).filter fun o => !ctl o
theorem sh_all {e w : World} {m : Mem} {f : Frag} (h : SH e w m f) : SH e w (allM w f) f ∧ m.le (allM w f) := by
  refine ⟨⟨h.os, h.tape, h.output, ?_, h.own, h.nd, ?_, h.noctl, ?_⟩, ?_⟩
  · intro b o hb
    unfold allM at hb
    split at hb
    · cases hb
    · exact (Option.filter_eq_some_iff.1 hb).1
  · intro p hp
    unfold allM
    rw [if_pos]
    simp only [List.contains_eq_mem, decide_eq_true_eq]
    exact List.mem_map.2 ⟨p, hp, rfl⟩
  · intro b o hb
    unfold allM at hb
    split at hb
    · cases hb
    · simpa using (Option.filter_eq_some_iff.1 hb).2
  · intro b o hb
    unfold allM
    rw [if_neg]
    · exact Option.filter_eq_some_iff.2 ⟨h.fz b o hb, by simp [h.mctl b o hb]⟩
    · simp only [List.contains_eq_mem, decide_eq_true_eq]
      intro hm
      obtain ⟨p, hp, he⟩ := List.mem_map.1 hm
      have := h.dis p hp
      rw [he, hb] at this; cases this
theorem below_all {e w w' : World} {m' : Mem} {f : Frag} (h : SH e w (allM w f) f) (h' : SH e w' m' f) (hm : (allM w f).le m') (hs : w.heap.size ≤ w'.heap.size) (hd : DK none w w') : Below w.heap.size w w' := by
  refine ⟨h'.os.trans h.os.symm, h'.tape.trans h.tape.symm, h'.output.trans h.output.symm, hs, fun k hk => ?_⟩
  have hk' : w.heap[k]? = some (w.heap[k]'hk) := Array.getElem?_eq_getElem hk
  by_cases hf : (f.map (·.1)).contains k
  · simp only [List.contains_eq_mem, decide_eq_true_eq] at hf
    obtain ⟨p, hp, rfl⟩ := List.mem_map.1 hf
    rw [h'.own p hp, h.own p hp]
  · cases hc : ctl (w.heap[k]'hk) with
    | true => rw [hk']; exact hd k _ hk' hc (by simp)
    | false =>
      have h1 : allM w f k = some (w.heap[k]'hk) := by unfold allM; rw [if_neg hf, hk']; simp [Option.filter, hc]
      rw [hk', h'.fz _ _ (hm _ _ h1)]

section
variable {P : Program} {N : Ev} {X : Cx} {Q : APost} {st : AS}
variable {d : Nat} {T U T' : TypeId} {pos : String} {aft : Array Edge} {g : Option (Nat × Bool)} {x y : Operand} {k ky : IntKind} {a b : Int}

/-- A call that owns nothing. -/
theorem ret_pure {f : FuncId} {as' rs : List AV} {fr : Fr} {w : World} {m : Mem} {ρ : List Value} {φ : List Frag} {vs : List Value} (hr : RunsP P f as' rs) (hcl : renL [] as' = as') (hc : Conc X st fr w m ρ φ) (hv : RepL m ρ as' vs) :
    Ret P f vs.toArray w fun v w' => Below w.heap.size w w' ∧ ∃ m', m.le m' ∧ SH X.e w' m' (φ.flatten ++ X.F) ∧ RepA m' ρ (tupA rs) v := by
  obtain ⟨h1, h2⟩ := sh_all hc.sh
  have hv' : RepL (allM w (φ.flatten ++ X.F)) [] as' vs := by
    refine RepL.mono h2 (fun _ _ h => h) as' ?_
    refine renL_fwd (σ := []) (ρ := ρ) (fun i j u hi _ => by simp at hi) as' ?_
    rw [hcl]; exact hv
  have := hr X.e w _ [] [] (φ.flatten ++ X.F) vs hv' ⟨rfl, rfl, fun i o h f hi => by simp at hi⟩ (by simpa using h1)
  refine Calls.mono this ?_
  rintro e w' ⟨v, he, hd, rs', H', m', ρ', φ', ⟨rfl, rfl⟩, hm, _, _, ho, hs, us, hu, rfl⟩
  have hρ : ρ' = [] := List.eq_nil_of_length_eq_zero ho.nρ
  have hφ : φ' = [] := List.eq_nil_of_length_eq_zero ho.nφ
  subst hρ hφ
  have hs' : SH X.e w' m' (φ.flatten ++ X.F) := by simpa using hs
  exact ⟨_, he, hd, below_all h1 hs' hm hd.2 hd.1, m', h2.trans hm, hs', RepA.mono (Mem.le_refl _) (fun i h hi => by simp at hi) _ (rep_tup hu)⟩

theorem av_call {f : FuncId} {xs : List Operand} {as' rs : List AV} {ts : Array TypeId} {r : AV} (hr : RunsP P f as' rs) (hf : Enters P f) (hx : xs.map (aev st.l) = as'.map some) (hrs : tupA rs = r) (hcl : renL [] as' = as' := by rfl) (hN : Nat.blt d N.n = true := by rfl) :
    AOpV P N X ⟨some d, .call ⟨.value (.func f), xs.toArray, ts⟩, U, pos, aft, g⟩ r st := by
  intro Q fr w m ρ φ hc
  obtain ⟨vs, h1, h2⟩ := hc.evl hx
  subst hrs
  refine op_call hf h1 (ret_pure hr hcl hc h2) hN ?_
  rintro v w' ⟨hb, m', h3, h4, h5⟩
  exact ⟨d, v, rfl, rfl, hb, m', h3, h4, h5⟩
/-- A call of a function value. -/
theorem av_callv {f : FuncId} {fx : Operand} {first caps : List AV} {xs : List Operand} {as' bs rs : List AV} {ts : Array TypeId} {r : AV} (hfx : aev st.l fx = some (.fn f first caps)) (hr : RunsP P f bs rs) (hf : Enters P f) (hx : xs.map (aev st.l) = as'.map some) (hbs : first ++ as' ++ caps = bs) (hrs : tupA rs = r) (hcl : renL [] bs = bs := by rfl) (hN : Nat.blt d N.n = true := by rfl) :
    AOpV P N X ⟨some d, .call ⟨.value fx, xs.toArray, ts⟩, U, pos, aft, g⟩ r st := by
  intro Q fr w m ρ φ hc
  obtain ⟨vs, h1, h2⟩ := hc.evl hx
  obtain ⟨v, h3, h4⟩ := hc.ev hfx
  simp only [RepA] at h4
  obtain ⟨us, ws, rfl, h5, h6⟩ := h4
  subst hrs hbs
  refine op_callv (args := (us ++ vs ++ ws).toArray) h3 hf h1 (by simp) (ret_pure hr hcl hc ((h5.app h2).app h6)) hN ?_
  rintro v w' ⟨hb, m', h7, h8, h9⟩
  exact ⟨d, v, rfl, rfl, hb, m', h7, h8, h9⟩

theorem av_extract {i : Nat} {vs : List AV} {v : AV} (hx : aev st.l x = some (.tup vs)) (hv : vs[i]? = some v) (hN : Nat.blt d N.n = true := by rfl) : AOpV P N X ⟨some d, .extract x i, U, pos, aft, g⟩ v st :=
  av_of rfl fun Q fr w m ρ φ hc => by
    obtain ⟨p, h1, h2⟩ := hc.ev hx
    simp only [RepA] at h2
    obtain ⟨us, rfl, h3⟩ := h2
    obtain ⟨u, h4, h5⟩ := h3.get hv
    exact ⟨u, h5, fun K hk => op_extract h1 (by simpa using h4) hN hk⟩
theorem av_makeFunc {f : FuncId} {fs cs : List Operand} {us vs : List AV} (h1 : fs.map (aev st.l) = us.map some) (h2 : cs.map (aev st.l) = vs.map some) (hN : Nat.blt d N.n = true := by rfl) : AOpV P N X ⟨some d, .makeFunc (.func f) fs.toArray cs.toArray, U, pos, aft, g⟩ (.fn f us vs) st :=
  av_of rfl fun Q fr w m ρ φ hc => by
    obtain ⟨p, h3, h4⟩ := hc.evl h1
    obtain ⟨q, h5, h6⟩ := hc.evl h2
    refine ⟨_, ?_, fun K hk => op_makeFunc h3 h5 hN hk⟩
    simp only [RepA]
    exact ⟨p, q, rfl, h4, h6⟩

theorem RepL.cells {m : Mem} {ρ : List Value} {a : AV} {v : Value} (h : RepA m ρ a v) (h1 : v.oneCell' = true) : v.cells = #[v] := by
  cases v <;> simp [Value.oneCell'] at h1 <;> rfl
end

/-! into a function -/
def argA : Nat → List AV → AFr
  | _, [] => []
  | i, a :: r => (i, a) :: argA (i + 1) r
theorem arg_rep {m : Mem} {ρ : List Value} : ∀ {as' : List AV} {vs : List Value} {i : Nat}, RepL m ρ as' vs → ∀ t a, (argA i as').look t = some a → ∃ v, (argFr i vs).look t = some v ∧ RepA m ρ a v := by
  intro as'
  induction as' with
  | nil => intro vs i h t a ht; simp [argA, AFr.look] at ht
  | cons b as' ih =>
    intro vs i h t a ht
    cases vs with
    | nil => simp [RepL] at h
    | cons v vs =>
      simp only [RepL] at h
      rw [argA, AFr.look_cons] at ht
      rw [argFr, Fr.look_cons]
      split
      · rename_i e; rw [if_pos e] at ht; cases ht; exact ⟨v, rfl, h.1⟩
      · rename_i e; rw [if_neg e] at ht; exact ih h.2 t a ht
def zipH : Nat → List AO → AH
  | _, [] => []
  | i, o :: r => (i, o) :: zipH (i + 1) r
theorem zipH_get : ∀ {H : List AO} {i j : Nat} {o : AO}, H[j]? = some o → AH.get (zipH i H) (i + j) = o := by
  intro H
  induction H with
  | nil => intro i j o h; simp at h
  | cons p H ih =>
    intro i j o h
    rw [zipH, AH.get_cons]
    cases j with
    | zero => simp at h; simp [h]
    | succ j =>
      rw [if_neg (by omega), show i + (j + 1) = (i + 1) + j by omega]
      exact ih (by simpa using h)

/-- What is read from a result's variable. -/
def AOut1 (P : Program) (l : AFr) : ResultVar → AV → Prop
  | .tmp t, a => l.look t = some a
  | .cell x T, a => ∃ r, l.look x = some (.rp (a :: r)) ∧ TyS P T false 1
def AOuts (P : Program) (l : AFr) : List ResultVar → List AV → Prop
  | [], [] => True
  | r :: rs, a :: as' => AOut1 P l r a ∧ AOuts P l rs as'
  | _, _ => False
def aretQ (P : Program) (rs : List ResultVar) (k : Nat) (R : List AV → List AO → Prop) : APost
  | .normal, st | .ret, st => ∃ as' H', AOuts P st.l rs as' ∧ (List.range st.n).map st.H.get = H' ∧ Nat.ble k st.n = true ∧ R as' H'
  | _, _ => False

theorem aouts {P : Program} {X : Cx} {st : AS} {fr : Fr} {w : World} {m : Mem} {ρ : List Value} {φ : List Frag} (hc : Conc X st fr w m ρ φ) : ∀ {rs : List ResultVar} {as' : List AV}, AOuts P st.l rs as' → ∃ vs, OutsAt P fr w rs vs ∧ RepL m ρ as' vs := by
  intro rs
  induction rs with
  | nil => intro as' h; cases as' with
    | nil => exact ⟨[], trivial, by simp [RepL]⟩
    | cons => exact h.elim
  | cons r rs ih => intro as' h; cases as' with
    | nil => exact h.elim
    | cons a as' =>
      obtain ⟨h1, h2⟩ := h
      obtain ⟨vs, h3, h4⟩ := ih h2
      cases r with
      | tmp t =>
        obtain ⟨v, h5, h6⟩ := hc.slots t a h1
        exact ⟨v :: vs, ⟨h5, h3⟩, by simp only [RepL]; exact ⟨h6, h4⟩⟩
      | cell x T =>
        obtain ⟨r, h5, hT⟩ := h1
        obtain ⟨v, h6, h7⟩ := hc.slots x _ h5
        simp only [RepA] at h7
        obtain ⟨b, o, us, rfl, h8, h9, _⟩ := h7
        obtain ⟨u, us', rfl, h10, _⟩ := h8.one1
        exact ⟨u :: vs, ⟨⟨_, h6, run_loadVar_one hT.1 (h9.cells hc.sh).head⟩, h3⟩, by simp only [RepL]; exact ⟨h10, h4⟩⟩

theorem runs_of {P : Program} {f : FuncId} {fn : Func} {c : Code} {n : Nat} {args : List AV} {H : List AO} {R : List AV → List AO → Prop} {rs : List ResultVar} (hf : P.funcs[f]? = some fn) (hN : fn.ntmps = n) (hb : fn.body = some c) (hr : fn.results = rs.toArray) (hle : Nat.ble args.length n = true)
    (h : ∀ (w0 : World) (X : Cx), X.ρ.length = H.length → AWC P ⟨n, none, w0, none, false⟩ X c (aretQ P rs H.length R) ⟨argA 0 args, zipH 0 H, H.length⟩) : Runs P f args H R := by
  intro e w m ρ φ F vs hv ho hs
  have hl := hv.len
  refine ret_of hf hb hN (by rw [hl]; exact hle) hr ?_
  have hc : Conc ⟨e, m, ρ, F⟩ ⟨argA 0 args, zipH 0 H, H.length⟩ (argFr 0 vs) w m ρ φ := by
    refine ⟨Mem.le_refl _, fun _ _ h => h, ho.nρ, ho.nφ, arg_rep hv, ?_, hs⟩
    intro i hd f hi hf
    have hil : i < H.length := by rw [← ho.nρ]; exact (List.getElem?_eq_some_iff.1 hi).1
    have hH : H[i]? = some (H[i]'hil) := List.getElem?_eq_getElem hil
    have := zipH_get (i := 0) hH
    rw [Nat.zero_add] at this
    show ORep m ρ (AH.get (zipH 0 H) i) hd f
    rw [this]
    exact ho.at_ i _ hd f hH hi hf
  refine WC.mono ?_ (h w ⟨e, m, ρ, F⟩ ho.nρ _ _ _ _ _ hc)
  rintro ex l w' ⟨st, m', ρ', φ', hc', hq⟩
  have key : aretQ P rs H.length R .normal st → ∃ vs, OutsAt P l w' rs vs ∧ ∃ rs' H' m'' ρ' φ', R rs' H' ∧ m.le m'' ∧ (∀ (i : Nat) (h : Value), ρ[i]? = some h → ρ'[i]? = some h) ∧ H.length ≤ H'.length ∧ OsRep m'' ρ' H' φ' ∧ SH e w' m'' (φ'.flatten ++ F) ∧ ∃ us, RepL m'' ρ' rs' us ∧ tupleOf vs = tupleOf us := by
    rintro ⟨as', H', h1, rfl, hk, hR⟩
    obtain ⟨us, h2, h3⟩ := aouts hc' h1
    refine ⟨us, h2, as', _, m', ρ', φ', hR, hc'.mle, hc'.pre, ?_, ⟨?_, ?_, ?_⟩, hc'.sh, us, h3, rfl⟩
    · simpa using Nat.le_of_ble_eq_true hk
    · simpa using hc'.nρ
    · simpa using hc'.nφ
    · intro i o hd f hi hh hf
      rw [List.getElem?_map] at hi
      obtain ⟨j, hj, rfl⟩ := Option.map_eq_some_iff.1 hi
      have hil := (List.getElem?_eq_some_iff.1 hj).1
      rw [List.getElem?_range (by simpa using hil)] at hj
      cases hj
      exact hc'.objs i hd f hh hf
  cases ex with
  | normal => exact key hq
  | ret => exact key hq
  | _ => exact hq.elim
end Go.Ab
