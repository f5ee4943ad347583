/- Lemmas for a law of the seat: what functions of the program do, each stated as a contract of its own (D). -/
import Derived.Test.YtigjjobjdajkfaaDoorC
import Derived.Test.YtigjjobjdajkfaaDoorTDd
import Derived.Lib.ItoaNum
set_option linter.unusedVariables false
namespace Go.Ab

/-! layer 29: how many cuts there are: the program -/
def nxt (l : List Act) (v : List Int) (b : Nat) : List Int := v.set (nd l b).toNat (v.getD (nd l b).toNat 0 + 1)
/-- An event may be the next one. -/
def Can (l : List Act) (v : List Int) (b : Nat) : Prop := b < l.length ∧ (idx l b : Int) = v.getD (nd l b).toNat 0 + 1 ∧ ∀ j, Pst l j b → InC l v j
/-- A cut that is reached event by event. -/
inductive RchN (n : Nat) (l : List Act) : Nat → List Int → Prop
  | zero : RchN n l 0 (List.replicate n 0)
  | step {d : Nat} {v : List Int} {b : Nat} : RchN n l d v → Can l v b → RchN n l (d + 1) (nxt l v b)
def Rch (n : Nat) (l : List Act) (v : List Int) : Prop := ∃ d, RchN n l d v
theorem rch_zero {n : Nat} {l : List Act} : Rch n l (List.replicate n 0) := ⟨0, .zero⟩
theorem Rch.step {n : Nat} {l : List Act} {v : List Int} {b : Nat} (h : Rch n l v) (k : Can l v b) : Rch n l (nxt l v b) := let ⟨d, h⟩ := h; ⟨d + 1, .step h k⟩
theorem RchN.ok {n : Int} {l : List Act} (hok : Ok n l) {d : Nat} {v : List Int} (h : RchN n.toNat l d v) : v.length = n.toNat ∧ (∀ p : Nat, p < n.toNat → 0 ≤ v.getD p 0 ∧ v.getD p 0 ≤ cnt l p l.length) ∧ sumD v n.toNat = d := by
  induction h with
  | zero =>
    refine ⟨by simp, fun p hp => ?_, ?_⟩
    · rw [getD_rep hp]; omega
    · have : ∀ k, k ≤ n.toNat → sumD (List.replicate n.toNat 0) k = 0 := by
        intro k
        induction k with
        | zero => intro _; rfl
        | succ k ih => intro hk; simp only [sumD]; rw [ih (by omega), getD_rep (by omega)]; rfl
      simpa using this _ (Nat.le_refl _)
  | @step d v b h k ih =>
    obtain ⟨h1, h2, h3⟩ := ih
    obtain ⟨k1, k2, k3⟩ := k
    have hb := hok.nd b k1
    unfold nxt
    refine ⟨by simpa using h1, fun p hp => ?_, ?_⟩
    · rw [getD_set (by omega)]
      split
      · rename_i e
        rw [← k2]
        have := idx_tot (l := l) k1
        rw [← e, show (((nd l b).toNat : Nat) : Int) = nd l b by omega]
        have := idx_pos (l := l) (j := b)
        omega
      · exact h2 p hp
    · rw [sumD_set (by omega), if_pos (by omega), h3]; omega
theorem Rch.ok {n : Int} {l : List Act} (hok : Ok n l) {v : List Int} (h : Rch n.toNat l v) : v.length = n.toNat ∧ (∀ p : Nat, p < n.toNat → 0 ≤ v.getD p 0 ∧ v.getD p 0 ≤ cnt l p l.length) := let ⟨_, h⟩ := h; ⟨(h.ok hok).1, (h.ok hok).2.1⟩
theorem can_iff {n : Int} {l : List Act} (hok : Ok n l) {v : List Int} (hl : v.length = n.toNat) {b : Nat} (hb : b < l.length) (he : (idx l b : Int) = v.getD (nd l b).toNat 0 + 1) : (∀ j, j < l.length → (j = b ∨ Pst l j b) → InC l (nxt l v b) j) ↔ ∀ j, Pst l j b → InC l v j := by
  have hnb := hok.nd b hb
  have hg : ∀ p : Nat, (nxt l v b).getD p 0 = if (nd l b).toNat = p then v.getD (nd l b).toNat 0 + 1 else v.getD p 0 := fun p => by
    unfold nxt; rw [getD_set (by omega)]
  constructor
  · intro h j hj
    have hjl := hj.lt
    have hnj := hok.nd j (by omega)
    have := h j (by omega) (.inr hj)
    unfold InC at this ⊢
    rw [hg] at this
    by_cases e : nd l j = nd l b
    · rw [e] at this ⊢
      have := idx_lt hjl e
      omega
    · rwa [if_neg (by omega)] at this
  · intro h j hj hor
    unfold InC
    rw [hg]
    have hnj := hok.nd j hj
    rcases hor with rfl | hp
    · rw [if_pos rfl]; omega
    · have := h j hp
      unfold InC at this
      split
      · rename_i e
        rw [show nd l j = nd l b by omega] at this
        omega
      · exact this

theorem nodup_le {α : Type} [DecidableEq α] : ∀ {a b : List α}, a.Nodup → (∀ x, x ∈ a → x ∈ b) → a.length ≤ b.length := by
  intro a
  induction a with
  | nil => intro b _ _; exact Nat.zero_le _
  | cons x a ih =>
    intro b hn h
    rw [List.nodup_cons] at hn
    have hx := h x List.mem_cons_self
    have h1 := ih (b := b.erase x) hn.2 fun y hy => by
      have hne : y ≠ x := fun e => hn.1 (e ▸ hy)
      exact (List.mem_erase_of_ne hne).2 (h y (List.mem_cons_of_mem _ hy))
    rw [List.length_erase_of_mem hx] at h1
    have := List.length_pos_of_mem hx
    simp only [List.length_cons]; omega
/-- What the count is. -/
def CutsR (n : Nat) (l : List Act) (r : Int × Int) : Prop := (r = (0, 4) ∧ ∃ V : List (List Int), V.Nodup ∧ (∀ v, v ∈ V → Rch n l v) ∧ 100000 < V.length) ∨ ∃ V : List (List Int), V.Nodup ∧ (∀ v, v ∈ V ↔ Rch n l v) ∧ V.length ≤ 100000 ∧ r = ((V.length : Int), 0)
theorem CutsR.uniq {n : Nat} {l : List Act} {r q : Int × Int} (h : CutsR n l r) (k : CutsR n l q) : r = q := by
  rcases h with ⟨h0, V, h1, h2, h3⟩ | ⟨V, h1, h2, h3, h4⟩ <;> rcases k with ⟨k0, W, k1, k2, k3⟩ | ⟨W, k1, k2, k3, k4⟩
  · rw [h0, k0]
  · have := nodup_le h1 fun x hx => (k2 x).2 (h2 x hx)
    omega
  · have := nodup_le k1 fun x hx => (h2 x).2 (k2 x hx)
    omega
  · have a := nodup_le h1 fun x hx => (k2 x).2 ((h2 x).1 hx)
    have b := nodup_le k1 fun x hx => (h2 x).2 ((k2 x).1 hx)
    rw [h4, k4, show V.length = W.length by omega]

/-! the events of each node -/
structure OfOk (l : List Act) (n i : Nat) (s : List (List Int)) : Prop where
  len : s.length = n
  row : ∀ p : Nat, p < n → (s.getD p default).length = cnt l p i ∧ ∀ k, k < (s.getD p default).length → ∃ b : Nat, (s.getD p default).getD k default = (b : Int) ∧ b < i ∧ nd l b = p ∧ idx l b = k + 1
theorem of_t {n : Int} {l : List Act} (hok : Ok n l) : Tot (rng (d6_b0 l) l.length 0 (List.replicate n.toNat [])) fun o => ∃ s, o = .inl s ∧ OfOk l n.toNat l.length s := by
  refine tot_rng (fun i s => OfOk l n.toNat i s) ⟨by simp, fun p hp => ?_⟩ fun i s hi H => ?_
  · rw [getD_rep hp]; exact ⟨rfl, fun k hk => absurd hk (by simp)⟩
  · have hni := hok.nd i hi
    have hN := hok.len
    have hl := H.len
    unfold d6_b0
    refine tot_ix hi ?_
    have e1 : (l.getD i default).1 = nd l i := rfl
    rw [e1]
    refine tot_ixz hni.1 (by omega) ?_
    obtain ⟨r1, r2⟩ := H.row (nd l i).toNat (by omega)
    rw [show (((nd l i).toNat : Nat) : Int) = nd l i by omega] at r1
    have hc := cnt_le (l := l) (p := nd l i) (a := i)
    refine tot_need (ap8 (by omega) (by simp)) (tot_some ⟨_, rfl, by simpa using hl, fun p hp => ?_⟩)
    rw [getD_set (by omega)]
    split
    · rename_i e
      have ep : (p : Int) = nd l i := by omega
      rw [ep]
      refine ⟨?_, fun k hk => ?_⟩
      · rw [List.length_append, r1]; simp only [cnt, List.length_cons, List.length_nil, if_true]
      · rw [getD_app]
        split
        · rename_i hk2
          obtain ⟨b, b1, b2, b3, b4⟩ := r2 k hk2
          exact ⟨b, b1, by omega, by rw [b3]; omega, b4⟩
        · have ek : k = (s.getD (nd l i).toNat default).length := by
            rw [List.length_append] at hk
            simp only [List.length_cons, List.length_nil] at hk
            omega
          refine ⟨i, by rw [ek, Nat.sub_self]; rfl, by omega, rfl, ?_⟩
          rw [idx_eq, ek, r1]
    · rename_i e
      obtain ⟨q1, q2⟩ := H.row p hp
      refine ⟨?_, fun k hk => ?_⟩
      · rw [q1]; simp only [cnt]; rw [if_neg (by omega)]; rfl
      · obtain ⟨b, b1, b2, b3, b4⟩ := q2 k hk
        exact ⟨b, b1, by omega, b3, b4⟩

/-! places of sixteen -/
def pad (n : Nat) (v : List Int) : List Int := v ++ List.replicate (16 - n) 0
section
variable {n : Nat} {v : List Int} (hl : v.length = n) (hn : n ≤ 16)
include hl
theorem pad_get {p : Nat} (hp : p < n) : (pad n v).getD p 0 = v.getD p 0 := by unfold pad; rw [getD_app, if_pos (by omega)]
theorem pad_set {p : Nat} {x : Int} (hp : p < n) : (pad n v).set p x = pad n (v.set p x) := by unfold pad; rw [List.set_append_left _ _ (by omega)]
theorem pad_take : (pad n v).take n = v := by unfold pad; rw [List.take_left' hl]
include hn
theorem pad_len : (pad n v).length = 16 := by unfold pad; simp; omega
theorem pad_beq : Nat.beq (pad n v).length 16 = true := by rw [pad_len hl hn]; rfl
theorem pad_aix {p : Nat} (hp : p < n) : aix 16 (pad n v) (p : Int) = some (v.getD p 0) := by
  unfold aix
  rw [pad_beq hl hn]
  simp only [cond_true]
  rw [ix_getD (by rw [pad_len hl hn]; omega)]
  exact congrArg some (pad_get hl hp)
end
theorem pad_inj {n : Nat} {v w : List Int} (hv : v.length = n) (hw : w.length = n) (h : pad n v = pad n w) : v = w := by
  rw [← pad_take hv, ← pad_take hw, h]
theorem pad_zero {n : Nat} (hn : n ≤ 16) : pad n (List.replicate n 0) = List.replicate 16 0 := by
  unfold pad
  rw [List.replicate_append_replicate]
  congr 1; omega

/-- What has been seen, what is left. -/
structure DInv (n : Nat) (l : List Act) (s : List (List Int × Bool)) (t : List (List Int)) : Prop where
  nod : (s.map (·.1)).Nodup
  tr : ∀ q, (mget s q).getD false = decide (q ∈ s.map (·.1))
  rc : ∀ k, k ∈ s.map (·.1) → ∃ u, Rch n l u ∧ k = pad n u
  st : ∀ k, k ∈ t → k ∈ s.map (·.1)
  z : pad n (List.replicate n 0) ∈ s.map (·.1)
  le : s.length ≤ 100000
def Closed (n : Nat) (l : List Act) (s : List (List Int × Bool)) (t : List (List Int)) (ex : List Int → Prop) : Prop := ∀ u, Rch n l u → pad n u ∈ s.map (·.1) → pad n u ∉ t → ¬ ex u → ∀ b, Can l u b → pad n (nxt l u b) ∈ s.map (·.1)
theorem mset_len {α β : Type} [DecidableEq α] {x : List (α × β)} {k : α} {v : β} (h : k ∉ x.map (·.1)) : (mset x k v).map (·.1) = x.map (·.1) ++ [k] ∧ (mset x k v).length = x.length + 1 := by
  have h1 := mset_keys x k v
  rw [if_neg h] at h1
  exact ⟨h1, by have := congrArg List.length h1; simpa using this⟩

theorem inner_t {n : Int} {l : List Act} (hok : Ok n l) (h16 : l.length ≤ 60) {m : List (List Int)} (hm : GClk n l m) {s10 : List (List Int)} (hof : OfOk l n.toNat l.length s10) {v : List Int} (hv : Rch n.toNat l v) {s : List (List Int × Bool)} {t : List (List Int)} (hD : DInv n.toNat l s t) (hvk : pad n.toNat v ∈ s.map (·.1)) (hcl : Closed n.toNat l s t (· = v)) (hts : t.length ≤ s.length) :
    Tot (rng (d6_b2 n m s10 (pad n.toNat v)) n.toNat 0 (s, t)) fun o => (∃ s' t', o = .inl (s', t') ∧ DInv n.toNat l s' t' ∧ Closed n.toNat l s' t' (fun _ => False) ∧ t'.length + s.length = s'.length + t.length ∧ s.length ≤ s'.length) ∨ (o = .inr () ∧ ∃ V : List (List Int), V.Nodup ∧ (∀ v, v ∈ V → Rch n.toNat l v) ∧ 100000 < V.length) := by
  obtain ⟨n1, n2⟩ := hok.n
  have hn16 : n.toNat ≤ 16 := by omega
  obtain ⟨hl, hrg⟩ := hv.ok hok
  have hN := hok.len
  refine (tot_rngx (fun i (st : List (List Int × Bool) × List (List Int)) => DInv n.toNat l st.1 st.2 ∧ pad n.toNat v ∈ st.1.map (·.1) ∧ Closed n.toNat l st.1 st.2 (· = v) ∧ (∀ b, (nd l b).toNat < i → Can l v b → pad n.toNat (nxt l v b) ∈ st.1.map (·.1)) ∧ (st.2.length + s.length = st.1.length + t.length ∧ s.length ≤ st.1.length)) (fun _ => ∃ V : List (List Int), V.Nodup ∧ (∀ v, v ∈ V → Rch n.toNat l v) ∧ 100000 < V.length) ⟨hD, hvk, hcl, fun b hb => absurd hb (by omega), Nat.add_comm _ _, Nat.le_refl _⟩ fun i st hi H => ?_).mono fun o ho => ?_
  · obtain ⟨s', t'⟩ := st
    obtain ⟨D, K, C, cur, hlen, hge⟩ := H
    simp only at D K C cur hlen hge
    obtain ⟨r1, r2⟩ := hof.row i hi
    have hsl := hof.len
    have hri := hrg i hi
    -- what is known where nothing is added
    have same : (∀ b, (nd l b).toNat = i → Can l v b → pad n.toNat (nxt l v b) ∈ s'.map (·.1)) → ∃ s1 : List (List Int × Bool) × List (List Int), (Sum.inl (s', t') : (List (List Int × Bool) × List (List Int)) ⊕ Unit) = .inl s1 ∧ (DInv n.toNat l s1.1 s1.2 ∧ pad n.toNat v ∈ s1.1.map (·.1) ∧ Closed n.toNat l s1.1 s1.2 (· = v) ∧ (∀ b, (nd l b).toNat < i + 1 → Can l v b → pad n.toNat (nxt l v b) ∈ s1.1.map (·.1)) ∧ (s1.2.length + s.length = s1.1.length + t.length ∧ s.length ≤ s1.1.length)) := fun h => ⟨_, rfl, D, K, C, fun b hb hc => by
      rcases Nat.lt_or_ge (nd l b).toNat i with q | q
      · exact cur b q hc
      · exact h b (by omega) hc, hlen, hge⟩
    unfold d6_b2
    simp only
    refine Tot.bind (Q := fun o => (∃ s1 : List (List Int × Bool) × List (List Int), o = .inl s1 ∧ (DInv n.toNat l s1.1 s1.2 ∧ pad n.toNat v ∈ s1.1.map (·.1) ∧ Closed n.toNat l s1.1 s1.2 (· = v) ∧ (∀ b, (nd l b).toNat < i + 1 → Can l v b → pad n.toNat (nxt l v b) ∈ s1.1.map (·.1)) ∧ (s1.2.length + s.length = s1.1.length + t.length ∧ s.length ≤ s1.1.length))) ∨ ∃ r : Unit, o = .inr r ∧ ∃ V : List (List Int), V.Nodup ∧ (∀ v, v ∈ V → Rch n.toNat l v) ∧ 100000 < V.length) ?_ fun o ho => ?_
    · rw [pad_aix hl hn16 hi, Option.bind_some]
      refine tot_ix (by omega) ?_
      refine tot_if (fun h => ?_) (fun h => ?_)
      · have h := of_decide_eq_true h
        rw [r1] at h
        refine tot_some (.inl (same fun b hb hc => ?_))
        have hnb := hok.nd b hc.1
        have := idx_tot (l := l) hc.1
        have h2 := hc.2.1
        rw [hb, h, show (i : Int) = nd l b by omega] at h2
        omega
      · have h := of_decide_eq_false h
        rw [r1] at h
        have hk : (v.getD i 0).toNat < (s10.getD i default).length := by omega
        refine tot_ixz hri.1 (by omega) ?_
        obtain ⟨b, b1, b2, b3, b4⟩ := r2 _ hk
        rw [b1]
        refine tot_ix (by rw [hm.1]; exact b2) ?_
        have hbn : (nd l b).toNat = i := by omega
        have hidx : (idx l b : Int) = v.getD (nd l b).toNat 0 + 1 := by rw [hbn]; omega
        have hle := idx_tot (l := l) b2
        have hcle := cnt_le (l := l) (p := nd l b) (a := l.length)
        have hw : w64 (v.getD i 0 + 1) = v.getD i 0 + 1 := w64_id (by constructor <;> omega)
        have enx : (pad n.toNat v).set (Int.toNat (i : Int)) (w64 (v.getD i 0 + 1)) = pad n.toNat (nxt l v b) := by
          rw [Int.toNat_natCast, hw, pad_set hl hi]
          unfold nxt; rw [hbn]
        rw [enx]
        have hnl : (nxt l v b).length = n.toNat := by unfold nxt; simpa using hl
        rw [pad_beq hnl hn16]
        refine tot_need rfl (tot_need (slOk_t (by omega) (by omega) (by omega)) ?_)
        rw [pad_take hnl]
        have ck := hm.2 b b2
        refine (f70_t (by rw [ck.len, hnl])).bind fun r hr => ?_
        have hcut : CutOk n (nxt l v b) := ⟨by rw [hnl]; omega, fun p hp => by
          unfold nxt
          rw [getD_set (by omega)]
          split
          · have := hrg (nd l b).toNat (by omega); omega
          · exact (hrg p (by omega)).1⟩
        have hcan : r = true ↔ Can l v b := by
          rw [hr, below_iff hok hcut ck, can_iff hok hl b2 hidx]
          exact ⟨fun h => ⟨b2, hidx, h⟩, fun h => h.2.2⟩
        have huq : ∀ b', (nd l b').toNat = i → Can l v b' → b' = b := fun b' h1 h2 => by
          have hnb := hok.nd b' h2.1
          refine idx_inj (l := l) (by omega) ?_
          have := h2.2.1
          rw [h1] at this
          rw [hbn] at hidx
          omega
        simp only [Bool.or_true, cond_true]
        rw [D.tr]
        refine tot_if (fun h => ?_) (fun h => ?_)
        · refine tot_some (.inl (same fun b' h1 h2 => ?_))
          have e := huq b' h1 h2
          subst e
          rw [hcan.2 h2] at h
          simpa using h
        · rw [Bool.or_eq_false_iff, decide_eq_false_iff_not] at h
          obtain ⟨h1, hnew⟩ := h
          have hc : Can l v b := hcan.1 (by simpa using h1)
          have hrn := hv.step hc
          obtain ⟨q1, q2⟩ := mset_len (v := true) hnew
          have hmem : ∀ k, k ∈ (mset s' (pad n.toNat (nxt l v b)) true).map (·.1) ↔ k ∈ s'.map (·.1) ∨ k = pad n.toNat (nxt l v b) := fun k => by rw [q1]; simp
          have hnod : ((mset s' (pad n.toNat (nxt l v b)) true).map (·.1)).Nodup := mset_nodup _ _ D.nod
          have hrc : ∀ k, k ∈ (mset s' (pad n.toNat (nxt l v b)) true).map (·.1) → ∃ u, Rch n.toNat l u ∧ k = pad n.toNat u := fun k hk => by
            rcases (hmem k).1 hk with h | h
            · exact D.rc k h
            · exact ⟨_, hrn, h⟩
          refine tot_if (fun h => tot_some (.inr ⟨(), rfl, ((mset s' (pad n.toNat (nxt l v b)) true).map (·.1)).map (List.take n.toNat), ?_, ?_, ?_⟩)) (fun h => ?_)
          · unfold List.Nodup
            rw [List.pairwise_map]
            refine List.Pairwise.imp_of_mem (fun {x y} hx hy hne e => ?_) hnod
            obtain ⟨u, u1, rfl⟩ := hrc x hx
            obtain ⟨w, w1, rfl⟩ := hrc y hy
            rw [pad_take (u1.ok hok).1, pad_take (w1.ok hok).1] at e
            exact hne (by rw [e])
          · intro x hx
            obtain ⟨y, hy, rfl⟩ := List.mem_map.1 hx
            obtain ⟨u, u1, rfl⟩ := hrc y hy
            rw [pad_take (u1.ok hok).1]; exact u1
          · have := of_decide_eq_true h
            rw [List.length_map, List.length_map]; omega
          · have h := of_decide_eq_false h
            have hap : apOk 128 (t'.length + [pad n.toNat (nxt l v b)].length) = true := apOk_t (by
              have := D.le
              simp only [List.length_cons, List.length_nil]
              omega)
            refine tot_need hap (tot_some (.inl ⟨_, rfl, ⟨hnod, fun q => ?_, hrc, fun k hk => ?_, ?_, by rw [q2]; omega⟩, ?_, ?_, ?_, ?_⟩))
            · rw [mget_mset]
              by_cases e : q = pad n.toNat (nxt l v b)
              · rw [if_pos e, decide_eq_true ((hmem q).2 (.inr e))]; rfl
              · rw [if_neg e, D.tr]
                exact decide_eq_decide.2 ⟨fun h => (hmem q).2 (.inl h), fun h => ((hmem q).1 h).resolve_right e⟩
            · rw [hmem]
              rcases List.mem_append.1 hk with h | h
              · exact .inl (D.st k h)
              · exact .inr (List.mem_singleton.1 h)
            · exact (hmem _).2 (.inl D.z)
            · exact (hmem _).2 (.inl K)
            · intro u hu hk hnt hne b' hb'
              rw [hmem] at hk ⊢
              have hnt' : pad n.toNat u ∉ t' := fun h => hnt (List.mem_append.2 (.inl h))
              have hk' := hk.resolve_right fun e => hnt (List.mem_append.2 (.inr (by rw [e]; simp)))
              exact .inl (C u hu hk' hnt' hne b' hb')
            · intro b' hb' hc'
              rw [hmem]
              rcases Nat.lt_or_ge (nd l b').toNat i with q | q
              · exact .inl (cur b' q hc')
              · right; rw [huq b' (by omega) hc']
            · simp only [List.length_append, List.length_cons, List.length_nil, q2]; omega
    · rcases ho with ⟨⟨s1, s2⟩, rfl, h⟩ | ⟨r, rfl, h⟩
      · exact tot_some (.inl ⟨_, rfl, h⟩)
      · exact tot_some (.inr ⟨_, rfl, h⟩)
  · rcases ho with ⟨⟨s', t'⟩, rfl, D, K, C, cur, hlen, hge⟩ | ⟨⟨⟩, rfl, h⟩
    · refine .inl ⟨s', t', rfl, D, fun u hu hk hnt _ b hb => ?_, hlen, hge⟩
      by_cases e : u = v
      · subst e
        exact cur b (by have := hok.nd b hb.1; omega) hb
      · exact C u hu hk hnt e b hb
    · exact .inr ⟨rfl, h⟩
end Go.Ab


set_option linter.unusedVariables false
namespace Go.Ab
open Go

/-- Cuts of the program. -/
theorem d6_t {n : Int} {l : List Act} (h60 : l.length ≤ 60) : Tot (d6 n l) fun r => (¬ Ok n l ∧ r = (0, 1)) ∨ (Ok n l ∧ CutsR n.toNat l r) := by
  unfold d6
  rw [valid_p]
  simp only [Option.bind_some]
  by_cases hok : Ok n l
  rotate_left
  · refine tot_if (fun h => tot_some (.inl ⟨hok, rfl⟩)) (fun h => ?_)
    simp [hok] at h
  refine tot_if (fun h => by simp [hok] at h) (fun _ => ?_)
  obtain ⟨n1, n2⟩ := hok.n
  have hn16 : n.toNat ≤ 16 := by omega
  refine tot_if (fun h => by have := of_decide_eq_true h; omega) (fun _ => ?_)
  refine (f52_t hok).bind fun m hm => ?_
  refine tot_need (mkOk_t (by omega) (by omega)) ?_
  rw [toNat_len]
  refine (of_t hok).bind fun o ho => ?_
  obtain ⟨s10, rfl, hof⟩ := ho
  simp only
  refine tot_need rfl (tot_need rfl ?_)
  have hz := pad_zero hn16
  refine Tot.bind (Q := fun o : Unit ⊕ List (List Int × Bool) => (o = .inl () ∧ ∃ V : List (List Int), V.Nodup ∧ (∀ v, v ∈ V → Rch n.toNat l v) ∧ 100000 < V.length) ∨ ∃ s, o = .inr s ∧ ∃ V : List (List Int), V.Nodup ∧ (∀ v, v ∈ V ↔ Rch n.toNat l v) ∧ V.length ≤ 100000 ∧ V.length = s.length) ?_ fun o ho => ?_
  · refine tot_lrun (fun st : List (List Int × Bool) × List (List Int) => DInv n.toNat l st.1 st.2 ∧ Closed n.toNat l st.1 st.2 (fun _ => False) ∧ st.2.length ≤ st.1.length) (fun st => st.2.length + 2 * (100001 - st.1.length)) _ (fun st H => ?_) _ _ ?_ (by decide)
    · obtain ⟨s, t⟩ := st
      obtain ⟨D, C, hle⟩ := H
      simp only at D C hle
      have hDle := D.le
      unfold d6_b1
      simp only
      refine tot_if (fun h => ?_) (fun h => ?_)
      · have h := of_decide_eq_true h
        have hw : w64 ((t.length : Int) - 1) = ((t.length - 1 : Nat) : Int) := by rw [w64_id (by constructor <;> omega)]; omega
        rw [hw]
        refine tot_ix (by omega) ?_
        refine tot_need (slOk_t (by omega) (by omega) (by omega)) (tot_need (decide_eq_true (by omega)) ?_)
        rw [Int.toNat_natCast]
        have htop : t.getD (t.length - 1) default ∈ t := getD_mem (by omega)
        obtain ⟨v, hv, ev⟩ := D.rc _ (D.st _ htop)
        have hts : t = t.take (t.length - 1) ++ [pad n.toNat v] := by
          rw [← ev, ← take_snoc default (by omega), show t.length - 1 + 1 = t.length by omega, List.take_length]
        have hmem : ∀ k, k ∈ t ↔ k ∈ t.take (t.length - 1) ∨ k = pad n.toNat v := fun k => by
          constructor
          · intro hk
            rw [hts] at hk
            rcases List.mem_append.1 hk with q | q
            · exact .inl q
            · exact .inr (List.mem_singleton.1 q)
          · rintro (q | q)
            · exact List.mem_of_mem_take q
            · rw [q, ← ev]; exact htop
        rw [ev]
        refine (inner_t hok h60 hm hof hv (t := t.take (t.length - 1)) ⟨D.nod, D.tr, D.rc, fun k hk => D.st k (List.mem_of_mem_take hk), D.z, D.le⟩ (by rw [← ev]; exact D.st _ htop) (fun u hu hk hnt hne b hb => ?_) (by rw [List.length_take]; omega)).bind fun o ho => ?_
        · refine C u hu hk (fun q => ?_) (fun f => f) b hb
          rcases (hmem _).1 q with q | q
          · exact hnt q
          · exact hne (pad_inj (hu.ok hok).1 (hv.ok hok).1 q)
        · rcases ho with ⟨s', t', rfl, D', C', hlen, hge⟩ | ⟨rfl, hV⟩
          · rw [List.length_take] at hlen
            have hD'le := D'.le
            refine tot_some (.inl ⟨_, rfl, ⟨D', C', by simp only; omega⟩, by simp only; omega⟩)
          · exact tot_some (.inr ⟨_, rfl, .inl ⟨rfl, hV⟩⟩)
      · have h := of_decide_eq_false h
        have ht : t = [] := List.eq_nil_of_length_eq_zero (by omega)
        subst ht
        refine tot_some (.inr ⟨_, rfl, .inr ⟨s, rfl, (s.map (·.1)).map (List.take n.toNat), ?_, fun v => ?_, by simpa using hDle, by simp⟩⟩)
        · unfold List.Nodup
          rw [List.pairwise_map]
          refine List.Pairwise.imp_of_mem (fun {x y} hx hy hne e => ?_) D.nod
          obtain ⟨u, u1, rfl⟩ := D.rc x hx
          obtain ⟨w, w1, rfl⟩ := D.rc y hy
          rw [pad_take (u1.ok hok).1, pad_take (w1.ok hok).1] at e
          exact hne (by rw [e])
        · constructor
          · intro hx
            obtain ⟨y, hy, rfl⟩ := List.mem_map.1 hx
            obtain ⟨u, u1, rfl⟩ := D.rc y hy
            rw [pad_take (u1.ok hok).1]; exact u1
          · intro hv
            have hin : pad n.toNat v ∈ s.map (·.1) := by
              obtain ⟨d, hd⟩ := hv
              induction hd with
              | zero => exact D.z
              | @step d u b hu hc ih => exact C u ⟨d, hu⟩ ih (by simp) (fun f => f) b hc
            exact List.mem_map.2 ⟨_, hin, pad_take (hv.ok hok).1⟩
    · refine ⟨⟨?_, fun q => ?_, fun k hk => ?_, fun k hk => ?_, ?_, ?_⟩, fun u hu hk hnt _ b hb => ?_, ?_⟩
      · simp [mset]
      · simp only [mset, mget, List.map_cons, List.map_nil, List.mem_singleton]
        by_cases e : q = List.replicate 16 0
        · rw [if_pos e, decide_eq_true e]; rfl
        · rw [if_neg e, decide_eq_false e]; rfl
      · simp only [mset, List.map_cons, List.map_nil, List.mem_singleton] at hk
        exact ⟨_, rch_zero, by rw [hk, hz]⟩
      · simp only [mset, List.map_cons, List.map_nil]; exact hk
      · rw [hz]; simp [mset]
      · simp [mset]
      · simp only [mset, List.map_cons, List.map_nil] at hk
        exact absurd hk hnt
      · simp [mset]
  · rcases ho with ⟨rfl, V⟩ | ⟨s, rfl, V, v1, v2, v3, v4⟩
    · exact tot_some (.inr ⟨hok, .inl ⟨rfl, V⟩⟩)
    · exact tot_some (.inr ⟨hok, .inr ⟨V, v1, v2, v3, by rw [v4]⟩⟩)
end Go.Ab


set_option linter.unusedVariables false
namespace Go.Ab
open Go

/-! layer 29: how many cuts there are: the reference -/
/-- Digits of a small number. -/
def dig (k : Nat) : Str := if k < 10 then [UInt8.ofNat (48 + k)] else [UInt8.ofNat (48 + k / 10), UInt8.ofNat (48 + k % 10)]
theorem dig_inj : ∀ a, a < 100 → ∀ b, b < 100 → dig a = dig b → a = b := by decide +kernel
theorem dig_no : ∀ a, a < 100 → (32 : UInt8) ∉ dig a := by decide +kernel
theorem dig_len : ∀ a, a < 100 → (dig a).length ≤ 2 := by decide +kernel
theorem itoa_dig {k : Int} (h0 : 0 ≤ k) (h : k < 100) : Lib.itoa k = dig k.toNat := by
  unfold Lib.itoa dig
  rw [if_neg (by omega)]
  split
  · rename_i h1; exact Lib.decDigits_one h1
  · rename_i h1; exact Lib.decDigits_two h1 (by omega)
def txt (v : List Int) : Str := (v.map fun k => Lib.itoa k ++ ([32] : Str)).flatten
theorem txt_split : ∀ {p q R R' : Str}, (32 : UInt8) ∉ p → (32 : UInt8) ∉ q → p ++ (32 :: R) = q ++ (32 :: R') → p = q ∧ R = R' := by
  intro p
  induction p with
  | nil => intro q R R' _ hq h; cases q with
    | nil => simp at h; exact ⟨rfl, h⟩
    | cons b q => simp at h; exact absurd h.1 (fun e => hq (by rw [← e]; simp))
  | cons a p ih => intro q R R' hp hq h; cases q with
    | nil => simp at h; exact absurd h.1 (fun e => hp (by rw [e]; simp))
    | cons b q =>
      simp only [List.cons_append, List.cons.injEq] at h
      obtain ⟨h1, h2⟩ := ih (fun x => hp (List.mem_cons_of_mem _ x)) (fun x => hq (List.mem_cons_of_mem _ x)) h.2
      exact ⟨by rw [h.1, h1], h2⟩
theorem txt_inj : ∀ {v w : List Int}, (∀ x, x ∈ v → 0 ≤ x ∧ x < 100) → (∀ x, x ∈ w → 0 ≤ x ∧ x < 100) → txt v = txt w → v = w := by
  intro v
  induction v with
  | nil => intro w _ _ h; cases w with
    | nil => rfl
    | cons b w => unfold txt at h; simp at h
  | cons a v ih => intro w hv hw h; cases w with
    | nil => unfold txt at h; simp at h
    | cons b w =>
      have ha := hv a List.mem_cons_self
      have hb := hw b List.mem_cons_self
      unfold txt at h
      simp only [List.map_cons, List.flatten_cons, List.append_assoc, itoa_dig ha.1 ha.2, itoa_dig hb.1 hb.2] at h
      obtain ⟨h1, h2⟩ := txt_split (dig_no _ (by omega)) (dig_no _ (by omega)) h
      have h3 := dig_inj _ (by omega) _ (by omega) h1
      rw [show a = b by omega, ih (fun x hx => hv x (List.mem_cons_of_mem _ hx)) (fun x hx => hw x (List.mem_cons_of_mem _ hx)) h2]

theorem RchN.small {n : Int} {l : List Act} (hok : Ok n l) (h60 : l.length ≤ 60) {d : Nat} {v : List Int} (h : RchN n.toNat l d v) : ∀ x, x ∈ v → 0 ≤ x ∧ x < 100 := fun x hx => by
  obtain ⟨h1, h2, _⟩ := h.ok hok
  obtain ⟨j, j1, j2⟩ := mem_getD 0 hx
  have := h2 j (by omega)
  have hc := cnt_le (l := l) (p := (j : Int)) (a := l.length)
  rw [← j2]; omega
theorem RchN.level {n : Int} {l : List Act} (hok : Ok n l) {d e : Nat} {v : List Int} (h : RchN n.toNat l d v) (k : RchN n.toNat l e v) : d = e := by
  have h1 := (h.ok hok).2.2
  have h2 := (k.ok hok).2.2
  omega
theorem RchN.down {n : Nat} {l : List Act} {e : Nat} {v : List Int} (h : RchN n l e v) : ∀ d, d ≤ e → ∃ u, RchN n l d u := by
  induction h with
  | zero => intro d hd; rw [Nat.le_zero.1 hd]; exact ⟨_, .zero⟩
  | @step e v b h k ih =>
    intro d hd
    rcases Nat.lt_or_ge d (e + 1) with q | q
    · exact ih d (by omega)
    · rw [show d = e + 1 by omega]; exact ⟨_, .step h k⟩

def LevOk (n : Nat) (l : List Act) (d : Nat) (V : List (List Int)) : Prop := V.Nodup ∧ ∀ v, v ∈ V ↔ RchN n l d v
/-- What is found from the first of a level's cuts. -/
structure BInv (l : List Act) (s11 : List (List Int)) (i j : Nat) (s34 : List (Str × Bool)) (s35 : List (List Int)) : Prop where
  nod : s35.Nodup
  mem : ∀ w, w ∈ s35 ↔ ∃ k b, (k < i ∨ (k = i ∧ b < j)) ∧ k < s11.length ∧ Can l (s11.getD k default) b ∧ w = nxt l (s11.getD k default) b
  met : ∀ q, (mget s34 q).getD false = true ↔ ∃ w, w ∈ s35 ∧ txt w = q
  len : s35.length ≤ i * l.length + j

theorem whole_t {l : List Act} {at' : List Int} (hat : at'.length = l.length ∧ ∀ j, j < l.length → at'.getD j default = (idx l j : Int)) {u : List Int} {n : Int} (hok : Ok n l) (hu : u.length = n.toNat) {j : Nat} {row : List Bool} (hr : GRow l j row) (hj : j < l.length) : Tot (rng (d7_b3 l at' u row) row.length 0 true) fun o => ∃ r, o = .inl r ∧ (r = true ↔ ∀ a, Pst l a j → InC l u a) := by
  refine (tot_rng (fun i (s : Bool) => s = true ↔ ∀ a, a < i → Pst l a j → InC l u a) ⟨fun _ a ha => absurd ha (by omega), fun _ => rfl⟩ fun i s hi H => ?_).mono fun o ho => ?_
  · unfold d7_b3
    have hil : i < l.length := by rw [← hr.1]; exact hi
    have hni := hok.nd i hil
    refine tot_ix hi ?_
    have e2 : ix u (l.getD i default).1 = some (u.getD (nd l i).toNat default) := ix_int (z := nd l i) hni.1 (by rw [hu]; omega)
    simp only [ix_getD (show i < at'.length by rw [hat.1]; exact hil), ix_getD hil, Option.getD_some, e2, Option.isSome_some, Bool.or_true, cond_true]
    refine tot_some ⟨_, rfl, ?_⟩
    rw [Bool.and_eq_true, H, Bool.or_eq_true, Bool.not_eq_true', decide_eq_true_eq, hat.2 i hil]
    have hg : row.getD i default = true ↔ Pst l i j := hr.2 i hil
    constructor
    · rintro ⟨h1, h2⟩ a ha hp
      rcases Nat.lt_or_ge a i with q | q
      · exact h1 a q hp
      · have e : a = i := by omega
        subst e
        rcases h2 with h2 | h2
        · rw [hg.2 hp] at h2; cases h2
        · exact h2
    · intro h
      refine ⟨fun a ha hp => h a (by omega) hp, ?_⟩
      cases hx : row.getD i default with
      | false => exact .inl rfl
      | true => exact .inr (h i (by omega) (hg.1 hx))
  · obtain ⟨r, rfl, h⟩ := ho
    refine ⟨r, rfl, ?_⟩
    rw [h, hr.1]
    exact ⟨fun h a hp => h a (by have := hp.lt; omega) hp, fun h a _ hp => h a hp⟩
theorem text_t {l : List Act} {u : List Int} {z : Int} {x : Act} (hs : ∀ y, y ∈ u.set x.1.toNat (w64 (z + 1)) → 0 ≤ y ∧ y < 100) (hlen : u.length ≤ 16) : Tot (rng (d7_b4 u x z) (u.set x.1.toNat (w64 (z + 1))).length 0 []) fun o => o = .inl (txt (u.set x.1.toNat (w64 (z + 1)))) := by
  generalize hv : u.set x.1.toNat (w64 (z + 1)) = v at hs
  have hvl : v.length ≤ 16 := by rw [← hv]; simpa using hlen
  refine (tot_rng (fun i (s : Str) => s = txt (v.take i) ∧ s.length ≤ 3 * i) ⟨rfl, Nat.zero_le _⟩ fun i s hi H => ?_).mono fun o ho => ?_
  · obtain ⟨rfl, H⟩ := H
    unfold d7_b4
    rw [hv]
    refine tot_ix hi ?_
    have hk := hs _ (getD_mem (d := default) hi)
    have e : fItoa (v.getD i default) = some (Lib.itoa (v.getD i default)) := by
      unfold fItoa
      rw [decide_eq_true (show -9223372036854775808 ≤ v.getD i default by omega), decide_eq_true (show v.getD i default ≤ 9223372036854775807 by omega)]; rfl
    have hd : (Lib.itoa (v.getD i default)).length ≤ 2 := by rw [itoa_dig hk.1 hk.2]; exact dig_len _ (by omega)
    rw [e, Option.bind_some]
    refine tot_need (strOk_t (by simp only [List.length_cons, List.length_nil]; omega)) (tot_need (strOk_t (by simp only [List.length_append, List.length_cons, List.length_nil]; omega)) (tot_some ⟨_, rfl, ?_, by simp only [List.length_append, List.length_cons, List.length_nil]; omega⟩))
    rw [take_snoc default hi]
    unfold txt
    simp
  · obtain ⟨s, rfl, rfl, _⟩ := ho
    rw [List.take_length]

theorem event_t {n : Int} {l : List Act} (hok : Ok n l) (h60 : l.length ≤ 60) {at' : List Int} (hat : at'.length = l.length ∧ ∀ j, j < l.length → at'.getD j default = (idx l j : Int)) {P : List (List Bool)} (hP : GMat l P) {d : Nat} {s11 : List (List Int)} (hL : LevOk n.toNat l d s11) (hLl : s11.length ≤ 100000) {i : Nat} (hi : i < s11.length) {s34 : List (Str × Bool)} {s35 : List (List Int)} {j : Nat} (hj : j < l.length) (B : BInv l s11 i j s34 s35) :
    Tot (d7_b2 l at' P (s11.getD i default) (j : Int) (s34, s35)) fun o => ∃ s, o = .inl s ∧ BInv l s11 i (j + 1) s.1 s.2 := by
  obtain ⟨n1, n2⟩ := hok.n
  have hu : RchN n.toNat l d (s11.getD i default) := (hL.2 _).1 (getD_mem hi)
  generalize hue : s11.getD i default = u at hu
  obtain ⟨u1, u2, _⟩ := hu.ok hok
  have hnj := hok.nd j hj
  unfold d7_b2
  simp only
  have rch1 : ∀ w, w ∈ s35 → RchN n.toNat l (d + 1) w := fun w hw => by
    obtain ⟨k, b, _, k1, k2, rfl⟩ := (B.mem w).1 hw
    exact .step ((hL.2 _).1 (getD_mem k1)) k2
  have hlen := B.len
  have hmul : i * l.length ≤ 100000 * 60 := Nat.mul_le_mul (by omega) h60
  -- where nothing is added
  have same : (Can l u j → nxt l u j ∈ s35) → ∃ s : List (Str × Bool) × List (List Int), (Sum.inl (s34, s35) : (List (Str × Bool) × List (List Int)) ⊕ Unit) = .inl s ∧ BInv l s11 i (j + 1) s.1 s.2 := fun h => ⟨_, rfl, B.nod, fun w => by
    rw [B.mem w]
    constructor
    · rintro ⟨k, b, h1, h2⟩
      exact ⟨k, b, by omega, h2⟩
    · rintro ⟨k, b, h1, h2, h3, h4⟩
      by_cases e : k = i ∧ b = j
      · obtain ⟨rfl, rfl⟩ := e
        rw [hue] at h3 h4
        have := (B.mem w).1 (h4 ▸ h h3)
        exact this
      · exact ⟨k, b, by omega, h2, h3, h4⟩, B.met, by simp only; omega⟩
  refine Tot.bind (Q := fun o => ∃ s : List (Str × Bool) × List (List Int), o = .inl s ∧ BInv l s11 i (j + 1) s.1 s.2) ?_ fun o ho => ?_
  · refine tot_ix hj (tot_ix (by rw [hat.1]; exact hj) ?_)
    have e1 : (l.getD j default).1 = nd l j := rfl
    rw [e1]
    refine tot_ixz hnj.1 (by omega) ?_
    rw [hat.2 j hj]
    have hup := u2 (nd l j).toNat (by omega)
    have hup' : 0 ≤ u.getD (nd l j).toNat default ∧ u.getD (nd l j).toNat default ≤ cnt l ((nd l j).toNat : Nat) l.length := hup
    have hc := cnt_le (l := l) (p := (((nd l j).toNat : Nat) : Int)) (a := l.length)
    have hw : w64 (u.getD (nd l j).toNat default + 1) = u.getD (nd l j).toNat 0 + 1 := w64_id (by
      show R64 (u.getD (nd l j).toNat 0 + 1)
      constructor <;> omega)
    refine tot_if (fun h => tot_some (same fun hcan => ?_)) (fun h => ?_)
    · rw [hw] at h
      simp only [Bool.not_eq_true', decide_eq_false_iff_not] at h
      exact absurd hcan.2.1 h
    · rw [hw] at h ⊢
      have hidx : (idx l j : Int) = u.getD (nd l j).toNat 0 + 1 := by simpa using h
      refine tot_need (ap8 (a := u.length) (b := 0) (by omega) (by omega)) ?_
      refine tot_ix (by rw [hP.1]; exact hj) ?_
      have hrow := hP.2 j hj
      rw [toNat_len]
      refine (whole_t hat hok u1 hrow hj).bind fun o ho => ?_
      obtain ⟨wh, rfl, hwh⟩ := ho
      simp only
      have hcan : wh = true ↔ Can l u j := by rw [hwh]; exact ⟨fun h => ⟨hj, hidx, h⟩, fun h => h.2.2⟩
      have enx : u.set (nd l j).toNat (u.getD (nd l j).toNat 0 + 1) = nxt l u j := rfl
      rw [enx, toNat_len]
      have hsm : ∀ y, y ∈ nxt l u j → 0 ≤ y ∧ y < 100 := fun y hy => by
        obtain ⟨q, q1, q2⟩ := mem_getD 0 hy
        unfold nxt at q1 q2
        rw [List.length_set] at q1
        rw [getD_set (by omega)] at q2
        rw [← q2]
        split
        · omega
        · have := u2 q (by omega)
          have hc := cnt_le (l := l) (p := (q : Int)) (a := l.length)
          omega
      have ht := text_t (l := l) (u := u) (z := u.getD (nd l j).toNat default) (x := l.getD j default) (by rw [hw, e1]; exact hsm) (by omega)
      rw [hw, e1, enx] at ht
      refine ht.bind fun o ho => ?_
      subst ho
      simp only
      have hseen : (mget s34 (txt (nxt l u j))).getD false = true ↔ nxt l u j ∈ s35 := by
        rw [B.met]
        constructor
        · rintro ⟨w, h1, h2⟩
          rw [← txt_inj ((rch1 w h1).small hok h60) hsm h2]; exact h1
        · intro h; exact ⟨_, h, rfl⟩
      refine tot_if (fun h => ?_) (fun h => tot_some (same fun hc => ?_))
      · rw [Bool.and_eq_true, Bool.not_eq_true'] at h
        have hcn := hcan.1 h.1
        have hnew : nxt l u j ∉ s35 := fun q => by rw [hseen.2 q] at h; exact absurd h.2 (by decide)
        refine tot_need (apOk_t (by simp only [List.length_cons, List.length_nil]; omega)) (tot_some ⟨_, rfl, ?_, fun w => ?_, fun q => ?_, ?_⟩)
        · rw [List.nodup_append]
          exact ⟨B.nod, by simp, fun a ha b hb e => hnew (by rw [← List.mem_singleton.1 hb, ← e]; exact ha)⟩
        · rw [List.mem_append, B.mem, List.mem_singleton]
          constructor
          · rintro (⟨k, b, h1, h2⟩ | rfl)
            · exact ⟨k, b, by omega, h2⟩
            · exact ⟨i, j, .inr ⟨rfl, by omega⟩, hi, by rw [hue]; exact hcn, by rw [hue]⟩
          · rintro ⟨k, b, h1, h2, h3, h4⟩
            by_cases e : k = i ∧ b = j
            · obtain ⟨rfl, rfl⟩ := e
              right; rw [h4, hue]
            · exact .inl ⟨k, b, by omega, h2, h3, h4⟩
        · rw [mget_mset]
          by_cases e : q = txt (nxt l u j)
          · rw [if_pos e]
            exact ⟨fun _ => ⟨_, List.mem_append.2 (.inr (by simp)), e.symm⟩, fun _ => rfl⟩
          · rw [if_neg e, B.met]
            constructor
            · rintro ⟨w, h1, h2⟩; exact ⟨w, List.mem_append.2 (.inl h1), h2⟩
            · rintro ⟨w, h1, h2⟩
              rcases List.mem_append.1 h1 with q | q
              · exact ⟨w, q, h2⟩
              · rw [List.mem_singleton.1 q] at h2; exact absurd h2.symm e
        · simp only [List.length_append, List.length_cons, List.length_nil]; omega
      · rw [hcan.2 hc, Bool.true_and, Bool.not_eq_false'] at h
        exact hseen.1 h
  · obtain ⟨s, rfl, h⟩ := ho
    exact tot_some ⟨_, rfl, h⟩

theorem level_t {n : Int} {l : List Act} (hok : Ok n l) (h60 : l.length ≤ 60) {at' : List Int} (hat : at'.length = l.length ∧ ∀ j, j < l.length → at'.getD j default = (idx l j : Int)) {P : List (List Bool)} (hP : GMat l P) {d : Nat} {s11 : List (List Int)} (hL : LevOk n.toNat l d s11) (hLl : s11.length ≤ 100000) :
    Tot (rng (d7_b1 l at' P s11) s11.length 0 ([], [])) fun o => ∃ s, o = .inl s ∧ LevOk n.toNat l (d + 1) s.2 ∧ s.2.length ≤ 6000000 := by
  refine (tot_rng (fun i (s : List (Str × Bool) × List (List Int)) => BInv l s11 i 0 s.1 s.2) ⟨by simp, fun w => ⟨fun h => absurd h (by simp), fun ⟨k, b, h1, _⟩ => by omega⟩, fun q => ⟨fun h => by simp [mget] at h, fun ⟨w, h, _⟩ => absurd h (by simp)⟩, by simp⟩ fun i s hi H => ?_).mono fun o ho => ?_
  · obtain ⟨s22, s23⟩ := s
    unfold d7_b1
    simp only
    refine tot_ix hi ?_
    rw [toNat_len]
    refine (tot_rng (fun j (s : List (Str × Bool) × List (List Int)) => BInv l s11 i j s.1 s.2) H fun j s hj K => ?_).bind fun o ho => ?_
    · obtain ⟨a, b⟩ := s
      exact event_t hok h60 hat hP hL hLl hi hj K
    · obtain ⟨⟨a, b⟩, rfl, K⟩ := ho
      refine tot_some ⟨_, rfl, K.nod, fun w => ?_, K.met, by have := K.len; simp only at this ⊢; rw [Nat.add_mul]; omega⟩
      rw [K.mem]
      constructor
      · rintro ⟨k, b, h1, h2, h3, h4⟩
        exact ⟨k, b, by omega, h2, h3, h4⟩
      · rintro ⟨k, b, h1, h2, h3, h4⟩
        have := h3.1
        exact ⟨k, b, by omega, h2, h3, h4⟩
  · obtain ⟨s, rfl, B⟩ := ho
    refine ⟨s, rfl, ⟨B.nod, fun v => ?_⟩, ?_⟩
    · rw [B.mem]
      constructor
      · rintro ⟨k, b, _, h2, h3, rfl⟩
        exact .step ((hL.2 _).1 (getD_mem h2)) h3
      · intro h
        cases h with
        | @step _ u b hu hc =>
          obtain ⟨k, k1, k2⟩ := mem_getD default ((hL.2 u).2 hu)
          exact ⟨k, b, .inl k1, k1, by rw [k2]; exact hc, by rw [k2]⟩
    · have := B.len
      have hmul : s11.length * l.length ≤ 100000 * 60 := Nat.mul_le_mul hLl h60
      omega

/-- Cuts of the reference. -/
theorem d7_t {n : Int} {l : List Act} (hR : RA l) (h60 : l.length ≤ 60) : Tot (d7 n l) fun r => (¬ Ok n l ∧ r = (0, 1)) ∨ (Ok n l ∧ CutsR n.toNat l r) := by
  unfold d7
  rw [valid_r n l hR]
  simp only [Option.bind_some]
  by_cases hok : Ok n l
  rotate_left
  · refine tot_if (fun h => tot_some (.inl ⟨hok, rfl⟩)) (fun h => ?_)
    simp [hok] at h
  refine tot_if (fun h => by simp [hok] at h) (fun _ => ?_)
  obtain ⟨n1, n2⟩ := hok.n
  refine tot_if (fun h => by have := of_decide_eq_true h; omega) (fun _ => ?_)
  refine (f67_t hok).bind fun at' hat => (f23_t hok.len).bind fun P hP => ?_
  refine tot_need (mkOk_t (by omega) (by omega)) ?_
  refine Tot.bind (Q := fun o : Unit ⊕ Int => (o = .inl () ∧ ∃ V : List (List Int), V.Nodup ∧ (∀ v, v ∈ V → Rch n.toNat l v) ∧ 100000 < V.length) ∨ ∃ V : List (List Int), V.Nodup ∧ (∀ v, v ∈ V ↔ Rch n.toNat l v) ∧ V.length ≤ 100000 ∧ o = .inr (V.length : Int)) ?_ fun o ho => ?_
  · refine tot_lrun (fun st : Int × List (List Int) => ∃ (d : Nat) (V : List (List Int)), V.Nodup ∧ (∀ v, v ∈ V ↔ ∃ e, e < d ∧ RchN n.toNat l e v) ∧ st.1 = (V.length : Int) ∧ V.length ≤ 100000 ∧ LevOk n.toNat l d st.2 ∧ st.2.length ≤ 6000000) (fun st => 100001 - st.1.toNat) _ (fun st H => ?_) _ _ ?_ (show 100001 - (0 : Int).toNat < cutFuel by decide)
    · obtain ⟨s10, s11⟩ := st
      obtain ⟨d, V, v1, v2, v3, v4, L, Ll⟩ := H
      simp only at v3 L Ll
      subst v3
      unfold d7_b0
      simp only
      have hw : w64 ((V.length : Int) + (s11.length : Int)) = ((V.length + s11.length : Nat) : Int) := by rw [w64_id (by constructor <;> omega)]; omega
      rw [hw]
      have hnod : (V ++ s11).Nodup := by
        rw [List.nodup_append]
        refine ⟨v1, L.1, fun a ha b hb e => ?_⟩
        subst e
        obtain ⟨e, e1, e2⟩ := (v2 a).1 ha
        have := e2.level hok ((L.2 a).1 hb)
        omega
      have hmem : ∀ v, v ∈ V ++ s11 ↔ ∃ e, e < d + 1 ∧ RchN n.toNat l e v := fun v => by
        rw [List.mem_append, v2, L.2]
        constructor
        · rintro (⟨e, e1, e2⟩ | h)
          · exact ⟨e, by omega, e2⟩
          · exact ⟨d, by omega, h⟩
        · rintro ⟨e, e1, e2⟩
          rcases Nat.lt_or_ge e d with q | q
          · exact .inl ⟨e, q, e2⟩
          · right; rw [show d = e by omega]; exact e2
      refine tot_if (fun h => ?_) (fun h => ?_)
      · have hpos := of_decide_eq_true h
        refine tot_if (fun h => tot_some (.inr ⟨_, rfl, .inl ⟨rfl, V ++ s11, hnod, fun v hv => ?_, ?_⟩⟩)) (fun h => ?_)
        · obtain ⟨e, _, e2⟩ := (hmem v).1 hv; exact ⟨e, e2⟩
        · have := of_decide_eq_true h
          rw [List.length_append]; omega
        · have h := of_decide_eq_false h
          rw [toNat_len]
          refine (level_t hok h60 hat hP L (by omega)).bind fun o ho => ?_
          obtain ⟨⟨a, b⟩, rfl, L', Ll'⟩ := ho
          refine tot_some (.inl ⟨_, rfl, ⟨d + 1, V ++ s11, hnod, hmem, by simp, by rw [List.length_append]; omega, L', Ll'⟩, ?_⟩)
          simp only [Int.toNat_natCast]
          omega
      · have h := of_decide_eq_false h
        have hnil : s11 = [] := List.eq_nil_of_length_eq_zero (by omega)
        subst hnil
        refine tot_some (.inr ⟨_, rfl, .inr ⟨V, v1, fun v => ?_, v4, rfl⟩⟩)
        rw [v2]
        constructor
        · rintro ⟨e, _, e2⟩; exact ⟨e, e2⟩
        · rintro ⟨e, e2⟩
          rcases Nat.lt_or_ge e d with q | q
          · exact ⟨e, q, e2⟩
          · obtain ⟨u, hu⟩ := e2.down d q
            exact absurd ((L.2 u).2 hu) (by simp)
    · refine ⟨0, [], by simp, fun v => ⟨fun h => absurd h (by simp), fun ⟨e, e1, _⟩ => absurd e1 (by omega)⟩, rfl, by simp, ⟨by simp, fun v => ?_⟩, by simp⟩
      rw [List.mem_singleton]
      constructor
      · rintro rfl; exact .zero
      · intro h; cases h; rfl
  · rcases ho with ⟨rfl, V⟩ | ⟨V, v1, v2, v3, rfl⟩
    · exact tot_some (.inr ⟨hok, .inl ⟨rfl, V⟩⟩)
    · exact tot_some (.inr ⟨hok, .inr ⟨V, v1, v2, v3, rfl⟩⟩)

/-- CauseCounts returns true. -/
theorem d3_t (n : Int) (l : List Act) (hR : RA l) : d3 n l = some true := by
  refine Tot.eq ?_
  unfold d3
  refine (f14_t l).bind fun x1 h1 => ?_
  refine tot_if (fun h => f8_tt (tot_some rfl)) (fun h => ?_)
  have h16 : l.length ≤ 16 := by
    rw [Bool.or_eq_false_iff, decide_eq_false_iff_not] at h
    omega
  refine (d6_t (by omega)).bind fun r hr => (d7_t hR (by omega)).bind fun q hq => ?_
  have e : r = q := by
    rcases hr with ⟨h1, h2⟩ | ⟨h1, h2⟩ <;> rcases hq with ⟨k1, k2⟩ | ⟨k1, k2⟩
    · rw [h2, k2]
    · exact absurd k1 h1
    · exact absurd h1 k1
    · exact h2.uniq k2
  subst e
  rw [f8_t]
  simp only [decide_true, Bool.and_self, Bool.not_true, Option.isSome_some, Bool.or_true, cond_true, Option.getD_some]
  exact tot_some rfl
end Go.Ab

