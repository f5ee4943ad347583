/- Lemmas for a law of the seat: what functions of the program do, each stated as a contract of its own (module EngA). -/
import Derived.Below
import Derived.Orders
import Derived.Tactics2
import Derived.LoopTactic
import Derived.RowKit3
import Derived.KernelRfl
set_option linter.unusedVariables false
set_option linter.unusedSimpArgs false
namespace Go.Eng
open Go.RowKit

/-! frames as lists of (slot, value); the newest entry of a slot stands first -/
abbrev Fr := List (Nat × Value)

def Fr.look : Fr → Nat → Option Value
  | [], _ => none
  | (d, v) :: l, t => bif Nat.beq d t then some v else Fr.look l t

def evo (l : Fr) : Operand → Option Value
  | .tmp t => l.look t
  | .const v => some v
  | .global g => some (.pointer (some ⟨g, 0, none⟩))
  | .func f => some (.func (.func f) #[] #[])

/-- The frame's entries are what the slots hold. -/
structure Holds (N : Nat) (l : Fr) (a : Act) : Prop where
  size : a.tmps.size = N
  defers : a.defers = []
  slot : ∀ t v, l.look t = some v → a.tmps[t]? = some v

theorem Holds.eval {N : Nat} {l : Fr} {a : Act} (h : Holds N l a) {x : Operand} {v : Value} (hx : evo l x = some v) : a.eval x = v := by
  cases x with
  | tmp t =>
    have := h.slot t v hx
    simp [Act.eval, this]
  | const c => simpa [evo, Act.eval] using hx
  | global g => simpa [evo, Act.eval] using hx
  | func f => simpa [evo, Act.eval] using hx

theorem Fr.look_cons (d : Nat) (v : Value) (l : Fr) (t : Nat) : Fr.look ((d, v) :: l) t = if d = t then some v else Fr.look l t := by
  simp only [Fr.look]
  by_cases h : d = t
  · subst h; simp
  · have : Nat.beq d t = false := by
      rw [Bool.eq_false_iff]; intro hc; exact h (Nat.eq_of_beq_eq_true hc)
    simp [this, h]

theorem Holds.put {N : Nat} {l : Fr} {a : Act} (h : Holds N l a) {d : Nat} (hd : d < N) (v : Value) : Holds N ((d, v) :: l) (a.put (some d) v) := by
  refine ⟨by simp [Act.put, h.size], h.defers, ?_⟩
  intro t u ht
  rw [Fr.look_cons] at ht
  split at ht
  · rename_i e; subst e
    cases ht
    simp [Act.put, h.size, hd]
  · rename_i e
    simp only [Act.put]
    rw [Array.getElem?_setIfInBounds_ne e]
    exact h.slot t u ht

/-- Every entry of 'l'' is in 'l'. -/
def Sub : Fr → Fr → Prop
  | [], _ => True
  | (d, v) :: r, l => l.look d = some v ∧ Sub r l

theorem Sub.look {l' l : Fr} (h : Sub l' l) {t : Nat} {v : Value} (ht : l'.look t = some v) : l.look t = some v := by
  induction l' with
  | nil => simp [Fr.look] at ht
  | cons p r ih =>
    obtain ⟨d, u⟩ := p
    rw [Fr.look_cons] at ht
    split at ht
    · rename_i e; subst e; cases ht; exact h.1
    · exact ih h.2 ht

theorem Holds.sub {N : Nat} {l l' : Fr} {a : Act} (h : Holds N l a) (hs : Sub l' l) : Holds N l' a :=
  ⟨h.size, h.defers, fun t v ht => h.slot t v (hs.look ht)⟩

/-! posts over frames -/
abbrev Post := Exit → Fr → World → Prop

def up (N : Nat) (Q : Post) : Exit → Act → World → Prop := fun e a w => ∃ l, Holds N l a ∧ Q e l w

def thenK (K : Fr → World → Prop) (Q : Post) : Post
  | .normal, l, w => K l w
  | e, l, w => Q e l w

def WC (P : Program) (N : Nat) (c : Code) (Q : Post) (l : Fr) (w : World) : Prop := ∀ a, Holds N l a → c.wp P (up N Q) a w
def WL (P : Program) (N : Nat) (ops : Array Oper) (Q : Post) (rest : List Oper) (l : Fr) (w : World) : Prop := ∀ a, Holds N l a → wpList P ops (up N Q) rest a w

/-- One operation, without its guard. -/
def OpW (P : Program) (N : Nat) (o : Oper) (K : Fr → World → Prop) (Q : Post) (l : Fr) (w : World) : Prop :=
  ∀ a, Holds N l a → ∀ Q' : Exit → Act → World → Prop, (∀ e a w, up N Q e a w → Q' e a w) → o.wp P a w (up N (thenK K Q) .normal) Q' ∨ (o.asks P a w ∧ LetsOut Q')

section
variable {P : Program} {N : Nat} {Q : Post} {l : Fr} {w : World}

theorem WC.sub {c : Code} (l' : Fr) (hs : Sub l' l) (h : WC P N c Q l' w) : WC P N c Q l w := fun a ha => h a (ha.sub hs)

theorem WC.mono {c : Code} {Q' : Post} (hq : ∀ e l w, Q e l w → Q' e l w) (h : WC P N c Q l w) : WC P N c Q' l w :=
  fun a ha => wp_mono (h a ha) fun _ _ _ ⟨l, hl, q⟩ => ⟨l, hl, hq _ _ _ q⟩

theorem wc_seq {c d : Code} (h : WC P N c (thenK (WC P N d Q) Q) l w) : WC P N (.seq c d) Q l w := by
  intro a ha
  refine wp_seq (wp_mono (h a ha) ?_)
  rintro e a' w' ⟨l', hl', q⟩
  cases e with
  | normal => exact q a' hl'
  | _ => exact ⟨l', hl', q⟩

theorem wc_skip (h : Q .normal l w) : WC P N .skip Q l w := fun a ha => wp_skip ⟨l, ha, h⟩
theorem wc_label {n : Nat} (h : Q .normal l w) : WC P N (.label n) Q l w := fun a ha => wp_label ⟨l, ha, h⟩
theorem wc_exit {id : Nat} (h : Q (.exit id) l w) : WC P N (.exit id) Q l w := fun a ha => wp_exit ⟨l, ha, h⟩
theorem wc_ret (h : Q .ret l w) : WC P N .ret Q l w := fun a ha => wp_ret ⟨l, ha, h⟩

theorem wc_cond {c : Operand} {x y : Code} {b : Bool} (hc : evo l c = some (.bool b)) (ht : b = true → WC P N x Q l w) (hf : b = false → WC P N y Q l w) :
    WC P N (.cond c x y) Q l w :=
  fun a ha => wp_cond_split (ha.eval hc) (fun h => ht h a ha) (fun h => hf h a ha)

/-- A test whose outcome is known. -/
theorem wc_cond_t {c : Operand} {x y : Code} (hc : evo l c = some (.bool true)) (ht : WC P N x Q l w) : WC P N (.cond c x y) Q l w :=
  fun a ha => wp_cond_true (ha.eval hc) (ht a ha)
theorem wc_cond_f {c : Operand} {x y : Code} (hc : evo l c = some (.bool false)) (hf : WC P N y Q l w) : WC P N (.cond c x y) Q l w :=
  fun a ha => wp_cond_false (ha.eval hc) (hf a ha)

def blockQ (id : Nat) (Q : Post) : Post
  | .exit id', l, w => bif Nat.beq id' id then Q .normal l w else Q (.exit id') l w
  | e, l, w => Q e l w

theorem wc_block {id : Nat} {c : Code} (h : WC P N c (blockQ id Q) l w) : WC P N (.block id c) Q l w := by
  intro a ha
  refine wp_block (wp_mono (h a ha) ?_)
  rintro e a' w' ⟨l', hl', q⟩
  cases e with
  | exit id' =>
    simp only [Exit.inBlock]
    simp only [blockQ] at q
    by_cases e : id' = id
    · subst e
      rw [if_pos rfl]
      rw [show Nat.beq id' id' = true by simp] at q
      exact ⟨l', hl', q⟩
    · rw [if_neg e]
      have : Nat.beq id' id = false := by
        rw [Bool.eq_false_iff]; intro hc; exact e (Nat.eq_of_beq_eq_true hc)
      rw [this] at q
      exact ⟨l', hl', q⟩
  | _ => exact ⟨l', hl', q⟩

theorem wp_loopG {P : Program} {c : Code} {Q : Exit → Act → World → Prop} {a : Act} {w : World} {σ : Type} (I : σ → Act → World → Prop) (μ : σ → Nat) (s₀ : σ) (h₀ : I s₀ a w)
    (round : ∀ s a w, I s a w → c.wp P (Exit.then (fun a' w' => ∃ s', I s' a' w' ∧ μ s' < μ s) Q) a w) : (Code.loop c).wp P Q a w := by
  intro b k cs
  have key : ∀ n s a w, μ s = n → I s a w →
      ∃ e a' w', Q e a' w' ∧ Arrives P (lone (b.at a (.code c :: .inLoop c :: k)) cs w) b k cs e a' w' := by
    intro n
    induction n using Nat.strongRecOn with
    | _ n ih =>
      intro s a w hn hI
      obtain ⟨e, a₁, w₁, hq, harr⟩ := round s a w hI b (.inLoop c :: k) cs
      cases e with
      | normal =>
        obtain ⟨s₁, hI₁, hlt⟩ := hq
        obtain ⟨e₂, a₂, w₂, hq₂, harr₂⟩ := ih (μ s₁) (hn ▸ hlt) s₁ a₁ w₁ rfl hI₁
        exact ⟨e₂, a₂, w₂, hq₂, .of_steps (Steps.trans harr (.one step_inLoop)) harr₂⟩
      | exit id => exact ⟨_, a₁, w₁, hq, .pass (x := .inLoop c) rfl (fun _ _ => .inl (by simp)) harr⟩
      | goto l => exact ⟨_, a₁, w₁, hq, .pass (x := .inLoop c) rfl (fun _ _ => .inl (by simp)) harr⟩
      | ret => exact ⟨_, a₁, w₁, hq, .pass (x := .inLoop c) rfl (fun _ _ => .inl (by simp)) harr⟩
      | panic ch => exact ⟨_, a₁, w₁, hq, .pass (x := .inLoop c) rfl (fun _ _ => .inl (by simp)) harr⟩
      | outgrown => exact ⟨_, a₁, w₁, hq, .pass (x := .inLoop c) rfl (fun _ _ => .inl (by simp)) harr⟩
  obtain ⟨e, a', w', hq, harr⟩ := key _ s₀ a w rfl h₀
  exact ⟨e, a', w', hq, .of_steps (.one step_loop) harr⟩

/-- A loop over a state of the proof's own. -/
theorem wc_loop {c : Code} {σ : Type} (fr : σ → Fr) (wd : σ → World) (inv : σ → Prop) (μ : σ → Nat) (s₀ : σ) (hi : inv s₀) (hl : Sub (fr s₀) l) (hw : wd s₀ = w)
    (body : ∀ s, inv s → WC P N c (thenK (fun l' w' => ∃ s', inv s' ∧ μ s' < μ s ∧ Sub (fr s') l' ∧ wd s' = w') Q) (fr s) (wd s)) : WC P N (.loop c) Q l w := by
  intro a ha
  refine wp_loopG (fun s a w => inv s ∧ Holds N (fr s) a ∧ wd s = w) μ s₀ ⟨hi, ha.sub hl, hw⟩ ?_
  rintro s a w ⟨h1, h2, rfl⟩
  refine wp_mono (body s h1 a h2) ?_
  rintro e a' w' ⟨l', hl', q⟩
  cases e with
  | normal =>
    obtain ⟨s', i', m', u', w'⟩ := q
    exact ⟨s', ⟨i', hl'.sub u', w'⟩, m'⟩
  | _ => exact ⟨l', hl', q⟩

/-! regions whose order is the text's -/
theorem wc_region {id : Nat} {ops : List Oper} (h : WL P N ops.toArray Q ops l w) : WC P N (.region id ops.toArray false) Q l w :=
  fun a ha => wp_region_lit (h a ha)

theorem wl_nil {ops : Array Oper} {K : Fr → World → Prop} (h : K l w) : WL P N ops (thenK K Q) [] l w := fun a ha => wpList_nil ⟨l, ha, h⟩

theorem up_then {K : Fr → World → Prop} {ops : Array Oper} {rest : List Oper} {a : Act} (h : up N (thenK (fun l w => WL P N ops Q rest l w) Q) .normal a w) : wpList P ops (up N Q) rest a w := by
  obtain ⟨l, hl, h⟩ := h
  exact h a hl

/-- An operation that nothing guards. -/
theorem wl_op {ops : Array Oper} {o : Oper} {rest : List Oper} (hg : o.guard = none) (h : OpW P N o (fun l w => WL P N ops Q rest l w) Q l w) : WL P N ops Q (o :: rest) l w := by
  intro a ha
  unfold wpList
  rw [if_pos (by simp [Region.wanted, hg])]
  rcases h a ha (up N Q) (fun _ _ _ h => h) with h | h
  · left
    refine Oper.wp_mono ?_ h
    rintro a w ⟨l', hl', h⟩
    exact h a hl'
  · exact .inr h

theorem yielded_of {ops : Array Oper} {a : Act} {j d : Nat} {b : Bool} (ha : Holds N l a) (hj : (ops[j]?).bind (·.dst) = some d) (hb : l.look d = some (.bool b)) : yielded ops a.tmps j = some b := by
  simp [yielded, hj, ha.slot _ _ hb]

/-- A guarded operation whose guard lets it run. -/
theorem wl_guard_t {ops : Array Oper} {o : Oper} {rest : List Oper} {j d : Nat} {b : Bool} (hg : o.guard = some (j, b)) (hj : (ops[j]?).bind (·.dst) = some d) (hb : l.look d = some (.bool b))
    (h : OpW P N o (fun l w => WL P N ops Q rest l w) Q l w) : WL P N ops Q (o :: rest) l w := by
  intro a ha
  unfold wpList
  rw [if_pos (by simp [Region.wanted, hg, yielded_of ha hj hb])]
  rcases h a ha (up N Q) (fun _ _ _ h => h) with h | h
  · left
    refine Oper.wp_mono ?_ h
    rintro a w ⟨l', hl', h⟩
    exact h a hl'
  · exact .inr h

/-- A guarded operation that is passed over. -/
theorem wl_guard_f {ops : Array Oper} {o : Oper} {rest : List Oper} {j d e : Nat} {b b' : Bool} (hg : o.guard = some (j, b)) (hj : (ops[j]?).bind (·.dst) = some d) (hb : l.look d = some (.bool b')) (hne : b' ≠ b)
    (hd : o.dst = some e) (hN : e < N) (h : WL P N ops Q rest ((e, undef) :: l) w) : WL P N ops Q (o :: rest) l w := by
  intro a ha
  unfold wpList
  rw [if_neg (by simp [Region.wanted, hg, yielded_of ha hj hb, hne])]
  exact h _ (by rw [hd]; exact ha.put hN _)
end
end Go.Eng
