/- Lemmas for a law of the seat: what functions of the program do, each stated as a contract of its own (module EngA). -/
import Derived.Below
import Derived.Orders
import Derived.Tactics2
import Derived.LoopTactic
import Derived.RowKit3
import Derived.KernelRfl
import Derived.OrdersIn
import Derived.TacticsIn
import Derived.RangeFuncRecord
import Derived.RangeFuncSeq
import Derived.RangeFuncCalls
set_option linter.unusedVariables false
set_option linter.unusedSimpArgs false
namespace Go.Eng
open Go.RowKit

/-! frames as lists of (slot, value); the newest entry of a slot stands first -/
abbrev Fr := List (Nat × Value)

def Fr.look : Fr → Nat → Option Value
  | [], _ => none
  | (d, v) :: l, t => bif Nat.beq d t then some v else Fr.look l t

def evo (l : Fr) : Operand → Option Value
  | .tmp t => l.look t
  | .const v => some v
  | .global g => some (.pointer (some ⟨g, 0, none⟩))
  | .func f => some (.func (.func f) #[] #[])

/-! what is no plain memory: the records of loops over functions, the blocks for their deferred calls -/
def ctl : Obj → Bool
  | .loop _ => true
  | .deferred _ => true
  | _ => false
/-- The records of loops, but for one, lie as they lay. -/
def DK (ex : Option Nat) (w w' : World) : Prop := ∀ (k : Nat) (o : Obj), w.heap[k]? = some o → ctl o = true → ex ≠ some k → w'.heap[k]? = some o
theorem DK.refl {ex : Option Nat} {w : World} : DK ex w w := fun _ _ h _ _ => h
theorem DK.trans {ex : Option Nat} {a b c : World} (h : DK ex a b) (k : DK ex b c) : DK ex a c := fun i o hi ho he => k i o (h i o hi ho he) ho he
theorem DK.of_below {ex : Option Nat} {w w' : World} (h : Below w.heap.size w w') : DK ex w w' := fun k o hk _ _ => (h.block k (Array.getElem?_eq_some_iff.1 hk).1).trans hk
theorem DK.some {ex : Option Nat} {w w' : World} (h : DK none w w') : DK ex w w' := fun i o hi ho _ => h i o hi ho (by simp)

/-- What a walk is under: how many slots; the round's loop; the world where the call began; the loop whose record may turn; whether loops over functions may leave marks. -/
structure Ev where
  n : Nat
  ro : Option Nat
  w0 : World
  ex : Option Nat
  mr : Bool

def mark (D : Nat) : Deferred := { target := .collected D, args := #[] }

structure Good (N : Ev) (a : Act) (w : World) : Prop where
  dk : DK N.ex N.w0 w
  size : N.w0.heap.size ≤ w.heap.size
  exlt : ∀ x, N.ex = some x → x < N.w0.heap.size
  marks : ∃ Ds : List Nat, a.defers = Ds.map mark ∧ (N.mr = false → Ds = []) ∧ Ds.Nodup ∧ ∀ D ∈ Ds, N.w0.heap.size ≤ D ∧ N.ex ≠ some D ∧ w.heap[D]? = some (.deferred (some []))
  rnd : ∀ l, N.ro = some l → N.ex ≠ some l ∧ ∃ r, w.heap[l]? = some (.loop r)

theorem Good.step {N : Ev} {a a' : Act} {w w' : World} (h : Good N a w) (hd : a'.defers = a.defers) (hk : DK N.ex w w') (hs : w.heap.size ≤ w'.heap.size) : Good N a' w' := by
  obtain ⟨Ds, h1, h0, h2, h3⟩ := h.marks
  exact ⟨h.dk.trans hk, Nat.le_trans h.size hs, h.exlt, ⟨Ds, hd.trans h1, h0, h2, fun D hD => ⟨(h3 D hD).1, (h3 D hD).2.1, hk D _ (h3 D hD).2.2 rfl (h3 D hD).2.1⟩⟩,
    fun l hl => let ⟨hx, r, hr⟩ := h.rnd l hl; ⟨hx, r, hk l _ hr rfl hx⟩⟩

/-- The frame's entries are what the slots hold. -/
structure Holds (N : Ev) (l : Fr) (a : Act) : Prop where
  size : a.tmps.size = N.n
  slot : ∀ t v, l.look t = some v → a.tmps[t]? = some v

theorem Holds.eval {N : Ev} {l : Fr} {a : Act} (h : Holds N l a) {x : Operand} {v : Value} (hx : evo l x = some v) : a.eval x = v := by
  cases x with
  | tmp t =>
    have := h.slot t v hx
    simp [Act.eval, this]
  | const c => simpa [evo, Act.eval] using hx
  | global g => simpa [evo, Act.eval] using hx
  | func f => simpa [evo, Act.eval] using hx

theorem Fr.look_cons (d : Nat) (v : Value) (l : Fr) (t : Nat) : Fr.look ((d, v) :: l) t = if d = t then some v else Fr.look l t := by
  simp only [Fr.look]
  by_cases h : d = t
  · subst h; simp
  · have : Nat.beq d t = false := by
      rw [Bool.eq_false_iff]; intro hc; exact h (Nat.eq_of_beq_eq_true hc)
    simp [this, h]

theorem Holds.put {N : Ev} {l : Fr} {a : Act} (h : Holds N l a) {d : Nat} (hd : d < N.n) (v : Value) : Holds N ((d, v) :: l) (a.put (some d) v) := by
  refine ⟨by simp [Act.put, h.size], ?_⟩
  intro t u ht
  rw [Fr.look_cons] at ht
  split at ht
  · rename_i e; subst e
    cases ht
    simp [Act.put, h.size, hd]
  · rename_i e
    simp only [Act.put]
    rw [Array.getElem?_setIfInBounds_ne e]
    exact h.slot t u ht

/-- Every entry of 'l'' is in 'l'. -/
def Sub : Fr → Fr → Prop
  | [], _ => True
  | (d, v) :: r, l => l.look d = some v ∧ Sub r l

theorem Sub.look {l' l : Fr} (h : Sub l' l) {t : Nat} {v : Value} (ht : l'.look t = some v) : l.look t = some v := by
  induction l' with
  | nil => simp [Fr.look] at ht
  | cons p r ih =>
    obtain ⟨d, u⟩ := p
    rw [Fr.look_cons] at ht
    split at ht
    · rename_i e; subst e; cases ht; exact h.1
    · exact ih h.2 ht

theorem Holds.sub {N : Ev} {l l' : Fr} {a : Act} (h : Holds N l a) (hs : Sub l' l) : Holds N l' a :=
  ⟨h.size, fun t v ht => h.slot t v (hs.look ht)⟩

/-! posts over frames -/
abbrev Post := Exit → Fr → World → Prop

/-- Every function may be called, as deep as need be; in a round or not. -/
def FW (ro : Option Nat) : Fence := { fn := fun _ => True, depth := none, alive := false, round := ro }

def up (N : Ev) (Q : Post) : Exit → Act → World → Prop := fun e a w => ∃ l, Holds N l a ∧ Good N a w ∧ Q e l w

def thenK (K : Fr → World → Prop) (Q : Post) : Post
  | .normal, l, w => K l w
  | e, l, w => Q e l w

def WC (P : Program) (N : Ev) (c : Code) (Q : Post) (l : Fr) (w : World) : Prop := ∀ a, Holds N l a → Good N a w → c.wpIn (FW N.ro) 0 P (up N Q) a w
def WL (P : Program) (N : Ev) (ops : Array Oper) (Q : Post) (rest : List Oper) (l : Fr) (w : World) : Prop := ∀ a, Holds N l a → Good N a w → wpListIn (FW N.ro) 0 P ops (up N Q) rest a w

/-- One operation, without its guard. -/
def OpW (P : Program) (N : Ev) (o : Oper) (K : Fr → World → Prop) (Q : Post) (l : Fr) (w : World) : Prop :=
  ∀ a, Holds N l a → Good N a w → o.wpIn (FW N.ro) 0 P a w (up N (thenK K Q) .normal) (up N Q)

section
variable {P : Program} {N : Ev} {Q : Post} {l : Fr} {w : World}

theorem WC.sub {c : Code} (l' : Fr) (hs : Sub l' l) (h : WC P N c Q l' w) : WC P N c Q l w := fun a ha hg => h a (ha.sub hs) hg

theorem WC.mono {c : Code} {Q' : Post} (hq : ∀ e l w, Q e l w → Q' e l w) (h : WC P N c Q l w) : WC P N c Q' l w :=
  fun a ha hg => wpIn_mono (h a ha hg) fun _ _ _ ⟨l, hl, g, q⟩ => ⟨l, hl, g, hq _ _ _ q⟩

theorem wc_seq {c d : Code} (h : WC P N c (thenK (WC P N d Q) Q) l w) : WC P N (.seq c d) Q l w := by
  intro a ha hg
  refine wpIn_seq (wpIn_mono (h a ha hg) ?_)
  rintro e a' w' ⟨l', hl', g', q⟩
  cases e with
  | normal => exact q a' hl' g'
  | _ => exact ⟨l', hl', g', q⟩

theorem wc_skip (h : Q .normal l w) : WC P N .skip Q l w := fun a ha hg => wpIn_skip ⟨l, ha, hg, h⟩
theorem wc_label {n : Nat} (h : Q .normal l w) : WC P N (.label n) Q l w := fun a ha hg => wpIn_label ⟨l, ha, hg, h⟩
theorem wc_exit {id : Nat} (h : Q (.exit id) l w) : WC P N (.exit id) Q l w := fun a ha hg => wpIn_exit ⟨l, ha, hg, h⟩
theorem wc_ret (h : Q .ret l w) : WC P N .ret Q l w := fun a ha hg => wpIn_ret ⟨l, ha, hg, h⟩

theorem wc_cond {c : Operand} {x y : Code} {b : Bool} (hc : evo l c = some (.bool b)) (ht : b = true → WC P N x Q l w) (hf : b = false → WC P N y Q l w) :
    WC P N (.cond c x y) Q l w :=
  fun a ha hg => wpIn_cond_split (ha.eval hc) (fun h => ht h a ha hg) (fun h => hf h a ha hg)

/-- A test whose outcome is known. -/
theorem wc_cond_t {c : Operand} {x y : Code} (hc : evo l c = some (.bool true)) (ht : WC P N x Q l w) : WC P N (.cond c x y) Q l w :=
  fun a ha hg => wpIn_cond_true (ha.eval hc) (ht a ha hg)
theorem wc_cond_f {c : Operand} {x y : Code} (hc : evo l c = some (.bool false)) (hf : WC P N y Q l w) : WC P N (.cond c x y) Q l w :=
  fun a ha hg => wpIn_cond_false (ha.eval hc) (hf a ha hg)

def blockQ (id : Nat) (Q : Post) : Post
  | .exit id', l, w => bif Nat.beq id' id then Q .normal l w else Q (.exit id') l w
  | e, l, w => Q e l w

theorem wc_block {id : Nat} {c : Code} (h : WC P N c (blockQ id Q) l w) : WC P N (.block id c) Q l w := by
  intro a ha hg
  refine wpIn_block (wpIn_mono (h a ha hg) ?_)
  rintro e a' w' ⟨l', hl', g', q⟩
  cases e with
  | exit id' =>
    simp only [Exit.inBlock]
    simp only [blockQ] at q
    by_cases e : id' = id
    · subst e
      rw [if_pos rfl]
      rw [show Nat.beq id' id' = true by simp] at q
      exact ⟨l', hl', g', q⟩
    · rw [if_neg e]
      have : Nat.beq id' id = false := by
        rw [Bool.eq_false_iff]; intro hc; exact e (Nat.eq_of_beq_eq_true hc)
      rw [this] at q
      exact ⟨l', hl', g', q⟩
  | _ => exact ⟨l', hl', g', q⟩

theorem wpIn_loopG {F : Fence} {n : Nat} {P : Program} {c : Code} {Q : Exit → Act → World → Prop} {a : Act} {w : World} {σ : Type} (I : σ → Act → World → Prop) (μ : σ → Nat) (s₀ : σ) (h₀ : I s₀ a w)
    (round : ∀ s a w, I s a w → c.wpIn F n P (Exit.then (fun a' w' => ∃ s', I s' a' w' ∧ μ s' < μ s) Q) a w) : (Code.loop c).wpIn F n P Q a w := by
  intro b k cs hro hb hr
  have key : ∀ j s a w, μ s = j → I s a w →
      ∃ e a' w', Q e a' w' ∧ ArrivesIn (Machine.fenced P F) P (lone (b.atR a (.code c :: .inLoop c :: k)) cs w) b k cs e a' w' := by
    intro j
    induction j using Nat.strongRecOn with
    | _ j ih =>
      intro s a w hn hI
      obtain ⟨e, a₁, w₁, hq, harr⟩ := round s a w hI b (.inLoop c :: k) cs hro hb hr
      cases e with
      | normal =>
        obtain ⟨s₁, hI₁, hlt⟩ := hq
        obtain ⟨e₂, a₂, w₂, hq₂, harr₂⟩ := ih (μ s₁) (hn ▸ hlt) s₁ a₁ w₁ rfl hI₁
        exact ⟨e₂, a₂, w₂, hq₂, .of_steps (StepsIn.trans harr (.one (fenced_calm hb hr rfl) stepR_inLoop)) harr₂⟩
      | exit id => exact ⟨_, a₁, w₁, hq, .pass (x := .inLoop c) rfl (fun _ _ => .inl (by simp)) harr⟩
      | goto l => exact ⟨_, a₁, w₁, hq, .pass (x := .inLoop c) rfl (fun _ _ => .inl (by simp)) harr⟩
      | ret => exact ⟨_, a₁, w₁, hq, .pass (x := .inLoop c) rfl (fun _ _ => .inl (by simp)) harr⟩
      | panic ch => exact ⟨_, a₁, w₁, hq, .pass (x := .inLoop c) rfl (fun _ _ => .inl (by simp)) harr⟩
      | outgrown => exact ⟨_, a₁, w₁, hq, .pass (x := .inLoop c) rfl (fun _ _ => .inl (by simp)) harr⟩
  obtain ⟨e, a', w', hq, harr⟩ := key _ s₀ a w rfl h₀
  exact ⟨e, a', w', hq, .of_steps (.one (fenced_calm hb hr rfl) stepR_loop) harr⟩

/-- A loop over a state of the proof's own. -/
theorem wc_loop {c : Code} {σ : Type} (fr : σ → Fr) (wd : σ → World) (inv : σ → Prop) (μ : σ → Nat) (s₀ : σ) (hi : inv s₀) (hl : Sub (fr s₀) l) (hw : wd s₀ = w)
    (body : ∀ s, inv s → WC P N c (thenK (fun l' w' => ∃ s', inv s' ∧ μ s' < μ s ∧ Sub (fr s') l' ∧ wd s' = w') Q) (fr s) (wd s)) : WC P N (.loop c) Q l w := by
  intro a ha hg
  refine wpIn_loopG (fun s a w => inv s ∧ Holds N (fr s) a ∧ Good N a w ∧ wd s = w) μ s₀ ⟨hi, ha.sub hl, hg, hw⟩ ?_
  rintro s a w ⟨h1, h2, hg, rfl⟩
  refine wpIn_mono (body s h1 a h2 hg) ?_
  rintro e a' w' ⟨l', hl', g', q⟩
  cases e with
  | normal =>
    obtain ⟨s', i', m', u', w'⟩ := q
    exact ⟨s', ⟨i', hl'.sub u', g', w'⟩, m'⟩
  | _ => exact ⟨l', hl', g', q⟩

/-! regions whose order is the text's -/
theorem wc_region {id : Nat} {ops : List Oper} (h : WL P N ops.toArray Q ops l w) : WC P N (.region id ops.toArray false) Q l w :=
  fun a ha hg => wpIn_region_lit (h a ha hg)

theorem wl_nil {ops : Array Oper} {K : Fr → World → Prop} (h : K l w) : WL P N ops (thenK K Q) [] l w := fun a ha hg => wpListIn_nil ⟨l, ha, hg, h⟩

/-- An operation that nothing guards. -/
theorem wl_op {ops : Array Oper} {o : Oper} {rest : List Oper} (hg : o.guard = none) (h : OpW P N o (fun l w => WL P N ops Q rest l w) Q l w) : WL P N ops Q (o :: rest) l w := by
  intro a ha hgd
  unfold wpListIn
  rw [if_pos (by simp [Region.wanted, hg])]
  refine Oper.wpIn_mono ?_ (h a ha hgd)
  rintro a w ⟨l', hl', g', h⟩
  exact h a hl' g'

theorem yielded_of {ops : Array Oper} {a : Act} {j d : Nat} {b : Bool} (ha : Holds N l a) (hj : (ops[j]?).bind (·.dst) = some d) (hb : l.look d = some (.bool b)) : yielded ops a.tmps j = some b := by
  simp [yielded, hj, ha.slot _ _ hb]
end
end Go.Eng
